import Derived.Test.YtmdgbejfdcfhpaaT20B
namespace Go.Proofs.Ytmdgbejfdcfhpaa
open Go.Sym
set_option linter.unusedVariables false
set_option linter.unusedSimpArgs false

/-! ### The reference's Median -/
def ahead (l : List Int) (i j : Nat) : Bool := decide (l.getD j 0 < l.getD i 0) || ((l.getD j 0 == l.getD i 0) && decide (j < i))
def rk (l : List Int) (i : Nat) : Nat → Int
  | 0 => 0
  | k + 1 => if ahead l i k then rk l i k + 1 else rk l i k
theorem rk_bound (l : List Int) (i : Nat) : ∀ k, 0 ≤ rk l i k ∧ rk l i k ≤ k := by
  intro k
  induction k with
  | zero => simp [rk]
  | succ k ih => simp only [rk]; split <;> omega
def midE (l : List Int) : Int := IntKind.i64.wrap ((IntKind.i64.wrap ((l.length : Int) - 1)).tdiv 2)
def medF (l : List Int) : Nat → Nat → SB
  | _, 0 => .tup [vI 0, vI 10]
  | i, n + 1 => if rk l i l.length == midE l then .tup [vI (l.getD i 0), vI 0] else medF l (i + 1) n
def medR (l : List Int) : SB := if (l.length : Int) > 1000 then .tup [vI 0, vI 2] else if l.length = 0 then .tup [vI 0, vI 10] else medF l 0 l.length

structure Q2 where
  j : Int
  n : Int
def q1S (l : List Int) (i : Int) : S := mkS 62 [(0, .b (.v (lI l))), (4, .b (.v (vI i)))] []
def q2S (l : List Int) (i : Int) (x : Q2) : S := mkS 62 [(0, .b (.v (lI l))), (4, .b (.v (vI i))), (5, .b (.v (vI x.n))), (6, .b (.v (vI x.j)))] []
theorem f14 (l : List Int) : FCall Try.prog 14 [lI l] (medR l) := by
  refine fcall_of Try.func14 rfl (by kernel_rfl) (fun B hB => ?_)
  refine reg0 mix (by kernel_rfl) ?_
  refine reg0 mix (by kernel_rfl) ?_
  refine rCond (decide ((l.length : Int) > 1000)) (by kernel_rfl) (fun h => ?_) (fun h => ?_)
  · refine reg0 mix (by kernel_rfl) ?_
    refine run_ret (ret_of (.tup [vI 0, vI 2]) (by kernel_rfl) ?_)
    rw [medR, if_pos (of_decide_eq_true h)]
  have h1 := of_decide_eq_false h
  refine reg0 mix (by kernel_rfl) ?_
  refine rCond ((l.length : Int) == 0) (by kernel_rfl) (fun h => ?_) (fun h => ?_)
  · refine reg0 mix (by kernel_rfl) ?_
    refine run_ret (ret_of (.tup [vI 0, vI 10]) (by kernel_rfl) ?_)
    rw [medR, if_neg h1, if_pos (by simp at h; simp [h])]
  have h2 : l.length ≠ 0 := by simpa using h
  rw [show medR l = medF l 0 l.length by rw [medR, if_neg h1, if_neg h2]]
  refine reg0 mix (by kernel_rfl) ?_
  refine rBlock ?_
  refine rLoop (q1S l) (fun i => 0 ≤ i ∧ i ≤ l.length ∧ medF l 0 l.length = medF l i.toNat (l.length - i.toNat)) (fun i => (l.length - i).toNat) 0 (wkTo [0, 4] [] (by kernel_rfl)) ⟨by omega, by omega, rfl⟩ ?_
  intro i ⟨hi0, hi1, hm⟩
  refine reg0 mix (by kernel_rfl) ?_
  refine rCond (decide (i < (l.length : Int))) (by kernel_rfl) (fun hc => ?_) (fun hc => ?_)
  · have hc : i < l.length := of_decide_eq_true hc
    have e : IntKind.i64.wrap (i + 1) = i + 1 := w64 _ (by omega) (by omega)
    rw [show l.length - i.toNat = (l.length - (i.toNat + 1)) + 1 by omega, medF] at hm
    refine rBlock ?_
    refine reg0 mix (by kernel_rfl) ?_
    refine reg0 mix (by kernel_rfl) ?_
    refine rBlock ?_
    refine rLoop (q2S l i) (fun x => 0 ≤ x.j ∧ x.j ≤ l.length ∧ x.n = rk l i.toNat x.j.toNat) (fun x => (l.length - x.j).toNat) ⟨0, 0⟩ (wkTo [0, 4, 5, 6] [] (by kernel_rfl)) ⟨by simp, by simp, rfl⟩ ?_
    rintro ⟨j, n⟩ ⟨hj0, hj1, hn⟩
    simp only at hj0 hj1 hn
    have hb := rk_bound l i.toNat j.toNat
    refine reg0 mix (by kernel_rfl) ?_
    refine rCond (decide (j < (l.length : Int))) (by kernel_rfl) (fun hc2 => ?_) (fun hc2 => ?_)
    · have hc2 : j < l.length := of_decide_eq_true hc2
      have e2 : IntKind.i64.wrap (j + 1) = j + 1 := w64 _ (by omega) (by omega)
      have e3 : IntKind.i64.wrap (n + 1) = n + 1 := w64 _ (by omega) (by omega)
      have hs : (j + 1).toNat = j.toNat + 1 := by omega
      have ea : (decide (l.getD j.toNat 0 < l.getD i.toNat 0) || ((l.getD j.toNat 0 == l.getD i.toNat 0) && decide (j < i))) = ahead l i.toNat j.toNat := by
        rw [ahead]
        congr 2
        rw [decide_eq_decide]; omega
      refine rJoin (fun n' => q2S l i ⟨j, n'⟩) (fun n' => n' = rk l i.toNat (j + 1).toNat) (List.cons_ne_nil _ _) ?_ ?_
      · refine rBlock ?_
        refine reg mix [] [pf (⟨hj0, hc2⟩ : 0 ≤ j ∧ j < (l.length : Int)), pf (⟨hi0, hc⟩ : 0 ≤ i ∧ i < (l.length : Int)), pf (⟨hj0, hc2⟩ : 0 ≤ j ∧ j < (l.length : Int)), pf (⟨hi0, hc⟩ : 0 ≤ i ∧ i < (l.length : Int))] (by kernel_rfl) ?_
        refine rCond (decide (l.getD j.toNat 0 < l.getD i.toNat 0) || ((l.getD j.toNat 0 == l.getD i.toNat 0) && decide (j < i))) (by kernel_rfl) (fun h => ?_) (fun h => ?_)
        · rw [ea] at h
          refine reg0 mix (by kernel_rfl) ?_
          refine run_nil (blockR_normal (run_nil (joined (IntKind.i64.wrap (n + 1)) ?_ (wkTo [0, 4, 5, 6] [] (by kernel_rfl)))))
          rw [e3, hs, rk, if_pos h, hn]
        · rw [ea] at h
          refine run_nil (blockR_normal (run_nil (joined n ?_ (wkTo [0, 4, 5, 6] [] (by kernel_rfl)))))
          rw [hs, rk, if_neg (by rw [h]; exact Bool.false_ne_true), hn]
      · intro n' hn'
        refine reg0 mix (by kernel_rfl) ?_
        refine run_nil (loopR_next (⟨IntKind.i64.wrap (j + 1), n'⟩ : Q2) (wkTo [0, 4, 5, 6] [] (by kernel_rfl)) ?_ ?_)
        · rw [e2]; exact ⟨by simp only; omega, by simp only; omega, hn'⟩
        · simp only [e2]; omega
    have hc2 : ¬ j < l.length := of_decide_eq_false hc2
    rw [show j.toNat = l.length by omega] at hn
    refine run_exit (loopR_exit (blockR_exit ?_))
    refine reg mix [] [pf (by omega : (2 : Int) ≠ 0)] (by kernel_rfl) ?_
    refine rCond (n == midE l) (by kernel_rfl) (fun h => ?_) (fun h => ?_)
    · refine reg mix [] [pf (⟨hi0, hc⟩ : 0 ≤ i ∧ i < (l.length : Int))] (by kernel_rfl) ?_
      refine run_ret (blockR_ret (loopR_ret (blockR_ret (ret_of (.tup [vI (l.getD i.toNat 0), vI 0]) (by kernel_rfl) ?_))))
      rw [hn] at h
      rw [hm, if_pos h]
    · refine run_nil (blockR_normal ?_)
      refine reg0 mix (by kernel_rfl) ?_
      refine run_nil (loopR_next (IntKind.i64.wrap (i + 1)) (wkTo [0, 4] [] (by kernel_rfl)) ?_ ?_)
      · rw [e]
        refine ⟨by omega, by omega, ?_⟩
        rw [hn] at h
        rw [hm, if_neg (by rw [h]; exact Bool.false_ne_true), show (i + 1).toNat = i.toNat + 1 by omega]
      · rw [e]; omega
  · have hc : ¬ i < l.length := of_decide_eq_false hc
    refine run_exit (loopR_exit (blockR_exit ?_))
    refine reg0 mix (by kernel_rfl) ?_
    refine run_ret (ret_of (.tup [vI 0, vI 10]) (by kernel_rfl) ?_)
    rw [hm, show l.length - i.toNat = 0 by omega, medF]

end Go.Proofs.Ytmdgbejfdcfhpaa
