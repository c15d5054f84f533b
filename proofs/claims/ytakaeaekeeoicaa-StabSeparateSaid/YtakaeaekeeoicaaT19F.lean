import Derived.Test.YtakaeaekeeoicaaT19E
namespace Go.Proofs.Ytakaeaekeeoicaa
open Go.Sym
set_option linter.unusedVariables false
set_option linter.unusedSimpArgs false

/-! ### The reference's Check -/
def rk1 (l : List Sp) (pts aps : List Int) (i : Int) : S := mkS 97 (ckT l pts aps ++ [(7, .b (.v (vI i)))]) []
def rk2 (l : List Sp) (pts aps : List Int) (i : Int) : S := mkS 97 (ckT l pts aps ++ [(8, .b (.v (vI i)))]) []
def rk3 (l : List Sp) (pts aps : List Int) (i : Int) : S := mkS 97 (ckT l pts aps ++ [(9, .b (.v (vI i)))]) []
def rk4 (l : List Sp) (pts aps : List Int) (i : Int) (k : Int) : S := mkS 97 (ckT l pts aps ++ [(9, .b (.v (vI i))), (10, .b (.v (vI k)))]) []
theorem f16 (l : List Sp) (pts aps : List Int) (hl : l.length ≤ 1000000) (hp : pts.length ≤ 1000000) (ha : aps.length ≤ 1000000) : FCall Try.prog 16 [lSp l, lI pts, lI aps] (.v (vB (chkB l pts aps))) := by
  refine fcall_of Try.func16 rfl (by kernel_rfl) (fun B hB => ?_)
  refine reg0 mix (by kernel_rfl) ?_
  refine regC mix [(1, con (f22 l hl))] (by kernel_rfl) ?_
  refine rCond (!valid l || ((pts.length : Int) != (aps.length : Int))) (by kernel_rfl) (fun h => ?_) (fun h => ?_)
  · refine reg0 mix (by kernel_rfl) ?_
    refine run_ret (ret_of (.v (vB false)) (by kernel_rfl) ?_)
    rw [chk_false fun hc => ?_]
    rw [hc.val, hc.len] at h
    simp at h
  simp only [Bool.or_eq_false_iff, Bool.not_eq_false', bne_eq_false_iff_eq] at h
  obtain ⟨hv, hla⟩ := h
  have hla : pts.length = aps.length := by omega
  refine reg0 mix (by kernel_rfl) ?_
  refine rBlock ?_
  refine rLoop (rk1 l pts aps) (fun i => 0 ≤ i ∧ i ≤ l.length ∧ ∀ j, j < i.toNat → pts.any (hit (l.getD j zSp)) = true) (fun i => (l.length - i).toNat) 0 (wkTo [0, 1, 2, 7] [] (by kernel_rfl)) ⟨by omega, by omega, fun j hj => by simp at hj⟩ ?_
  rintro i ⟨hi0, hi1, hi2⟩
  refine reg0 mix (by kernel_rfl) ?_
  refine rCond (decide (i < (l.length : Int))) (by kernel_rfl) (fun hc => ?_) (fun hc => ?_)
  · have hc : i < l.length := of_decide_eq_true hc
    have e1 : IntKind.i64.wrap (i + 1) = i + 1 := w64 _ (by omega) (by omega)
    refine rBlock ?_
    refine reg mix [(5, hcon (f25 (l.getD i.toNat zSp) pts hp))] [pf (⟨hi0, hc⟩ : 0 ≤ i ∧ i < (l.length : Int)), pf (f25 (l.getD i.toNat zSp) pts hp)] (by kernel_rfl) ?_
    refine rCond (!pts.any (hit (l.getD i.toNat zSp))) (by kernel_rfl) (fun h => ?_) (fun h => ?_)
    · refine reg0 mix (by kernel_rfl) ?_
      refine run_ret (blockR_ret (loopR_ret (blockR_ret (ret_of (.v (vB false)) (by kernel_rfl) ?_))))
      rw [chk_false fun hck => ?_]
      have h1 := List.all_eq_true.1 hck.met (l.getD i.toNat zSp) (by simp [List.getD_eq_getElem?_getD, show i.toNat < l.length by omega])
      rw [h1] at h; cases h
    · refine run_nil (blockR_normal ?_)
      refine reg0 mix (by kernel_rfl) ?_
      refine run_nil (loopR_next (IntKind.i64.wrap (i + 1)) (wkTo [0, 1, 2, 7] [] (by kernel_rfl)) ?_ ?_)
      · rw [e1]
        refine ⟨by omega, by omega, fun j hj => ?_⟩
        by_cases hji : j < i.toNat
        · exact hi2 j hji
        · rw [show j = i.toNat by omega]; simpa using h
      · rw [e1]; omega
  have hc : ¬ i < l.length := of_decide_eq_false hc
  have hmet : meets l pts = true := all_upto zSp fun j hj => hi2 j (by omega)
  clear hi0 hi1 hi2
  refine run_exit (loopR_exit (blockR_exit ?_))
  refine reg0 mix (by kernel_rfl) ?_
  refine rBlock ?_
  refine rLoop (rk2 l pts aps) (fun i => 0 ≤ i ∧ i ≤ pts.length ∧ (∀ j : Nat, (j : Int) + 1 < i → pts.getD j 0 < pts.getD (j + 1) 0) ∧ ∀ j : Nat, (j : Int) < i → 0 ≤ aps.getD j 0 ∧ aps.getD j 0 < l.length) (fun i => (pts.length - i).toNat) 0 (wkTo [0, 1, 2, 8] [] (by kernel_rfl)) ⟨by omega, by omega, fun j hj => by omega, fun j hj => by omega⟩ ?_
  rintro i ⟨hi0, hi1, hi2, hi3⟩
  refine reg0 mix (by kernel_rfl) ?_
  refine rCond (decide (i < (pts.length : Int))) (by kernel_rfl) (fun hc => ?_) (fun hc => ?_)
  · have hc : i < pts.length := of_decide_eq_true hc
    have e1 : IntKind.i64.wrap (i + 1) = i + 1 := w64 _ (by omega) (by omega)
    have e2 : IntKind.i64.wrap (i - 1) = i - 1 := w64 _ (by omega) (by omega)
    have hia : 0 ≤ i ∧ i < (aps.length : Int) := ⟨hi0, by omega⟩
    refine rBlock ?_
    refine regI mix [] [pf (fun h : decide (i > 0) = true => ((by have := of_decide_eq_true h; rw [e2]; omega) : 0 ≤ IntKind.i64.wrap (i - 1) ∧ IntKind.i64.wrap (i - 1) < (pts.length : Int))), pf (fun _ : decide (i > 0) = true => (⟨hi0, hc⟩ : 0 ≤ i ∧ i < (pts.length : Int))),
      pf (fun _ : (!(decide (i > 0) && decide (pts.getD (IntKind.i64.wrap (i - 1)).toNat 0 ≥ pts.getD i.toNat 0))) = true => hia), pf (fun _ : (!((decide (i > 0) && decide (pts.getD (IntKind.i64.wrap (i - 1)).toNat 0 ≥ pts.getD i.toNat 0)) || decide (aps.getD i.toNat 0 < 0))) = true => hia)] (by kernel_rfl) ?_
    refine rCond (((decide (i > 0) && decide (pts.getD (IntKind.i64.wrap (i - 1)).toNat 0 ≥ pts.getD i.toNat 0)) || decide (aps.getD i.toNat 0 < 0)) || decide (aps.getD i.toNat 0 ≥ (l.length : Int))) (by kernel_rfl) (fun h => ?_) (fun h => ?_)
    · refine reg0 mix (by kernel_rfl) ?_
      refine run_ret (blockR_ret (loopR_ret (blockR_ret (ret_of (.v (vB false)) (by kernel_rfl) ?_))))
      rw [chk_false fun hck => ?_]
      have h1 := hck.inn i.toNat (by omega)
      simp only [Bool.or_eq_true, Bool.and_eq_true, decide_eq_true_eq] at h
      rcases h with (⟨h2, h3⟩ | h) | h
      · have hs : (IntKind.i64.wrap (i - 1)).toNat + 1 = i.toNat := by rw [e2]; omega
        have := hck.inc (IntKind.i64.wrap (i - 1)).toNat (by rw [hs]; omega)
        rw [hs] at this
        omega
      · omega
      · omega
    · refine run_nil (blockR_normal ?_)
      refine reg0 mix (by kernel_rfl) ?_
      simp only [Bool.or_eq_false_iff, Bool.and_eq_false_iff, decide_eq_false_iff_not] at h
      refine run_nil (loopR_next (IntKind.i64.wrap (i + 1)) (wkTo [0, 1, 2, 8] [] (by kernel_rfl)) ?_ ?_)
      · rw [e1]
        refine ⟨by omega, by omega, fun j hj => ?_, fun j hj => ?_⟩
        · by_cases hji : (j : Int) + 1 < i
          · exact hi2 j hji
          · have hs : (IntKind.i64.wrap (i - 1)).toNat + 1 = i.toNat := by rw [e2]; omega
            have hj' : j = (IntKind.i64.wrap (i - 1)).toNat := by rw [e2]; omega
            rcases h.1.1 with h2 | h2
            · omega
            · rw [← hs, ← hj'] at h2; omega
        · by_cases hji : (j : Int) < i
          · exact hi3 j hji
          · rw [show j = i.toNat by omega]; omega
      · rw [e1]; omega
  have hc : ¬ i < pts.length := of_decide_eq_false hc
  have hinc : ∀ j, j + 1 < pts.length → pts.getD j 0 < pts.getD (j + 1) 0 := fun j hj => hi2 j (by omega)
  have hinn : ∀ j, j < aps.length → 0 ≤ aps.getD j 0 ∧ aps.getD j 0 < l.length := fun j hj => hi3 j (by omega)
  clear hi0 hi1 hi2 hi3
  refine run_exit (loopR_exit (blockR_exit ?_))
  refine reg0 mix (by kernel_rfl) ?_
  refine rBlock ?_
  refine rLoop (rk3 l pts aps) (fun i => 0 ≤ i ∧ i ≤ aps.length ∧ ∀ j k : Nat, k < j → (j : Int) < i → dj (spA l aps j) (spA l aps k) = true) (fun i => (aps.length - i).toNat) 0 (wkTo [0, 1, 2, 9] [] (by kernel_rfl)) ⟨by omega, by omega, fun j k _ hj => by omega⟩ ?_
  rintro i ⟨hi0, hi1, hi2⟩
  refine reg0 mix (by kernel_rfl) ?_
  refine rCond (decide (i < (aps.length : Int))) (by kernel_rfl) (fun hc => ?_) (fun hc => ?_)
  · have hc : i < aps.length := of_decide_eq_true hc
    have e1 : IntKind.i64.wrap (i + 1) = i + 1 := w64 _ (by omega) (by omega)
    refine rBlock ?_
    refine reg0 mix (by kernel_rfl) ?_
    refine rBlock ?_
    refine rLoop (rk4 l pts aps i) (fun k => 0 ≤ k ∧ k ≤ i ∧ ∀ j : Nat, (j : Int) < k → dj (spA l aps i.toNat) (spA l aps j) = true) (fun k => (i - k).toNat) 0 (wkTo [0, 1, 2, 9, 10] [] (by kernel_rfl)) ⟨by omega, by omega, fun j hj => by omega⟩ ?_
    rintro k ⟨hk0, hk1, hk2⟩
    refine reg0 mix (by kernel_rfl) ?_
    refine rCond (decide (k < i)) (by kernel_rfl) (fun hc2 => ?_) (fun hc2 => ?_)
    · have hc2 : k < i := of_decide_eq_true hc2
      have e2 : IntKind.i64.wrap (k + 1) = k + 1 := w64 _ (by omega) (by omega)
      refine rBlock ?_
      refine reg mix [(14, hcon (f26 (spA l aps i.toNat) (spA l aps k.toNat)))] [pf (⟨hi0, hc⟩ : 0 ≤ i ∧ i < (aps.length : Int)), pf (hinn i.toNat (by omega)), pf (⟨hk0, by omega⟩ : 0 ≤ k ∧ k < (aps.length : Int)), pf (hinn k.toNat (by omega)), pf (f26 (spA l aps i.toNat) (spA l aps k.toNat))] (by kernel_rfl) ?_
      refine rCond (!dj (spA l aps i.toNat) (spA l aps k.toNat)) (by kernel_rfl) (fun h => ?_) (fun h => ?_)
      · refine reg0 mix (by kernel_rfl) ?_
        refine run_ret (blockR_ret (loopR_ret (blockR_ret (blockR_ret (loopR_ret (blockR_ret (ret_of (.v (vB false)) (by kernel_rfl) ?_)))))))
        rw [chk_false fun hck => ?_]
        have := hck.dis i.toNat k.toNat (by omega) (by omega)
        rw [this] at h; cases h
      · refine run_nil (blockR_normal ?_)
        refine reg0 mix (by kernel_rfl) ?_
        refine run_nil (loopR_next (IntKind.i64.wrap (k + 1)) (wkTo [0, 1, 2, 9, 10] [] (by kernel_rfl)) ?_ ?_)
        · rw [e2]
          refine ⟨by omega, by omega, fun j hj => ?_⟩
          by_cases hjk : (j : Int) < k
          · exact hk2 j hjk
          · rw [show j = k.toNat by omega]; simpa using h
        · rw [e2]; omega
    have hc2 : ¬ k < i := of_decide_eq_false hc2
    refine run_exit (loopR_exit (blockR_exit ?_))
    refine run_nil (blockR_normal ?_)
    refine reg0 mix (by kernel_rfl) ?_
    refine run_nil (loopR_next (IntKind.i64.wrap (i + 1)) (wkTo [0, 1, 2, 9] [] (by kernel_rfl)) ?_ ?_)
    · rw [e1]
      refine ⟨by omega, by omega, fun j k' hk' hj => ?_⟩
      by_cases hji : (j : Int) < i
      · exact hi2 j k' hk' hji
      · rw [show j = i.toNat by omega]; exact hk2 k' (by omega)
    · rw [e1]; omega
  have hc : ¬ i < aps.length := of_decide_eq_false hc
  refine run_exit (loopR_exit (blockR_exit ?_))
  refine reg0 mix (by kernel_rfl) ?_
  refine run_ret (ret_of (.v (vB true)) (by kernel_rfl) ?_)
  rw [chk_true]
  exact ⟨hv, hla, hinc, hmet, hinn, fun j k hk hj => hi2 j k hk (by omega)⟩
end Go.Proofs.Ytakaeaekeeoicaa
