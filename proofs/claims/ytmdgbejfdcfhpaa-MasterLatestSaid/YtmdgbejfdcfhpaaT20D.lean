import Derived.Test.YtmdgbejfdcfhpaaT20C
namespace Go.Proofs.Ytmdgbejfdcfhpaa
open Go.Sym
set_option linter.unusedVariables false
set_option linter.unusedSimpArgs false

/-! ### Values, Backward -/
def vlX (l : List Int) : List (List CV) := l.map fun x => [vI x]
theorem vlX_len (l : List Int) : (vlX l).length = l.length := by simp [vlX]
def vlS (l : List Int) (k : Nat) (x : Int × Nat) : S :=
  mkI 16 [(0, .b (.v (.c (.yld 0)))), (1, .b (.v (.c (.kptr [.lst 1 l.length (elI l)] 0)))), (5, .b (.v (lI l))), (6, .b (.v (vI l.length))), (7, .b (.v (vI x.1)))] [(0, .cnt x.2 (vlX l) k)]
theorem f39 (l : List Int) (hl : l.length ≤ 1000000) : FIter Try.prog 39 [.kptr [.lst 1 l.length (elI l)] 0] (vlX l) := by
  refine fiter_of Try.func39 rfl (by kernel_rfl) rfl (fun k B hk hB => ?_)
  rw [vlX_len] at hk
  refine reg0 mix (by kernel_rfl) ?_
  refine rBlock ?_
  refine rLoop (vlS l k) (fun x => 0 ≤ x.1 ∧ x.1 ≤ l.length ∧ (x.2 : Int) = x.1 ∧ x.2 ≤ k) (fun x => (l.length - x.1).toNat) (0, 0) (wkTo [0, 1, 5, 6, 7] [] (by kernel_rfl)) ⟨by omega, by omega, rfl, Nat.zero_le _⟩ ?_
  rintro ⟨i, j⟩ ⟨h0, h1, h2, h3⟩
  simp only at h0 h1 h2 h3
  refine reg0 mix (by kernel_rfl) ?_
  refine rCond (decide (i < (l.length : Int))) (by kernel_rfl) (fun hc => ?_) (fun hc => ?_)
  · have hc : i < l.length := of_decide_eq_true hc
    refine rBlock ?_
    refine reg mix [] [pf (⟨h0, hc⟩ : 0 ≤ i ∧ i < (l.length : Int))] (by kernel_rfl) ?_
    have hask : j < (vlX l).length ∧ j ≤ k ∧ (vlX l).getD j [] = [vI (l.getD i.toNat 0)] := by
      have hj : j < l.length := by omega
      refine ⟨by rw [vlX_len]; omega, h3, ?_⟩
      rw [show i.toNat = j by omega]
      simp [vlX, List.getD_eq_getElem?_getD, hj]
    refine reg mix [] [pf hask] (by kernel_rfl) ?_
    refine rCond (!decide (j < k)) (by kernel_rfl) (fun h => ?_) (fun h => ?_)
    · simp only [Bool.not_eq_true', decide_eq_false_iff_not] at h
      refine run_ret (blockR_ret (loopR_ret (blockR_ret ⟨.inl rfl, ?_⟩)))
      refine Eq.trans (b := some (some (.cnt (j + 1) (vlX l) k))) (by kernel_rfl) ?_
      rw [stopN_lt (show k < (vlX l).length by have := hask.1; omega), show j = k by omega]
    · refine run_nil (blockR_normal ?_)
      refine reg0 mix (by kernel_rfl) ?_
      have e : IntKind.i64.wrap (i + 1) = i + 1 := w64 _ (by omega) (by omega)
      refine run_nil (loopR_next (IntKind.i64.wrap (i + 1), j + 1) (wkTo [0, 1, 5, 6, 7] [] (by kernel_rfl)) ?_ ?_)
      · simp only [e]
        simp only [Bool.not_eq_false', decide_eq_true_iff] at h
        refine ⟨by omega, by omega, by omega, by omega⟩
      · simp only [e]; omega
  · have hc : ¬ i < l.length := of_decide_eq_false hc
    refine run_exit (loopR_exit (blockR_exit ?_))
    refine run_nil ⟨.inr rfl, ?_⟩
    refine Eq.trans (b := some (some (.cnt j (vlX l) k))) (by kernel_rfl) ?_
    have e : j = (vlX l).length := by rw [vlX_len]; omega
    have e2 : k = (vlX l).length := by omega
    rw [e2, stopN_eq, e]
theorem f28 (l : List Int) : FCall Try.prog 28 [lI l] (.v (.c (.clo 39 [.kptr [.lst 1 l.length (elI l)] 0]))) := by
  refine fcall_of Try.func28 rfl (by kernel_rfl) (fun B hB => ?_)
  refine reg mix [(0, .imm)] [] (by kernel_rfl) ?_
  refine reg0 mix (by kernel_rfl) ?_
  exact run_ret (ret_of _ (by kernel_rfl) rfl)

def bwX (l : List Ca) : List (List CV) := (List.range l.length).map fun (j : Nat) => [vI ((l.length : Int) - 1 - (j : Int)), .agg (encCa (l.getD (l.length - 1 - j) zCa))]
theorem bwX_len (l : List Ca) : (bwX l).length = l.length := by simp [bwX]
def bwS (l : List Ca) (k : Nat) (x : Int × Nat) : S :=
  mkI 19 [(0, .b (.v (.c (.yld 0)))), (1, .b (.v (.c (.kptr [.lst 9 l.length (elCa l)] 0)))), (3, .b (.v (vI x.1)))] [(0, .cnt x.2 (bwX l) k)]
theorem f34 (l : List Ca) (hl : l.length ≤ 1000000) : FIter Try.prog 34 [.kptr [.lst 9 l.length (elCa l)] 0] (bwX l) := by
  refine fiter_of Try.func34 rfl (by kernel_rfl) rfl (fun k B hk hB => ?_)
  rw [bwX_len] at hk
  refine reg0 mix (by kernel_rfl) ?_
  refine rBlock ?_
  have ew : IntKind.i64.wrap ((l.length : Int) - 1) = (l.length : Int) - 1 := w64 _ (by omega) (by omega)
  refine rLoop (bwS l k) (fun x => -1 ≤ x.1 ∧ x.1 < l.length ∧ (x.2 : Int) = (l.length : Int) - 1 - x.1 ∧ x.2 ≤ k) (fun x => (x.1 + 1).toNat) (IntKind.i64.wrap ((l.length : Int) - 1), 0) (wkTo [0, 1, 3] [] (by kernel_rfl)) ⟨by rw [ew]; simp only; omega, by rw [ew]; simp only; omega, by rw [ew]; simp only; omega, Nat.zero_le _⟩ ?_
  rintro ⟨i, j⟩ ⟨h0, h1, h2, h3⟩
  simp only at h0 h1 h2 h3
  refine reg0 mix (by kernel_rfl) ?_
  refine rCond (decide (i ≥ 0)) (by kernel_rfl) (fun hc => ?_) (fun hc => ?_)
  · have hc : i ≥ 0 := of_decide_eq_true hc
    refine rBlock ?_
    have hask : j < (bwX l).length ∧ j ≤ k ∧ (bwX l).getD j [] = [vI i, .agg (encCa (l.getD i.toNat zCa))] := by
      have hj : j < l.length := by omega
      refine ⟨by rw [bwX_len]; omega, h3, ?_⟩
      rw [show i.toNat = l.length - 1 - j by omega, show i = (l.length : Int) - 1 - (j : Int) by omega]
      simp [bwX, List.getD_eq_getElem?_getD, hj]
    refine reg mix [] [pf (⟨hc, h1⟩ : 0 ≤ i ∧ i < (l.length : Int)), pf hask] (by kernel_rfl) ?_
    refine rCond (!decide (j < k)) (by kernel_rfl) (fun h => ?_) (fun h => ?_)
    · simp only [Bool.not_eq_true', decide_eq_false_iff_not] at h
      refine run_ret (blockR_ret (loopR_ret (blockR_ret ⟨.inl rfl, ?_⟩)))
      refine Eq.trans (b := some (some (.cnt (j + 1) (bwX l) k))) (by kernel_rfl) ?_
      rw [stopN_lt (show k < (bwX l).length by have := hask.1; omega), show j = k by omega]
    · refine run_nil (blockR_normal ?_)
      refine reg0 mix (by kernel_rfl) ?_
      have e : IntKind.i64.wrap (i - 1) = i - 1 := w64 _ (by omega) (by omega)
      refine run_nil (loopR_next (IntKind.i64.wrap (i - 1), j + 1) (wkTo [0, 1, 3] [] (by kernel_rfl)) ?_ ?_)
      · simp only [e]
        simp only [Bool.not_eq_false', decide_eq_true_iff] at h
        refine ⟨by omega, by omega, by omega, by omega⟩
      · simp only [e]; omega
  · have hc : ¬ i ≥ 0 := of_decide_eq_false hc
    refine run_exit (loopR_exit (blockR_exit ?_))
    refine run_nil ⟨.inr rfl, ?_⟩
    refine Eq.trans (b := some (some (.cnt j (bwX l) k))) (by kernel_rfl) ?_
    have e : j = (bwX l).length := by rw [bwX_len]; omega
    have e2 : k = (bwX l).length := by omega
    rw [e2, stopN_eq, e]
theorem f23 (l : List Ca) : FCall Try.prog 23 [lCa l] (.v (.c (.clo 34 [.kptr [.lst 9 l.length (elCa l)] 0]))) := by
  refine fcall_of Try.func23 rfl (by kernel_rfl) (fun B hB => ?_)
  refine reg mix [(0, .imm)] [] (by kernel_rfl) ?_
  refine reg0 mix (by kernel_rfl) ?_
  exact run_ret (ret_of _ (by kernel_rfl) rfl)

end Go.Proofs.Ytmdgbejfdcfhpaa
