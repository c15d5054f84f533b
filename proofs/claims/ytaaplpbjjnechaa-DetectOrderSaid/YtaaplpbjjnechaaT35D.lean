import Derived.Test.YtaaplpbjjnechaaT35C
namespace Go.Proofs.Ytaaplpbjjnechaa
open Go.Sym
set_option linter.unusedVariables false
set_option linter.unusedSimpArgs false

/-! ### Same -/
theorem eqTa : EqTy Try.prog 37 [.int .i64, .int .i64, .int .i64, .int .i64] := eqTy_of 3 (by kernel_rfl) (by omega) (by kernel_rfl) (by kernel_rfl)
theorem eqDe : EqTy Try.prog 32 [.int .i64, .int .i64, .int .i64, .int .i64, .int .i64] := eqTy_of 3 (by kernel_rfl) (by omega) (by kernel_rfl) (by kernel_rfl)
def eqTaB (x y : Ta) : Bool := x.t == y.t && (x.c == y.c && (x.f == y.f && (x.n == y.n && true)))
def eqDeB (x y : De) : Bool := x.t == y.t && (x.c == y.c && (x.f == y.f && (x.v == y.v && (x.a == y.a && true))))
theorem eqTaB_iff {x y : Ta} : eqTaB x y = true ↔ x = y := by cases x; cases y; simp [eqTaB]
theorem eqDeB_iff {x y : De} : eqDeB x y = true ↔ x = y := by cases x; cases y; simp [eqDeB]
theorem list_eq {α : Type} (z : α) {a b : List α} (hl : a.length = b.length) (h : ∀ j, j < a.length → a.getD j z = b.getD j z) : a = b := by
  refine List.ext_getElem hl fun j h1 h2 => ?_
  have := h j h1
  simpa [List.getD_eq_getElem?_getD, h1, h2] using this
def smTa (a b : List Ta) (i : Int) : S := mkS 26 [(0, .b (.v (lTa a))), (1, .b (.v (lTa b))), (5, .b (.v (vI i)))] []
theorem f14 (a b : List Ta) (ha : a.length ≤ 1000000) : FCall Try.prog 14 [lTa a, lTa b] (.v (vB (decide (a = b)))) := by
  refine fcall_of Try.func14 rfl (by kernel_rfl) (fun B hB => ?_)
  refine reg0 mix (by kernel_rfl) ?_
  refine reg0 mix (by kernel_rfl) ?_
  refine rCond ((a.length : Int) != (b.length : Int)) (by kernel_rfl) (fun h => ?_) (fun h => ?_)
  · refine reg0 mix (by kernel_rfl) ?_
    refine run_ret (ret_of (.v (vB false)) (by kernel_rfl) ?_)
    rw [decide_eq_false fun e => by rw [e] at h; simp at h]
  have hl : a.length = b.length := by simp at h; omega
  refine reg0 mix (by kernel_rfl) ?_
  refine rBlock ?_
  refine rLoop (smTa a b) (fun i => 0 ≤ i ∧ i ≤ a.length ∧ ∀ j, j < i.toNat → a.getD j zTa = b.getD j zTa) (fun i => (a.length - i).toNat) 0 (wkTo [0, 1, 5] [] (by kernel_rfl)) ⟨by omega, by omega, fun j hj => by simp at hj⟩ ?_
  rintro i ⟨h0, h1, h2⟩
  refine reg0 mix (by kernel_rfl) ?_
  refine rCond (decide (i < (a.length : Int))) (by kernel_rfl) (fun hc => ?_) (fun hc => ?_)
  · have hc : i < a.length := of_decide_eq_true hc
    have e : IntKind.i64.wrap (i + 1) = i + 1 := w64 _ (by omega) (by omega)
    refine rBlock ?_
    refine reg mix [] [pf (⟨h0, hc⟩ : 0 ≤ i ∧ i < (a.length : Int)), pf (⟨h0, by omega⟩ : 0 ≤ i ∧ i < (b.length : Int)), pf eqTa] (by kernel_rfl) ?_
    refine rCond (!eqTaB (a.getD i.toNat zTa) (b.getD i.toNat zTa)) (by kernel_rfl) (fun h => ?_) (fun h => ?_)
    · refine reg0 mix (by kernel_rfl) ?_
      refine run_ret (blockR_ret (loopR_ret (blockR_ret (ret_of (.v (vB false)) (by kernel_rfl) ?_))))
      rw [decide_eq_false fun e => by rw [e, eqTaB_iff.2 rfl] at h; cases h]
    · refine run_nil (blockR_normal ?_)
      refine reg0 mix (by kernel_rfl) ?_
      refine run_nil (loopR_next (IntKind.i64.wrap (i + 1)) (wkTo [0, 1, 5] [] (by kernel_rfl)) ?_ ?_)
      · rw [e]
        refine ⟨by omega, by omega, fun j hj => ?_⟩
        by_cases hji : j < i.toNat
        · exact h2 j hji
        · rw [show j = i.toNat by omega]; exact eqTaB_iff.1 (by simpa using h)
      · rw [e]; omega
  have hc : ¬ i < a.length := of_decide_eq_false hc
  refine run_exit (loopR_exit (blockR_exit ?_))
  refine reg0 mix (by kernel_rfl) ?_
  refine run_ret (ret_of (.v (vB true)) (by kernel_rfl) ?_)
  rw [decide_eq_true (list_eq zTa hl fun j hj => h2 j (by omega))]
def smDe (a b : List De) (i : Int) : S := mkS 26 [(0, .b (.v (lDe a))), (1, .b (.v (lDe b))), (5, .b (.v (vI i)))] []
theorem f21 (a b : List De) (ha : a.length ≤ 1000000) : FCall Try.prog 21 [lDe a, lDe b] (.v (vB (decide (a = b)))) := by
  refine fcall_of Try.func21 rfl (by kernel_rfl) (fun B hB => ?_)
  refine reg0 mix (by kernel_rfl) ?_
  refine reg0 mix (by kernel_rfl) ?_
  refine rCond ((a.length : Int) != (b.length : Int)) (by kernel_rfl) (fun h => ?_) (fun h => ?_)
  · refine reg0 mix (by kernel_rfl) ?_
    refine run_ret (ret_of (.v (vB false)) (by kernel_rfl) ?_)
    rw [decide_eq_false fun e => by rw [e] at h; simp at h]
  have hl : a.length = b.length := by simp at h; omega
  refine reg0 mix (by kernel_rfl) ?_
  refine rBlock ?_
  refine rLoop (smDe a b) (fun i => 0 ≤ i ∧ i ≤ a.length ∧ ∀ j, j < i.toNat → a.getD j zDe = b.getD j zDe) (fun i => (a.length - i).toNat) 0 (wkTo [0, 1, 5] [] (by kernel_rfl)) ⟨by omega, by omega, fun j hj => by simp at hj⟩ ?_
  rintro i ⟨h0, h1, h2⟩
  refine reg0 mix (by kernel_rfl) ?_
  refine rCond (decide (i < (a.length : Int))) (by kernel_rfl) (fun hc => ?_) (fun hc => ?_)
  · have hc : i < a.length := of_decide_eq_true hc
    have e : IntKind.i64.wrap (i + 1) = i + 1 := w64 _ (by omega) (by omega)
    refine rBlock ?_
    refine reg mix [] [pf (⟨h0, hc⟩ : 0 ≤ i ∧ i < (a.length : Int)), pf (⟨h0, by omega⟩ : 0 ≤ i ∧ i < (b.length : Int)), pf eqDe] (by kernel_rfl) ?_
    refine rCond (!eqDeB (a.getD i.toNat zDe) (b.getD i.toNat zDe)) (by kernel_rfl) (fun h => ?_) (fun h => ?_)
    · refine reg0 mix (by kernel_rfl) ?_
      refine run_ret (blockR_ret (loopR_ret (blockR_ret (ret_of (.v (vB false)) (by kernel_rfl) ?_))))
      rw [decide_eq_false fun e => by rw [e, eqDeB_iff.2 rfl] at h; cases h]
    · refine run_nil (blockR_normal ?_)
      refine reg0 mix (by kernel_rfl) ?_
      refine run_nil (loopR_next (IntKind.i64.wrap (i + 1)) (wkTo [0, 1, 5] [] (by kernel_rfl)) ?_ ?_)
      · rw [e]
        refine ⟨by omega, by omega, fun j hj => ?_⟩
        by_cases hji : j < i.toNat
        · exact h2 j hji
        · rw [show j = i.toNat by omega]; exact eqDeB_iff.1 (by simpa using h)
      · rw [e]; omega
  have hc : ¬ i < a.length := of_decide_eq_false hc
  refine run_exit (loopR_exit (blockR_exit ?_))
  refine reg0 mix (by kernel_rfl) ?_
  refine run_ret (ret_of (.v (vB true)) (by kernel_rfl) ?_)
  rw [decide_eq_true (list_eq zDe hl fun j hj => h2 j (by omega))]
end Go.Proofs.Ytaaplpbjjnechaa
