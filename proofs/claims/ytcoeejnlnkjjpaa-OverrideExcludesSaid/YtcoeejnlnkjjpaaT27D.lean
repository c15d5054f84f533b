import Derived.Test.YtcoeejnlnkjjpaaT27C
namespace Go.Proofs.Ytcoeejnlnkjjpaa
open Go.Sym
set_option linter.unusedVariables false
set_option linter.unusedSimpArgs false

def valid (l : List Ov) : Bool := decide (l.length ≤ 100) && l.all okOv

theorem all_get {l : List Ov} (h : ∀ j, j < l.length → okOv (l.getD j zOv) = true) : l.all okOv = true := by
  rw [List.all_eq_true]
  intro o ho
  obtain ⟨j, hj, rfl⟩ := List.getElem_of_mem ho
  have := h j hj
  simpa [List.getD_eq_getElem?_getD, hj] using this
theorem not_all {l : List Ov} {j : Nat} (hj : j < l.length) (h : okOv (l.getD j zOv) = false) : l.all okOv = false := by
  rw [Bool.eq_false_iff]
  intro ha
  rw [List.all_eq_true] at ha
  have := ha (l.getD j zOv) (by simp [List.getD_eq_getElem?_getD, hj])
  rw [h] at this; cases this

theorem f15 (l : List Ov) : FCall Try.prog 15 [lOv l] (.v (vB (valid l))) := by
  refine fcall_of Try.func15 rfl (by kernel_rfl) (fun B hB => ?_)
  refine run_reg [] mix (asks_nil (by kernel_rfl)) ?_
  refine run_reg [] mix (asks_nil (by kernel_rfl)) ?_
  refine rBlock ?_
  refine rLoop (fun i : Int => mkS 23 [(0, .b (.v (lOv l))), (2, .b (.v (vB false))), (3, .b (.v (vI i)))] []) (fun i => 0 ≤ i ∧ i ≤ l.length ∧ i ≤ 101 ∧ ∀ j : Nat, (j : Int) < i → okOv (l.getD j zOv) = true) (fun i => (101 - i).toNat) 0
    (wkTo [0, 2, 3] [] (by kernel_rfl)) ⟨by omega, by omega, by omega, fun j hj => by omega⟩ ?_
  intro i ⟨h0, h1, h2, h3⟩
  refine run_reg [] mix (asks_nil (by kernel_rfl)) ?_
  refine rCond (decide (i < (l.length : Int)) && decide (i < 101)) (by kernel_rfl) (fun hc => ?_) (fun hc => ?_)
  · have hc : i < l.length ∧ i < 101 := by simpa using hc
    refine rBlock ?_
    refine run_reg [(4, .call (.v (vB (okOv (l.getD i.toNat zOv)))))] mix (asks_of [0 ≤ i ∧ i < (l.length : Int), FCall Try.prog 29 [.agg (encOv (l.getD i.toNat zOv))] (.v (vB (okOv (l.getD i.toNat zOv))))] (by kernel_rfl) ⟨⟨h0, hc.1⟩, f29 _⟩) ?_
    refine rCond (!okOv (l.getD i.toNat zOv)) (by kernel_rfl) (fun hk => ?_) (fun hk => ?_)
    · refine run_reg [] mix (asks_nil (by kernel_rfl)) ?_
      refine run_ret (blockR_ret (loopR_ret (blockR_ret (ret_of (.v (vB false)) (by kernel_rfl) ?_))))
      have hk : okOv (l.getD i.toNat zOv) = false := by simpa using hk
      rw [valid, not_all (by omega) hk, Bool.and_false]
    have hk : okOv (l.getD i.toNat zOv) = true := by simpa using hk
    refine run_nil (blockR_normal ?_)
    refine run_reg [] mix (asks_nil (by kernel_rfl)) ?_
    have e : IntKind.i64.wrap (i + 1) = i + 1 := w64 _ (by omega) (by omega)
    refine run_nil (loopR_next (IntKind.i64.wrap (i + 1)) (wkTo [0, 2, 3] [] (by kernel_rfl)) ?_ ?_)
    · rw [e]
      refine ⟨by omega, by omega, by omega, fun j hj => ?_⟩
      by_cases hji : (j : Int) < i
      · exact h3 j hji
      · have : j = i.toNat := by omega
        rw [this]; exact hk
    · rw [e]; omega
  · refine run_exit (loopR_exit (blockR_exit ?_))
    refine run_reg [] mix (asks_nil (by kernel_rfl)) ?_
    refine run_ret (ret_of (.v (vB (decide ((l.length : Int) ≤ 100)))) (by kernel_rfl) ?_)
    have hc : ¬ (i < l.length ∧ i < 101) := by
      intro h; rw [Bool.and_eq_false_iff] at hc; simp at hc; omega
    congr 3
    unfold valid
    by_cases hl : l.length ≤ 100
    · have : l.all okOv = true := all_get fun j hj => h3 j (by omega)
      simp only [this, Bool.and_true]
      simp; omega
    · have h4 : ¬ ((l.length : Int) ≤ 100) := by omega
      simp [hl, h4]

end Go.Proofs.Ytcoeejnlnkjjpaa
