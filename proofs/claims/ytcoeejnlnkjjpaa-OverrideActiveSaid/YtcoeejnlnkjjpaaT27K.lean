import Derived.Test.YtcoeejnlnkjjpaaT27J
namespace Go.Proofs.Ytcoeejnlnkjjpaa
open Go.Sym
set_option linter.unusedVariables false
set_option linter.unusedSimpArgs false

theorem actErr_ne (l : List Ov) (m : Int) : (actErr l m != 0) = !argOk l m := by
  unfold actErr; cases argOk l m <;> decide
theorem actErr_eq (l : List Ov) (m : Int) : (actErr l m == 0) = argOk l m := by
  unfold actErr; cases argOk l m <;> decide
theorem stuckE_ne (l : List Ov) (t m : Int) : (stuckE l t m != 0) = !argsS l t m := by
  unfold stuckE; cases argsS l t m <;> decide
theorem stuckE_eq (l : List Ov) (t m : Int) : (stuckE l t m == 1) = !argsS l t m := by
  unfold stuckE; cases argsS l t m <;> decide
theorem errOf_ne1 (o : Ov) : (errOf o == 1) = false := by
  unfold errOf; split
  · decide
  · split <;> decide
theorem judge_1 (l : List Ov) (t p u m : Int) : (judge l t p u m == 1) = !argsJ l t p u m := by
  unfold judge
  cases argsJ l t p u m
  · rfl
  · simp only [if_true, Bool.not_true]
    split
    · exact errOf_ne1 _
    · decide
theorem hits_err {o : Ov} {t p u : Int} (h : hits o t p u = true) : errOf o ≠ 0 := by
  unfold hits at h
  unfold errOf
  split at h
  · rename_i h1; simp [h1]
  · split at h
    · rename_i h1 h2; simp [h1, h2]
    · split at h
      · rename_i h1 h2 h3; simp [h1, h2, h3]
      · cases h

/-! ### Active -/
theorem actL_app (l r : List Ov) (m : Int) : ∀ n, n ≤ l.length → actL (l ++ r) m n = actL l m n := by
  intro n
  induction n with
  | zero => intro _; rfl
  | succ n ih =>
    intro hn
    have e : (l ++ r).getD n zOv = l.getD n zOv := by
      simp [List.getD_eq_getElem?_getD, List.getElem?_append_left (show n < l.length by omega)]
    rw [actL_succ, actL_succ, ih (by omega), e]
theorem actI_app {l : List Ov} {fu : Ov} {m : Int} (h : m < fu.known) : actI (l ++ [fu]) m = actI l m := by
  unfold actI
  have e : (l ++ [fu]).getD l.length zOv = fu := by simp [List.getD_eq_getElem?_getD]
  have hf : inF fu m = false := by
    rw [inF_force, Bool.eq_false_iff]
    simp only [force, ne_eq, Bool.and_eq_true, decide_eq_true_iff]
    omega
  rw [List.length_append, show [fu].length = 1 from rfl, actL_succ, actL_app l [fu] m l.length (Nat.le_refl _), e, hf]
  rfl
theorem app_row (l : List Ov) (fu : Ov) : ∀ i, i < (l ++ [fu]).length → elOv (l ++ [fu]) i = ((([] : List (List C)) ++ (List.range l.length).map (elOv l)) ++ [encOv fu]).getD i [] := by
  intro i hi
  simp only [List.length_append, List.length_cons, List.length_nil] at hi
  rw [List.nil_append]
  by_cases h : i < l.length
  · simp [elOv, List.getD_eq_getElem?_getD, List.getElem?_append_left, h]
  · have : i = l.length := by omega
    subst this
    simp [elOv, List.getD_eq_getElem?_getD, List.getElem?_append_right]
theorem argOk_not {l : List Ov} {m : Int} (h : argOk l m = false) : ((!valid l || decide (m < 0)) || decide (m > 38399)) = true := by
  revert h
  unfold argOk within
  cases valid l <;> simp
  omega

def oaS (l : List Ov) (fu : Ov) (m k i : Int) : S :=
  mkS 124 [(0, .b (.v (lOv l))), (2, .b (.v (vI m))), (4, .b (.v (.c (.ptr 4 0)))), (6, .b (.v (vB false))), (7, .b (.v (vB true))), (8, .b (.v (lI (active l m)))), (10, .b (.v (vI k))), (11, .b (.v (vI i)))] [(4, .cells (encOv fu))]

theorem f4 (l : List Ov) (fu : Ov) (m : Int) : FCall Try.prog 4 [lOv l, .agg (encOv fu), vI m] (.v (vB true)) := by
  refine fcall_of Try.func4 rfl (by kernel_rfl) (fun B hB => ?_)
  refine reg0 mix (by kernel_rfl) ?_
  refine regC mix [(0, con f8)] (by kernel_rfl) ?_
  refine regC mix [(1, con (f9 l))] (by kernel_rfl) ?_
  refine rCond (!few l.length) (by kernel_rfl) (fun h => ?_) (fun h => ?_)
  · refine reg0 mix (by kernel_rfl) ?_
    exact run_ret (ret_of (.v (vB true)) (by kernel_rfl) rfl)
  have hfew := few_len (by simpa using h : few l.length = true)
  refine regC mix [(2, con (f10 l m))] (by kernel_rfl) ?_
  refine reg0 mix (by kernel_rfl) ?_
  refine rCond (actErr l m != 0) (by kernel_rfl) (fun h => ?_) (fun h => ?_)
  · refine regC mix [(8, con (f14 l))] (by kernel_rfl) ?_
    refine run_ret (ret_of (.v (vB ((true && (((active l m).length : Int) == 0)) && ((!valid l || decide (m < 0)) || decide (m > 38399))))) (by kernel_rfl) ?_)
    rw [actErr_ne] at h
    have hk : argOk l m = false := by simpa using h
    rw [argOk_not hk]
    simp [active, hk]
  rw [actErr_ne] at h
  have hk : argOk l m = true := by simpa using h
  have hact : active l m = actI l m := by simp [active, hk]
  have hlen : (actI l m).length = (actX l m).length := by simp [actI, actX]
  refine reg0 mix (by kernel_rfl) ?_
  refine reg0 mix (by kernel_rfl) ?_
  refine rBlock ?_
  refine rLoop (fun x : Int × Int => oaS l fu m x.1 x.2) (fun x => 0 ≤ x.2 ∧ x.2 ≤ l.length ∧ x.1 = ((actL l m x.2.toNat).length : Nat)) (fun x => (l.length - x.2).toNat) (0, 0) (wkTo [0, 2, 4, 6, 7, 8, 10, 11] [] (by kernel_rfl)) ⟨by omega, by omega, rfl⟩ ?_
  rintro ⟨k, i⟩ ⟨h0, h1, h2⟩
  simp only at h0 h1 h2
  refine reg0 mix (by kernel_rfl) ?_
  refine rCond (decide (i < (l.length : Int))) (by kernel_rfl) (fun hc => ?_) (fun hc => ?_)
  · have hc : i < l.length := of_decide_eq_true hc
    have e : IntKind.i64.wrap (i + 1) = i + 1 := w64 _ (by omega) (by omega)
    have et : (i + 1).toNat = i.toNat + 1 := by omega
    have hi : 0 ≤ i ∧ i < (l.length : Int) := ⟨h0, hc⟩
    refine rBlock ?_
    refine reg mix [] [pf hi, pf hi, pf hi] (by kernel_rfl) ?_
    refine rCond ((decide (m < (l.getD i.toNat zOv).frm) || decide (m < (l.getD i.toNat zOv).known)) || decide (m > (l.getD i.toNat zOv).til)) (by kernel_rfl) (fun h => ?_) (fun h => ?_)
    · have hf : inF (l.getD i.toNat zOv) m = false := by
        rw [inF_force, Bool.eq_false_iff]
        simp only [force, ne_eq, Bool.and_eq_true, decide_eq_true_iff]
        simp only [Bool.or_eq_true, decide_eq_true_iff] at h
        omega
      refine run_exit (blockR_exit ?_)
      refine reg0 mix (by kernel_rfl) ?_
      refine run_nil (loopR_next (k, IntKind.i64.wrap (i + 1)) (wkTo [0, 2, 4, 6, 7, 8, 10, 11] [] (by kernel_rfl)) ?_ ?_)
      · simp only [e]
        refine ⟨by omega, by omega, ?_⟩
        rw [et, actL_len, hf]; exact h2
      · simp only [e]; omega
    have hf : inF (l.getD i.toNat zOv) m = true := by
      rw [inF_force]
      simp only [force, Bool.and_eq_true, decide_eq_true_iff]
      simp only [Bool.or_eq_false_iff, decide_eq_false_iff_not] at h
      omega
    obtain ⟨g1, g2⟩ := actL_at (by omega : i.toNat < l.length) hf
    have hg : (active l m).getD k.toNat 0 = i := by
      rw [hact, h2, Int.toNat_natCast]
      have h3 := actX_get g1
      rw [g2] at h3
      simp only [List.cons.injEq, CV.c.injEq, C.int.injEq, true_and] at h3
      rw [actX_len] at g1
      simp only [actI, List.getD_eq_getElem?_getD, List.getElem?_map] at *
      rw [List.getElem?_eq_getElem g1] at *
      simp only [Option.getD_some, Option.map_some] at *
      omega
    have hb : 0 ≤ k ∧ k < ((active l m).length : Int) := by rw [hact, hlen, h2]; omega
    refine reg mix [] [pf hb] (by kernel_rfl) ?_
    refine rCondF (decide (k ≥ ((active l m).length : Int)) || ((active l m).getD k.toNat 0 != i)) (by kernel_rfl) ?_ ?_
    · rw [hg]
      simp; omega
    refine reg0 mix (by kernel_rfl) ?_
    have e2 : IntKind.i64.wrap (k + 1) = k + 1 := by
      have := actX_le l m
      refine w64 _ (by omega) ?_
      rw [hact, hlen] at hb; omega
    refine run_nil (blockR_normal ?_)
    refine reg0 mix (by kernel_rfl) ?_
    refine run_nil (loopR_next (IntKind.i64.wrap (k + 1), IntKind.i64.wrap (i + 1)) (wkTo [0, 2, 4, 6, 7, 8, 10, 11] [] (by kernel_rfl)) ?_ ?_)
    · simp only [e, e2]
      refine ⟨by omega, by omega, ?_⟩
      rw [et, actL_len, hf, h2]; simp
    · simp only [e]; omega
  · have hc : ¬ i < l.length := of_decide_eq_false hc
    refine run_exit (loopR_exit (blockR_exit ?_))
    have hi : i.toNat = l.length := by omega
    have hk2 : k = ((active l m).length : Int) := by rw [h2, hi, hact]; simp [actI]
    refine regF hB mix [(5, .frzA (l ++ [fu]).length (elOv (l ++ [fu]))), (7, hcon (f10 (l ++ [fu]) m))]
      [pf (rfl : 0 = ([] : List (List C)).length), pf (by omega : (0 + l.length) * 57 ≤ 140737488355328), pf (by simp : 0 + l.length = (([] : List (List C)) ++ (List.range l.length).map (elOv l)).length), pf (by omega : (0 + l.length + 1) * 57 ≤ 140737488355328),
       pf (⟨by simp, app_row l fu⟩ : (l ++ [fu]).length = 0 + l.length + 1 ∧ ∀ i, i < (l ++ [fu]).length → elOv (l ++ [fu]) i = ((([] : List (List C)) ++ (List.range l.length).map (elOv l)) ++ [encOv fu]).getD i []), pf (rfl : 1 = [encOv fu].length), pf (f10 (l ++ [fu]) m)] (by kernel_rfl) ?_
    refine regC mix [(19, con (f16 (active l m) (active (l ++ [fu]) m) (active_len l m)))] (by kernel_rfl) ?_
    refine run_ret (ret_of (.v (vB ((true && (k == ((active l m).length : Int))) && (((actErr (l ++ [fu]) m != 0) || decide (fu.known ≤ m)) || eqI (active l m) (active (l ++ [fu]) m))))) (by kernel_rfl) ?_)
    rw [hk2, actErr_ne]
    congr 3
    simp only [BEq.rfl, Bool.true_and]
    cases hk3 : argOk (l ++ [fu]) m
    · simp
    · by_cases hkn : fu.known ≤ m
      · simp [hkn]
      · have : active (l ++ [fu]) m = active l m := by
          rw [hact]
          simp only [active, hk3, if_true]
          exact actI_app (by omega)
        simp [eqI, this]

end Go.Proofs.Ytcoeejnlnkjjpaa
