import Derived.Test.YtcoeejnlnkjjpaaT27K
namespace Go.Proofs.Ytcoeejnlnkjjpaa
open Go.Sym
set_option linter.unusedVariables false
set_option linter.unusedSimpArgs false

theorem excl_hits (o : Ov) (t p u : Int) : excl o t p u = hits o t p u := by
  unfold excl hits
  by_cases h1 : o.kind = 1
  · simp [h1]
  · by_cases h2 : o.kind = 2
    · simp [h2]
    · by_cases h3 : o.kind = 3
      · simp [h3]
      · simp [h1, h2, h3]

theorem actL_mem (l : List Ov) (m : Int) : ∀ n x, x ∈ actL l m n → x.1 < n ∧ x.2 = l.getD x.1 zOv := by
  intro n
  induction n with
  | zero => intro x h; cases h
  | succ n ih =>
    intro x h
    rw [actL_succ] at h
    split at h
    · rcases List.mem_append.1 h with h | h
      · obtain ⟨h1, h2⟩ := ih x h; exact ⟨by omega, h2⟩
      · simp only [List.mem_singleton] at h
        subst h
        exact ⟨by omega, rfl⟩
    · obtain ⟨h1, h2⟩ := ih x h; exact ⟨by omega, h2⟩
theorem actI_get {l : List Ov} {m : Int} {i : Nat} (h : i < (actI l m).length) : 0 ≤ (actI l m).getD i 0 ∧ (actI l m).getD i 0 < l.length ∧ l.getD ((actI l m).getD i 0).toNat zOv = (fl l m).getD i zOv := by
  have h' : i < (actL l m l.length).length := by simpa [actI] using h
  obtain ⟨h1, h2⟩ := actL_mem l m l.length _ (List.getElem_mem h')
  have e : (actI l m).getD i 0 = ((actL l m l.length)[i].1 : Nat) := by simp [actI, List.getD_eq_getElem?_getD, h']
  rw [e]
  refine ⟨by omega, by omega, ?_⟩
  rw [Int.toNat_natCast, ← h2, fl_eq]
  simp [List.getD_eq_getElem?_getD, h']
theorem actI_fl (l : List Ov) (m : Int) : (actI l m).length = (fl l m).length := by rw [fl_eq]; simp [actI]

/-- The first of the last ones. -/
def wantFrom (l : List Ov) (t p u m : Int) (n : Nat) : Int := match ((fl l m).drop n).find? (fun o => hits o t p u) with
  | some o => errOf o
  | none => 0
def heldFrom (l : List Ov) (t m : Int) (n : Nat) : Bool := ((fl l m).drop n).any (pStuck t)
theorem fl_drop {l : List Ov} {m : Int} {n : Nat} (h : n < (fl l m).length) : (fl l m).drop n = (fl l m).getD n zOv :: (fl l m).drop (n + 1) := by
  rw [List.drop_eq_getElem_cons h]
  simp [List.getD_eq_getElem?_getD, h]
theorem want_step {l : List Ov} {t p u m : Int} {n : Nat} (h : n < (fl l m).length) : wantFrom l t p u m n = if hits ((fl l m).getD n zOv) t p u then errOf ((fl l m).getD n zOv) else wantFrom l t p u m (n + 1) := by
  unfold wantFrom
  rw [fl_drop h, List.find?_cons]
  cases hits ((fl l m).getD n zOv) t p u <;> rfl
theorem held_step {l : List Ov} {t m : Int} {n : Nat} (h : n < (fl l m).length) : heldFrom l t m n = (heldFrom l t m (n + 1) || pStuck t ((fl l m).getD n zOv)) := by
  unfold heldFrom
  rw [fl_drop h, List.any_cons, Bool.or_comm]

structure ExS where
  i : Int
  want : Int
  held : Bool
def exS (l : List Ov) (t p u m : Int) (x : ExS) : S :=
  mkS 135 [(0, .b (.v (lOv l))), (1, .b (.v (vI t))), (2, .b (.v (vI p))), (3, .b (.v (vI u))), (10, .b (.v (vB false))), (11, .b (.v (vB true))), (12, .b (.v (lI (active l m)))), (14, .b (.v (vI (judge l t p u m)))), (15, .b (.v (vB (stuckB l t m)))),
    (17, .b (.v (vI x.want))), (18, .b (.v (vB x.held))), (19, .b (.v (vI x.i)))] []

theorem f5 (l : List Ov) (t p u m : Int) : FCall Try.prog 5 [lOv l, vI t, vI p, vI u, vI m] (.v (vB true)) := by
  refine fcall_of Try.func5 rfl (by kernel_rfl) (fun B hB => ?_)
  refine reg0 mix (by kernel_rfl) ?_
  refine regC mix [(0, con f8)] (by kernel_rfl) ?_
  refine regC mix [(1, con (f9 l))] (by kernel_rfl) ?_
  refine rCond (!few l.length) (by kernel_rfl) (fun h => ?_) (fun h => ?_)
  · refine reg0 mix (by kernel_rfl) ?_
    exact run_ret (ret_of (.v (vB true)) (by kernel_rfl) rfl)
  have hfew := few_len (by simpa using h : few l.length = true)
  refine regC mix [(2, con (f10 l m))] (by kernel_rfl) ?_
  refine regC mix [(5, con (f17 l t p u m))] (by kernel_rfl) ?_
  refine regC mix [(3, con (f12 l t m))] (by kernel_rfl) ?_
  refine reg0 mix (by kernel_rfl) ?_
  refine rCond (((actErr l m != 0) || (judge l t p u m == 1)) || (stuckE l t m != 0)) (by kernel_rfl) (fun h => ?_) (fun h => ?_)
  · refine reg0 mix (by kernel_rfl) ?_
    refine run_ret (ret_of (.v (vB ((true && ((actErr l m == 0) || ((judge l t p u m == 1) && (stuckE l t m == 1)))) && !((stuckE l t m != 0) && stuckB l t m)))) (by kernel_rfl) ?_)
    rw [actErr_eq, judge_1, stuckE_eq, stuckE_ne]
    unfold stuckB
    congr 3
    cases hk : argOk l m
    · simp [argsJ, argsS, hk]
    · cases argsS l t m <;> simp
  rw [actErr_ne, judge_1, stuckE_ne] at h
  have hk : argOk l m = true ∧ argsJ l t p u m = true ∧ argsS l t m = true := by
    revert h; cases argOk l m <;> cases argsJ l t p u m <;> cases argsS l t m <;> simp
  obtain ⟨hk, hkJ, hkS⟩ := hk
  have hact : active l m = actI l m := by simp [active, hk]
  have hfl : (active l m).length = (fl l m).length := by rw [hact, actI_fl]
  have hle : (active l m).length ≤ 1000000 := active_len l m
  refine reg0 mix (by kernel_rfl) ?_
  refine reg0 mix (by kernel_rfl) ?_
  refine reg0 mix (by kernel_rfl) ?_
  refine rBlock ?_
  have e0 : IntKind.i64.wrap ((active l m).length - 1) = (active l m).length - 1 := w64 _ (by omega) (by omega)
  refine rLoop (exS l t p u m) (fun x => -1 ≤ x.i ∧ x.i < (active l m).length ∧ x.want = wantFrom l t p u m (x.i + 1).toNat ∧ x.held = heldFrom l t m (x.i + 1).toNat) (fun x => (x.i + 1).toNat) ⟨IntKind.i64.wrap ((active l m).length - 1), 0, false⟩
    (wkTo [0, 1, 2, 3, 10, 11, 12, 14, 15, 17, 18, 19] [] (by kernel_rfl)) ?_ ?_
  · simp only [e0]
    refine ⟨by omega, by omega, ?_, ?_⟩
    · rw [show ((active l m).length - 1 + 1 : Int).toNat = (fl l m).length by omega]
      simp [wantFrom]
    · rw [show ((active l m).length - 1 + 1 : Int).toNat = (fl l m).length by omega]
      simp [heldFrom]
  rintro ⟨i, want, held⟩ ⟨h0, h1, h2, h3⟩
  simp only at h0 h1 h2 h3
  refine reg0 mix (by kernel_rfl) ?_
  refine rCond (decide (i ≥ 0)) (by kernel_rfl) (fun hc => ?_) (fun hc => ?_)
  · have hc : i ≥ 0 := of_decide_eq_true hc
    have e : IntKind.i64.wrap (i - 1) = i - 1 := w64 _ (by omega) (by omega)
    have hi : 0 ≤ i ∧ i < ((active l m).length : Int) := ⟨hc, h1⟩
    have hin : i.toNat < (fl l m).length := by omega
    obtain ⟨a0, a1, a2⟩ := actI_get (l := l) (m := m) (i := i.toNat) (by rw [actI_fl]; exact hin)
    rw [← hact] at a0 a1 a2
    have et : (i + 1).toNat = i.toNat + 1 := by omega
    have ew := want_step (t := t) (p := p) (u := u) hin
    have eh := held_step (t := t) hin
    rw [et] at h2 h3
    rw [← h2] at ew
    rw [← h3] at eh
    have em : (i - 1 + 1).toNat = i.toNat := by omega
    refine rBlock ?_
    refine reg mix [] [pf hi, pf hi] (by kernel_rfl) ?_
    refine rCondF (decide ((active l m).getD i.toNat 0 < 0) || decide ((active l m).getD i.toNat 0 ≥ (l.length : Int))) (by kernel_rfl) ?_ ?_
    · rw [Bool.or_eq_false_iff]; exact ⟨decide_eq_false (by omega), decide_eq_false (by omega)⟩
    refine reg mix [] [pf hi, pf (⟨a0, a1⟩ : 0 ≤ (active l m).getD i.toNat 0 ∧ (active l m).getD i.toNat 0 < (l.length : Int))] (by kernel_rfl) ?_
    refine reg0 mix (by kernel_rfl) ?_
    refine regC mix [(4, con (f19 (l.getD ((active l m).getD i.toNat 0).toNat zOv) t p u))] (by kernel_rfl) ?_
    refine rCond (excl (l.getD ((active l m).getD i.toNat 0).toNat zOv) t p u) (by kernel_rfl) (fun hx => ?_) (fun hx => ?_)
    · rw [a2, excl_hits] at hx
      refine reg0 mix (by kernel_rfl) ?_
      refine reg0 mix (by kernel_rfl) ?_
      refine rCond ((l.getD ((active l m).getD i.toNat 0).toNat zOv).kind == 1) (by kernel_rfl) (fun h4 => ?_) (fun h4 => ?_)
      · rw [a2, beq_iff_eq] at h4
        refine reg0 mix (by kernel_rfl) ?_
        refine run_nil (blockR_normal ?_)
        refine reg0 mix (by kernel_rfl) ?_
        refine run_nil (loopR_next ⟨IntKind.i64.wrap (i - 1), 18, held || pStuck t (l.getD ((active l m).getD i.toNat 0).toNat zOv)⟩ (wkTo [0, 1, 2, 3, 10, 11, 12, 14, 15, 17, 18, 19] [20] (by kernel_rfl)) ?_ ?_)
        · simp only [e, em]
          refine ⟨by omega, by omega, ?_, by rw [a2]; exact eh.symm⟩
          rw [ew, if_pos hx]; unfold errOf; rw [if_pos h4]
        · simp only [e]; omega
      · rw [a2, beq_eq_false_iff_ne] at h4
        refine run_nil (blockR_normal ?_)
        refine reg0 mix (by kernel_rfl) ?_
        refine run_nil (loopR_next ⟨IntKind.i64.wrap (i - 1), 22, held || pStuck t (l.getD ((active l m).getD i.toNat 0).toNat zOv)⟩ (wkTo [0, 1, 2, 3, 10, 11, 12, 14, 15, 17, 18, 19] [20] (by kernel_rfl)) ?_ ?_)
        · simp only [e, em]
          refine ⟨by omega, by omega, ?_, by rw [a2]; exact eh.symm⟩
          rw [ew, if_pos hx]
          have := hits_err hx
          simp only [errOf] at this ⊢
          split
          · rename_i h5; exact absurd h5 h4
          · split
            · rfl
            · rename_i h5 h6; rw [if_neg h5, if_neg h6] at this; exact absurd rfl this
        · simp only [e]; omega
    · rw [a2, excl_hits] at hx
      refine run_nil (blockR_normal ?_)
      refine reg0 mix (by kernel_rfl) ?_
      refine run_nil (loopR_next ⟨IntKind.i64.wrap (i - 1), want, held || pStuck t (l.getD ((active l m).getD i.toNat 0).toNat zOv)⟩ (wkTo [0, 1, 2, 3, 10, 11, 12, 14, 15, 17, 18, 19] [20] (by kernel_rfl)) ?_ ?_)
      · simp only [e, em]
        refine ⟨by omega, by omega, ?_, by rw [a2]; exact eh.symm⟩
        rw [ew, if_neg (by rw [hx]; exact Bool.false_ne_true)]
      · simp only [e]; omega
  · have hc : ¬ i ≥ 0 := of_decide_eq_false hc
    have hi : (i + 1).toNat = 0 := by omega
    rw [hi] at h2 h3
    refine run_exit (loopR_exit (blockR_exit ?_))
    refine reg0 mix (by kernel_rfl) ?_
    refine run_ret (ret_of (.v (vB ((true && (judge l t p u m == want)) && (stuckB l t m == held)))) (by kernel_rfl) ?_)
    have e1 : judge l t p u m = want := by
      rw [h2]
      simp only [judge, hkJ, if_true, wantFrom, List.drop_zero]
      cases (fl l m).find? (fun o => hits o t p u) <;> rfl
    have e2 : stuckB l t m = held := by rw [h3]; simp [stuckB, hkS, heldFrom]
    rw [e1, e2]; simp

/-! ### Further -/
theorem fl_app (l : List Ov) (fu : Ov) (m : Int) : fl (l ++ [fu]) m = fl l m ++ fl [fu] m := by simp [fl, List.filter_append]
theorem judge_app {l : List Ov} {fu : Ov} {t p u m : Int} (h1 : argsJ l t p u m = true) (h2 : argsJ [fu] t p u m = true) (h3 : argsJ (l ++ [fu]) t p u m = true) :
    judge (l ++ [fu]) t p u m = if judge l t p u m = 0 then judge [fu] t p u m else judge l t p u m := by
  simp only [judge, h1, h2, h3, if_true]
  rw [fl_app, List.find?_append]
  cases hf : (fl l m).find? fun o => hits o t p u with
  | none => simp
  | some o =>
    have ho := List.find?_some hf
    have := hits_err ho
    simp [this]
theorem args_app {l : List Ov} {fu : Ov} {t p u m : Int} (h3 : argsJ (l ++ [fu]) t p u m = true) : argsJ l t p u m = true ∧ argsJ [fu] t p u m = true := by
  simp only [argsJ, argOk, valid, Bool.and_eq_true, decide_eq_true_iff, List.all_append, List.length_append] at h3 ⊢
  obtain ⟨⟨⟨h, h4, h5⟩, h6⟩, h7⟩ := h3
  exact ⟨⟨⟨⟨by omega, h4⟩, h6⟩, h7⟩, ⟨⟨⟨by simp, h5⟩, h6⟩, h7⟩⟩
theorem args_len {l : List Ov} {fu : Ov} {t p u m : Int} (h1 : argsJ l t p u m = true) (h2 : argsJ [fu] t p u m = true) (h3 : argsJ (l ++ [fu]) t p u m = false) : l.length ≥ 100 := by
  have h4 : ¬ l.length < 100 := by
    intro hlt
    apply Bool.false_ne_true
    rw [← h3]
    simp only [argsJ, argOk, valid, Bool.and_eq_true, decide_eq_true_iff, List.all_append, List.length_append] at h1 h2 ⊢
    exact ⟨⟨⟨by simp; omega, h1.1.1.2, h2.1.1.2⟩, h1.1.2⟩, h1.2⟩
  omega

theorem f6 (l : List Ov) (fu : Ov) (t p u m : Int) : FCall Try.prog 6 [lOv l, .agg (encOv fu), vI t, vI p, vI u, vI m] (.v (vB true)) := by
  refine fcall_of Try.func6 rfl (by kernel_rfl) (fun B hB => ?_)
  refine reg0 mix (by kernel_rfl) ?_
  refine regC mix [(0, con f8)] (by kernel_rfl) ?_
  refine regC mix [(1, con (f9 l))] (by kernel_rfl) ?_
  refine rCond (!few l.length) (by kernel_rfl) (fun h => ?_) (fun h => ?_)
  · refine reg0 mix (by kernel_rfl) ?_
    exact run_ret (ret_of (.v (vB true)) (by kernel_rfl) rfl)
  have hfew := few_len (by simpa using h : few l.length = true)
  refine regC mix [(5, con (f17 l t p u m))] (by kernel_rfl) ?_
  refine reg mix [(1, .frz 1 (elOv [fu])), (6, hcon (f17 [fu] t p u m))] [pf (ck1 (encOv fu) (elOv [fu]) rfl), pf (f17 [fu] t p u m)] (by kernel_rfl) ?_
  refine regF hB mix [(5, .frzA (l ++ [fu]).length (elOv (l ++ [fu]))), (10, hcon (f17 (l ++ [fu]) t p u m))]
    [pf (rfl : 0 = ([] : List (List C)).length), pf (by omega : (0 + l.length) * 57 ≤ 140737488355328), pf (by simp : 0 + l.length = (([] : List (List C)) ++ (List.range l.length).map (elOv l)).length), pf (by omega : (0 + l.length + 1) * 57 ≤ 140737488355328),
     pf (⟨by simp, app_row l fu⟩ : (l ++ [fu]).length = 0 + l.length + 1 ∧ ∀ i, i < (l ++ [fu]).length → elOv (l ++ [fu]) i = ((([] : List (List C)) ++ (List.range l.length).map (elOv l)) ++ [encOv fu]).getD i []), pf (rfl : 1 = [encOv fu].length), pf (f17 (l ++ [fu]) t p u m)] (by kernel_rfl) ?_
  refine reg0 mix (by kernel_rfl) ?_
  refine rCond ((judge l t p u m == 1) || (judge [fu] t p u m == 1)) (by kernel_rfl) (fun h => ?_) (fun h => ?_)
  · refine reg0 mix (by kernel_rfl) ?_
    refine run_ret (ret_of (.v (vB (true && (judge (l ++ [fu]) t p u m == 1)))) (by kernel_rfl) ?_)
    rw [judge_1, judge_1] at h
    rw [judge_1]
    cases h3 : argsJ (l ++ [fu]) t p u m
    · rfl
    · obtain ⟨h1, h2⟩ := args_app h3
      rw [h1, h2] at h; cases h
  rw [judge_1, judge_1] at h
  have hk : argsJ l t p u m = true ∧ argsJ [fu] t p u m = true := by
    revert h; cases argsJ l t p u m <;> cases argsJ [fu] t p u m <;> simp
  refine reg0 mix (by kernel_rfl) ?_
  refine rCond (judge (l ++ [fu]) t p u m == 1) (by kernel_rfl) (fun h => ?_) (fun h => ?_)
  · refine reg0 mix (by kernel_rfl) ?_
    refine run_ret (ret_of (.v (vB (true && decide ((l.length : Int) ≥ 100)))) (by kernel_rfl) ?_)
    rw [judge_1] at h
    have := args_len hk.1 hk.2 (by simpa using h)
    have h100 : (l.length : Int) ≥ 100 := by omega
    rw [decide_eq_true h100]; rfl
  rw [judge_1] at h
  have h3 : argsJ (l ++ [fu]) t p u m = true := by simpa using h
  have hj := judge_app hk.1 hk.2 h3
  refine reg0 mix (by kernel_rfl) ?_
  refine rCond (judge l t p u m != 0) (by kernel_rfl) (fun h => ?_) (fun h => ?_)
  · refine reg0 mix (by kernel_rfl) ?_
    refine run_ret (ret_of (.v (vB (true && (judge (l ++ [fu]) t p u m == judge l t p u m)))) (by kernel_rfl) ?_)
    rw [bne_iff_ne] at h
    rw [hj, if_neg h]; simp
  · refine reg0 mix (by kernel_rfl) ?_
    refine run_ret (ret_of (.v (vB (true && (judge (l ++ [fu]) t p u m == judge [fu] t p u m)))) (by kernel_rfl) ?_)
    have h0 : judge l t p u m = 0 := by simpa using h
    rw [hj, if_pos h0]; simp

/-! ### Order -/
theorem valid_rev (l : List Ov) : valid l.reverse = valid l := by simp [valid]
theorem fl_rev (l : List Ov) (m : Int) : fl l.reverse m = (fl l m).reverse := by simp [fl, List.filter_reverse]
theorem judge_0 {l : List Ov} {t p u m : Int} (h : argsJ l t p u m = true) : (judge l t p u m == 0) = !(fl l m).any fun o => hits o t p u := by
  simp only [judge, h, if_true]
  rw [any_find]
  cases hf : (fl l m).find? fun o => hits o t p u with
  | none => rfl
  | some o =>
    have := hits_err (List.find?_some (p := fun o => hits o t p u) hf)
    simp [this]
theorem args_rev (l : List Ov) (t p u m : Int) : argsJ l.reverse t p u m = argsJ l t p u m := by simp [argsJ, argOk, valid_rev]
theorem judge_rev0 (l : List Ov) (t p u m : Int) : (judge l.reverse t p u m == 0) = (judge l t p u m == 0) := by
  cases h : argsJ l t p u m
  · simp [judge, h, args_rev]
  · rw [judge_0 h, judge_0 (by rw [args_rev]; exact h), fl_rev, List.any_reverse]
theorem judge_rev1 (l : List Ov) (t p u m : Int) : (judge l.reverse t p u m == 1) = (judge l t p u m == 1) := by rw [judge_1, judge_1, args_rev]
theorem stuckB_rev (l : List Ov) (t m : Int) : stuckB l.reverse t m = stuckB l t m := by
  simp [stuckB, argsS, argOk, valid_rev, fl_rev]
theorem stuckE_rev (l : List Ov) (t m : Int) : stuckE l.reverse t m = stuckE l t m := by simp [stuckE, argsS, argOk, valid_rev]
theorem fl_of_act {l : List Ov} {m n : Int} (h : actI l m = actI l n) : fl l m = fl l n := by
  have key : ∀ m, fl l m = (actI l m).map fun i => l.getD i.toNat zOv := by
    intro m
    rw [fl_eq]
    simp only [actI, List.map_map]
    refine List.map_congr_left fun x hx => ?_
    rw [(actL_mem l m l.length x hx).2]
    rfl
  rw [key m, key n, h]

def orS (l : List Ov) (t p u m n : Int) (x : Int × Nat × List (List C)) : S :=
  mkS 148 [(0, .b (.v (lOv l))), (1, .b (.v (vI t))), (2, .b (.v (vI p))), (3, .b (.v (vI u))), (4, .b (.v (vI m))), (5, .b (.v (vI n))), (12, .b (.v (vB false))), (13, .b (.v (vB true))), (14, .b (.v (.c (.row 1 x.2.1)))), (15, .b (.v (vI x.1)))] [(1, .row 35 7 x.2.2)]
def backF (l : List Ov) (n : Nat) : List (List C) := (l.drop n).reverse.map encOv
theorem backF_step {l : List Ov} {n : Nat} (h : n < l.length) : backF l n = backF l (n + 1) ++ [encOv (l.getD n zOv)] := by
  unfold backF
  have e : l.getD n zOv = l[n] := by simp [List.getD_eq_getElem?_getD, h]
  rw [List.drop_eq_getElem_cons h, List.reverse_cons, List.map_append, e]
  rfl

theorem f7 (l : List Ov) (t p u m n : Int) : FCall Try.prog 7 [lOv l, vI t, vI p, vI u, vI m, vI n] (.v (vB true)) := by
  refine fcall_of Try.func7 rfl (by kernel_rfl) (fun B hB => ?_)
  refine reg0 mix (by kernel_rfl) ?_
  refine regC mix [(0, con f8)] (by kernel_rfl) ?_
  refine regC mix [(1, con (f9 l))] (by kernel_rfl) ?_
  refine rCond (!few l.length) (by kernel_rfl) (fun h => ?_) (fun h => ?_)
  · refine reg0 mix (by kernel_rfl) ?_
    exact run_ret (ret_of (.v (vB true)) (by kernel_rfl) rfl)
  have hfew := few_len (by simpa using h : few l.length = true)
  refine reg0 mix (by kernel_rfl) ?_
  refine run_weaken (wk_nilRow 14 1 35 7 (by kernel_rfl) (by kernel_rfl) (by omega)) ?_ (List.cons_ne_nil _ _)
  refine reg0 mix (by kernel_rfl) ?_
  refine rBlock ?_
  have e0 : IntKind.i64.wrap (l.length - 1) = l.length - 1 := w64 _ (by omega) (by omega)
  refine rLoop (orS l t p u m n) (fun x => -1 ≤ x.1 ∧ x.1 < l.length ∧ x.2.1 = x.2.2.length ∧ x.2.2 = backF l (x.1 + 1).toNat) (fun x => (x.1 + 1).toNat) (IntKind.i64.wrap (l.length - 1), 0, []) (wkTo [0, 1, 2, 3, 4, 5, 12, 13, 14, 15] [] (by kernel_rfl)) ?_ ?_
  · simp only [e0]
    refine ⟨by omega, by omega, rfl, ?_⟩
    rw [show ((l.length : Int) - 1 + 1).toNat = l.length by omega]
    simp [backF]
  rintro ⟨i, k, css⟩ ⟨h0, h1, h2, h3⟩
  simp only at h0 h1 h2 h3
  refine reg0 mix (by kernel_rfl) ?_
  refine rCond (decide (i ≥ 0)) (by kernel_rfl) (fun hc => ?_) (fun hc => ?_)
  · have hc : i ≥ 0 := of_decide_eq_true hc
    have e : IntKind.i64.wrap (i - 1) = i - 1 := w64 _ (by omega) (by omega)
    have hi : 0 ≤ i ∧ i < (l.length : Int) := ⟨hc, h1⟩
    have hkl : k ≤ l.length := by rw [h2, h3]; simp [backF]
    refine rBlock ?_
    refine reg mix [] [pf hi, pf h2, pf (by omega : (k + 1) * 57 ≤ 140737488355328), pf (rfl : 1 = [encOv (l.getD i.toNat zOv)].length)] (by kernel_rfl) ?_
    refine run_nil (blockR_normal ?_)
    refine reg0 mix (by kernel_rfl) ?_
    refine run_nil (loopR_next (IntKind.i64.wrap (i - 1), k + 1, css ++ [encOv (l.getD i.toNat zOv)]) (wkTo [0, 1, 2, 3, 4, 5, 12, 13, 14, 15] [45] (by kernel_rfl)) ?_ ?_)
    · simp only [e]
      refine ⟨by omega, by omega, by simp [h2], ?_⟩
      rw [show (i - 1 + 1).toNat = i.toNat by omega, backF_step (by omega), h3, show (i + 1).toNat = i.toNat + 1 by omega]
    · simp only [e]; omega
  · have hc : ¬ i ≥ 0 := of_decide_eq_false hc
    rw [show (i + 1).toNat = 0 by omega] at h3
    have hk : k = l.reverse.length := by rw [h2, h3]; simp [backF]
    have hcss : ∀ j, j < l.reverse.length → elOv l.reverse j = css.getD j [] := by
      intro j hj
      rw [h3]
      simp only [elOv, backF, List.drop_zero, List.getD_eq_getElem?_getD, List.getElem?_map]
      rw [List.getElem?_eq_getElem hj]
      rfl
    subst hk
    refine run_exit (loopR_exit (blockR_exit ?_))
    refine frzRow hB 14 1 l.reverse.length 35 7 css (elOv l.reverse) [0, 1, 2, 3, 4, 5, 12, 13] [] (by kernel_rfl) (by kernel_rfl) h2 hcss (by kernel_rfl) ?_ (List.cons_ne_nil _ _)
    refine regC mix [(5, con (f17 l t p u m))] (by kernel_rfl) ?_
    refine regC mix [(5, con (f17 l.reverse t p u m))] (by kernel_rfl) ?_
    refine regC mix [(3, con (f12 l t m))] (by kernel_rfl) ?_
    refine regC mix [(3, con (f12 l.reverse t m))] (by kernel_rfl) ?_
    refine reg0 mix (by kernel_rfl) ?_
    refine rCondF (((!((judge l t p u m == 0) == (judge l.reverse t p u m == 0)) || !((judge l t p u m == 1) == (judge l.reverse t p u m == 1))) || !(stuckB l t m == stuckB l.reverse t m)) || (stuckE l t m != stuckE l.reverse t m)) (by kernel_rfl) ?_ ?_
    · rw [judge_rev0, judge_rev1, stuckB_rev, stuckE_rev]; simp
    refine regC mix [(2, con (f10 l m))] (by kernel_rfl) ?_
    refine regC mix [(2, con (f10 l n))] (by kernel_rfl) ?_
    refine regC mix [(9, con (f16 (active l m) (active l n) (active_len l m)))] (by kernel_rfl) ?_
    refine rCond (((actErr l m != 0) || (actErr l n != 0)) || !eqI (active l m) (active l n)) (by kernel_rfl) (fun h => ?_) (fun h => ?_)
    · refine reg0 mix (by kernel_rfl) ?_
      exact run_ret (ret_of (.v (vB true)) (by kernel_rfl) rfl)
    rw [actErr_ne, actErr_ne] at h
    have hk2 : argOk l m = true ∧ argOk l n = true ∧ eqI (active l m) (active l n) = true := by
      revert h; cases argOk l m <;> cases argOk l n <;> cases eqI (active l m) (active l n) <;> simp
    obtain ⟨a1, a2, a3⟩ := hk2
    have hfl : fl l n = fl l m := by
      refine fl_of_act ?_
      simp only [eqI, decide_eq_true_iff, active, a1, a2, if_true] at a3
      exact a3.symm
    refine regC mix [(3, con (f12 l t n))] (by kernel_rfl) ?_
    refine regC mix [(7, con (f17 l t p u n))] (by kernel_rfl) ?_
    refine run_ret (ret_of (.v (vB (((true && (judge l t p u n == judge l t p u m)) && (stuckB l t n == stuckB l t m)) && (stuckE l t n == stuckE l t m)))) (by kernel_rfl) ?_)
    have j1 : judge l t p u n = judge l t p u m := by simp only [judge, argsJ, a1, a2, hfl]
    have j2 : stuckB l t n = stuckB l t m := by simp only [stuckB, argsS, a1, a2, hfl]
    have j3 : stuckE l t n = stuckE l t m := by simp only [stuckE, argsS, a1, a2]
    rw [j1, j2, j3]; simp

end Go.Proofs.Ytcoeejnlnkjjpaa
