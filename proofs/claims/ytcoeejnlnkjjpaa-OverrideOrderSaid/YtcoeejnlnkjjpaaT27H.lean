import Derived.Test.YtcoeejnlnkjjpaaT27G
namespace Go.Proofs.Ytcoeejnlnkjjpaa
open Go.Sym
set_option linter.unusedVariables false
set_option linter.unusedSimpArgs false

/-- The overrides in force. -/
def fl (l : List Ov) (m : Int) : List Ov := l.filter fun o => force o m
theorem actL_snd (l : List Ov) (m : Int) : ∀ n, n ≤ l.length → (actL l m n).map Prod.snd = (l.take n).filter fun o => force o m := by
  intro n
  induction n with
  | zero => intro _; rfl
  | succ n ih =>
    intro hn
    rw [actL_succ, List.take_succ_eq_append_getElem (by omega), List.filter_append, ← ih (by omega), inF_force]
    have e : l.getD n zOv = l[n] := by simp [List.getD_eq_getElem?_getD, show n < l.length by omega]
    rw [e]
    cases h : force l[n] m <;> simp [h]
theorem fl_eq (l : List Ov) (m : Int) : fl l m = (actL l m l.length).map Prod.snd := by
  rw [actL_snd l m l.length (Nat.le_refl _), List.take_length]; rfl
theorem fl_len (l : List Ov) (m : Int) : (actX l m).length = (fl l m).length := by rw [fl_eq, actX_len]; simp
def idx (l : List Ov) (m : Int) (i : Nat) : Int := (((actL l m l.length).getD i (0, zOv)).1 : Nat)
theorem actX_fl {l : List Ov} {m : Int} {i : Nat} (h : i < (actX l m).length) : (actX l m).getD i [] = [vI (idx l m i), .agg (encOv ((fl l m).getD i zOv))] := by
  rw [actX_get h, fl_eq]
  rw [actX_len] at h
  simp [idx, List.getD_eq_getElem?_getD, h]

def pStuck (t : Int) (o : Ov) : Bool := o.kind == 4 && o.tel == t
def argsS (l : List Ov) (t m : Int) : Bool := argOk l m && within t 6
def stuckB (l : List Ov) (t m : Int) : Bool := argsS l t m && (fl l m).any (pStuck t)
def stuckE (l : List Ov) (t m : Int) : Int := if argsS l t m then 0 else 1

def stI (t : Int) : S := mkS 37 [(4, .b (.v (.c (.ptr 4 0)))), (6, .b (.v (.c (.ptr 6 0)))), (7, .b (.v (.c (.ptr 7 0))))] [(4, .cells [cI t]), (6, .cells [cB false]), (7, .cells [cI 0])]
def stP (t : Int) (b : Bool) : S := mkS 37 [(4, .pin 4 (.v (.c (.ptr 4 0)))), (6, .pin 6 (.v (.c (.ptr 6 0)))), (7, .pin 7 (.v (.c (.ptr 7 0))))] [(4, .cells [cI t]), (6, .cells [cB b]), (7, .cells [cI 0])]

theorem f12 (l : List Ov) (t m : Int) : FCall Try.prog 12 [lOv l, vI t, vI m] (.tup [vB (stuckB l t m), vI (stuckE l t m)]) := by
  refine fcall_of Try.func12 rfl (by kernel_rfl) (fun B hB => ?_)
  refine reg0 mix (by kernel_rfl) ?_
  refine regC mix [(1, con (f14 l)), (5, con (f21 m)), (10, con (f25 t 6))] (by kernel_rfl) ?_
  refine rCond ((!valid l || !within m 38400) || !within t 6) (by kernel_rfl) (fun h => ?_) (fun h => ?_)
  · have hk : argsS l t m = false := by
      revert h; unfold argsS argOk; cases valid l <;> cases within m 38400 <;> cases within t 6 <;> simp
    refine reg0 mix (by kernel_rfl) ?_
    refine run_ret (ret_of (.tup [vB false, vI 1]) (by kernel_rfl) ?_)
    simp [stuckB, stuckE, hk]
  have hv : valid l = true ∧ within m 38400 = true ∧ within t 6 = true := by
    revert h; cases valid l <;> cases within m 38400 <;> cases within t 6 <;> simp
  have hk : argsS l t m = true := by simp [argsS, argOk, hv]
  have hl := valid_len hv.1
  refine regC mix [(2, con (f22 l m))] (by kernel_rfl) ?_
  refine rBlock ?_
  have hkl : (fl l m).findIdx (pStuck t) ≤ (actX l m).length := by rw [fl_len]; exact findIdx_le _
  refine rRange hB.r hB.fn (by kernel_rfl) (f30 l m hl) (fun i hi => by rw [actX_get hi]; rfl) ((fl l m).findIdx (pStuck t)) hkl (fun _ => stI t) (wkTo [4, 6, 7] [] (by kernel_rfl)) (fun i _ => by kernel_rfl) ?_ ?_
  · intro i hi hik B1
    rw [actX_fl hi]
    have hi' : i < (fl l m).length := by rw [← fl_len]; exact hi
    refine reg0 mix (by kernel_rfl) ?_
    refine run_nil ⟨rfl, by kernel_rfl, fun B2 => ?_⟩
    refine rBlock ?_
    refine reg0 mix (by kernel_rfl) ?_
    refine rCond (pStuck t ((fl l m).getD i zOv)) (by kernel_rfl) (fun h => ?_) (fun h => ?_)
    · obtain ⟨h1, h2⟩ := find_hit hi' hik h
      refine reg0 mix (by kernel_rfl) ?_
      refine run_ret (blockR_ret ⟨h1, stP t true, wkTo [4, 6, 7] [9] (by kernel_rfl), by kernel_rfl, blockR_ret (ret_of (.tup [vB true, vI 0]) (by kernel_rfl) ?_)⟩)
      simp [stuckB, stuckE, hk, any_find, h2]
    · exact run_nil (blockR_normal (run_nil ⟨find_miss hi' hik h, stP t false, wkTo [4, 6, 7] [9] (by kernel_rfl), by kernel_rfl, Wk.refl _⟩))
  · intro hlen
    refine run_nil (blockR_normal ?_)
    refine reg0 mix (by kernel_rfl) ?_
    refine run_ret (ret_of (.tup [vB false, vI 0]) (by kernel_rfl) ?_)
    have := find_none (p := pStuck t) (l := fl l m) (by rw [← fl_len]; exact hlen)
    simp [stuckB, stuckE, hk, any_find, this]

def argsJ (l : List Ov) (t p u m : Int) : Bool := argOk l m && candOk t p u
def judge (l : List Ov) (t p u m : Int) : Int := if argsJ l t p u m then (match (fl l m).find? (fun o => hits o t p u) with | some o => errOf o | none => 0) else 1

theorem okOv_kind {o : Ov} (h : okOv o = true) : o.kind = 1 ∨ o.kind = 2 ∨ o.kind = 3 ∨ o.kind = 4 := by
  have := valid_step o
  rw [h] at this
  have h2 : kOk o = true := by
    revert this; cases kOk o <;> simp
  simp only [kOk, Bool.and_eq_true, decide_eq_true_iff] at h2
  omega
theorem fl_ok {l : List Ov} {m : Int} {i : Nat} (hv : valid l = true) (hi : i < (fl l m).length) : okOv ((fl l m).getD i zOv) = true := by
  simp only [valid, Bool.and_eq_true] at hv
  have h2 := hv.2
  rw [List.all_eq_true] at h2
  refine h2 _ ?_
  have : (fl l m).getD i zOv = (fl l m)[i] := by simp [List.getD_eq_getElem?_getD, hi]
  rw [this]
  exact (List.mem_filter.1 (List.getElem_mem hi)).1

def juI (t p u : Int) : S := mkS 48 [(10, .b (.v (.c (.ptr 10 0)))), (11, .b (.v (.c (.ptr 11 0))))] [(10, .cells [cI 0]), (11, .cells [cI t, cI p, cI u])]
def juP (t p u e : Int) : S := mkS 48 [(10, .pin 10 (.v (.c (.ptr 10 0)))), (11, .pin 11 (.v (.c (.ptr 11 0))))] [(10, .cells [cI e]), (11, .cells [cI t, cI p, cI u])]
def juT (t p u : Int) (o : Ov) (x : KRow) : S := mkS 48 [(10, .pin 10 (.v (.c (.ptr 10 0)))), (11, .pin 11 (.v (.c (.ptr 11 0)))), (13, .b (.v (.c (.ptr 13 0)))), (14, .b (.v (.c (.ptr 14 0))))] [(10, .cells [cI 0]), (11, .cells [cI t, cI p, cI u]), (13, .cells (encOv o)), (14, .cells [x.c1, x.c2, x.c3])]

theorem f17 (l : List Ov) (t p u m : Int) : FCall Try.prog 17 [lOv l, vI t, vI p, vI u, vI m] (.v (vI (judge l t p u m))) := by
  refine fcall_of Try.func17 rfl (by kernel_rfl) (fun B hB => ?_)
  refine reg0 mix (by kernel_rfl) ?_
  refine reg0 mix (by kernel_rfl) ?_
  refine regC mix [(1, con (f14 l)), (5, con (f21 m)), (10, con (f28 t p u))] (by kernel_rfl) ?_
  refine rCond ((!valid l || !within m 38400) || !candOk t p u) (by kernel_rfl) (fun h => ?_) (fun h => ?_)
  · have hk : argsJ l t p u m = false := by
      revert h; unfold argsJ argOk; cases valid l <;> cases within m 38400 <;> cases candOk t p u <;> simp
    refine reg0 mix (by kernel_rfl) ?_
    refine run_ret (ret_of (.v (vI 1)) (by kernel_rfl) ?_)
    simp [judge, hk]
  have hv : valid l = true ∧ within m 38400 = true ∧ candOk t p u = true := by
    revert h; cases valid l <;> cases within m 38400 <;> cases candOk t p u <;> simp
  have hk : argsJ l t p u m = true := by simp [argsJ, argOk, hv]
  have hl := valid_len hv.1
  refine regC mix [(2, con (f22 l m))] (by kernel_rfl) ?_
  refine rBlock ?_
  have hkl : (fl l m).findIdx (fun o => hits o t p u) ≤ (actX l m).length := by rw [fl_len]; exact findIdx_le _
  refine rRange hB.r hB.fn (by kernel_rfl) (f30 l m hl) (fun i hi => by rw [actX_get hi]; rfl) ((fl l m).findIdx (fun o => hits o t p u)) hkl (fun _ => juI t p u) (wkTo [10, 11] [] (by kernel_rfl)) (fun i _ => by kernel_rfl) ?_ ?_
  · intro i hi hik B1
    rw [actX_fl hi]
    have hi' : i < (fl l m).length := by rw [← fl_len]; exact hi
    have hkind := okOv_kind (fl_ok hv.1 hi')
    have hfind := @find_hit Ov (fun o => hits o t p u) zOv (fl l m) i hi' hik
    have hmiss := @find_miss Ov (fun o => hits o t p u) zOv (fl l m) i hi' hik
    revert hkind hfind hmiss
    generalize (fl l m).getD i zOv = o
    intro hkind hfind hmiss
    refine reg0 mix (by kernel_rfl) ?_
    refine run_nil ⟨rfl, by kernel_rfl, fun B2 => ?_⟩
    refine rBlock ?_
    refine rJoin (juT t p u o) (fun x => KindR o x ∧ x.ok = true) (List.cons_ne_nil _ _) ?_ ?_
    · by_cases hk1 : o.kind = 1
      · refine reg mix [(0, hcon f27), (3, .at (some 0))] [pf f27, pf (rfl : true = true), pf (congrArg some hk1.symm : some 1 = some o.kind)] (by kernel_rfl) ?_
        exact run_nil (joined _ ⟨kind1 hk1, rfl⟩ (wkTo [10, 11, 13, 14] [] (by kernel_rfl)))
      by_cases hk2 : o.kind = 2
      · refine reg mix [(0, hcon f27), (3, .at (some 1))] [pf f27, pf (no1 hk1), pf (congrArg some hk2.symm : some 2 = some o.kind)] (by kernel_rfl) ?_
        exact run_nil (joined _ ⟨kind2 hk2, rfl⟩ (wkTo [10, 11, 13, 14] [] (by kernel_rfl)))
      by_cases hk3 : o.kind = 3
      · refine reg mix [(0, hcon f27), (3, .at (some 2))] [pf f27, pf (no2 hk1 hk2), pf (congrArg some hk3.symm : some 3 = some o.kind)] (by kernel_rfl) ?_
        exact run_nil (joined _ ⟨kind3 hk3, rfl⟩ (wkTo [10, 11, 13, 14] [] (by kernel_rfl)))
      · have hk4 : o.kind = 4 := by omega
        refine reg mix [(0, hcon f27), (3, .at (some 3))] [pf f27, pf (no3 hk1 hk2 hk3), pf (congrArg some hk4.symm : some 4 = some o.kind)] (by kernel_rfl) ?_
        exact run_nil (joined _ ⟨kind4 hk4, rfl⟩ (wkTo [10, 11, 13, 14] [] (by kernel_rfl)))
    rintro ⟨ok, c1, c2, c3⟩ ⟨⟨hok, hR⟩, hokt⟩
    obtain ⟨a, b, e1, hfa, e2, hfb, e3⟩ := hR hokt
    simp only at e1 e2 e3
    subst e1 e2 e3
    refine regC mix [(4, con (hfb t p u))] (by kernel_rfl) ?_
    refine rCond (hits o t p u) (by kernel_rfl) (fun h => ?_) (fun h => ?_)
    · obtain ⟨h1, h2⟩ := hfind h
      refine reg0 mix (by kernel_rfl) ?_
      refine run_ret (blockR_ret ⟨h1, juP t p u (errOf o), wkTo [10, 11] [13, 14] (by kernel_rfl), by kernel_rfl, blockR_ret (ret_of (.v (vI (errOf o))) (by kernel_rfl) ?_)⟩)
      simp [judge, hk, h2]
    · exact run_nil (blockR_normal (run_nil ⟨hmiss h, juP t p u 0, wkTo [10, 11] [13, 14] (by kernel_rfl), by kernel_rfl, Wk.refl _⟩))
  · intro hlen
    refine run_nil (blockR_normal ?_)
    refine reg0 mix (by kernel_rfl) ?_
    refine run_ret (ret_of (.v (vI 0)) (by kernel_rfl) ?_)
    have := find_none (p := fun o => hits o t p u) (l := fl l m) (by rw [← fl_len]; exact hlen)
    simp [judge, hk, this]

end Go.Proofs.Ytcoeejnlnkjjpaa
