import Derived.Test.YtcoeejnlnkjjpaaT27D
import Derived.Test.YtcoeejnlnkjjpaaSymS
namespace Go.Proofs.Ytcoeejnlnkjjpaa
open Go.Sym
set_option linter.unusedVariables false
set_option linter.unusedSimpArgs false

def needT (o : Ov) : Int := if o.kind = 1 ∨ o.kind = 4 then o.tel else 0
def needP (o : Ov) : Int := if o.kind = 2 then o.prg else 0
def needU (o : Ov) : Int := if o.kind = 3 then o.tile else 0
def hits (o : Ov) (t p u : Int) : Bool := if o.kind = 1 then o.tel == t else if o.kind = 2 then o.prg == p else if o.kind = 3 then o.tile == u else false
def errOf (o : Ov) : Int := if o.kind = 1 then 18 else if o.kind = 2 ∨ o.kind = 3 then 22 else 0
def kOk (o : Ov) : Bool := decide (1 ≤ o.kind) && decide (o.kind ≤ 4)

/-- What the table says of an override's kind. -/
structure KRow where
  ok : Bool
  c1 : C
  c2 : C
  c3 : C
def KindR (o : Ov) (x : KRow) : Prop :=
  x.ok = kOk o ∧ (x.ok = true → ∃ a b, x.c1 = .clo a [] ∧ FCall Try.prog a [.agg (encOv o)] (.v (.agg [cI (needT o), cI (needP o), cI (needU o)])) ∧ x.c2 = .clo b [] ∧ (∀ t p u, FCall Try.prog b [.agg (encOv o), .agg [cI t, cI p, cI u]] (.v (vB (hits o t p u)))) ∧ x.c3 = cI (errOf o))

theorem kind1 {o : Ov} (h : o.kind = 1) : KindR o ⟨true, .clo 31 [], .clo 32 [], cI 18⟩ := by
  refine ⟨by simp [kOk, h], fun _ => ⟨31, 32, rfl, ?_, rfl, fun t p u => ?_, by simp [errOf, h]⟩⟩
  · have := f31 o; simpa [needT, needP, needU, h] using this
  · have := f32 o t p u; simpa [hits, h] using this
theorem kind2 {o : Ov} (h : o.kind = 2) : KindR o ⟨true, .clo 33 [], .clo 34 [], cI 22⟩ := by
  refine ⟨by simp [kOk, h], fun _ => ⟨33, 34, rfl, ?_, rfl, fun t p u => ?_, by simp [errOf, h]⟩⟩
  · have := f33 o; simpa [needT, needP, needU, h] using this
  · have := f34 o t p u; simpa [hits, h] using this
theorem kind3 {o : Ov} (h : o.kind = 3) : KindR o ⟨true, .clo 35 [], .clo 36 [], cI 22⟩ := by
  refine ⟨by simp [kOk, h], fun _ => ⟨35, 36, rfl, ?_, rfl, fun t p u => ?_, by simp [errOf, h]⟩⟩
  · have := f35 o; simpa [needT, needP, needU, h] using this
  · have := f36 o t p u; simpa [hits, h] using this
theorem kind4 {o : Ov} (h : o.kind = 4) : KindR o ⟨true, .clo 31 [], .clo 37 [], cI 0⟩ := by
  refine ⟨by simp [kOk, h], fun _ => ⟨31, 37, rfl, ?_, rfl, fun t p u => ?_, by simp [errOf, h]⟩⟩
  · have := f31 o; simpa [needT, needP, needU, h] using this
  · have := f37 o t p u; simpa [hits, h] using this
theorem kind0 {o : Ov} (h1 : o.kind ≠ 1) (h2 : o.kind ≠ 2) (h3 : o.kind ≠ 3) (h4 : o.kind ≠ 4) (c1 c2 c3 : C) : KindR o ⟨false, c1, c2, c3⟩ := by
  refine ⟨?_, fun h => by cases h⟩
  have : ¬ (1 ≤ o.kind ∧ o.kind ≤ 4) := by omega
  simp only [kOk]
  rw [← Bool.decide_and]
  simp [this]

theorem no1 {k : Int} (h1 : ¬ k = 1) : ([1].all fun b => !(k == b)) = true := by simp [h1]
theorem no2 {k : Int} (h1 : ¬ k = 1) (h2 : ¬ k = 2) : ([1, 2].all fun b => !(k == b)) = true := by simp [h1, h2]
theorem no3 {k : Int} (h1 : ¬ k = 1) (h2 : ¬ k = 2) (h3 : ¬ k = 3) : ([1, 2, 3].all fun b => !(k == b)) = true := by simp [h1, h2, h3]
theorem no4 {k : Int} (h1 : ¬ k = 1) (h2 : ¬ k = 2) (h3 : ¬ k = 3) (h4 : ¬ k = 4) : ([1, 2, 3, 4].all fun b => !(k == b)) = true := by simp [h1, h2, h3, h4]

theorem eq56 : EqTy Try.prog 56 [.int .i64, .int .i64, .int .i64] := eqTy_of 3 (by kernel_rfl) (by omega) (by kernel_rfl) (by kernel_rfl)

theorem valid_step (o : Ov) : okOv o = (((kOk o && within o.frm 38400 && within o.til 38400 && within o.known 38400) && !decide (o.frm > o.til)) && (candOk (needT o) (needP o) (needU o) && (needT o == o.tel && needP o == o.prg && needU o == o.tile))) := by
  rw [Bool.eq_iff_iff]
  simp only [okOv, okMoments, okKind, inside, within, kOk, candOk, needT, needP, needU]
  by_cases h1 : o.kind = 1
  · simp [h1]; omega
  · by_cases h4 : o.kind = 4
    · simp [h4]; omega
    · by_cases h2 : o.kind = 2
      · simp [h2]; omega
      · by_cases h3 : o.kind = 3
        · simp [h3]; omega
        · simp [h1, h2, h3, h4]; omega

def vS (l : List Ov) (i : Int) : S := mkS 70 [(0, .b (.v (lOv l))), (2, .b (.v (vB false))), (11, .b (.v (lOv l))), (12, .b (.v (vI l.length))), (13, .b (.v (vI i)))] []
def vT (l : List Ov) (i : Int) (o : Ov) (x : KRow) : S := mkS 70 [(0, .b (.v (lOv l))), (2, .b (.v (vB false))), (4, .b (.v (.c (.ptr 4 0)))), (5, .b (.v (.c (.ptr 5 0)))), (6, .b (.v (vB x.ok))), (11, .b (.v (lOv l))), (12, .b (.v (vI l.length))), (13, .b (.v (vI i)))] [(4, .cells (encOv o)), (5, .cells [x.c1, x.c2, x.c3])]

theorem f14 (l : List Ov) : FCall Try.prog 14 [lOv l] (.v (vB (valid l))) := by
  refine fcall_of Try.func14 rfl (by kernel_rfl) (fun B hB => ?_)
  refine reg0 mix (by kernel_rfl) ?_
  refine reg0 mix (by kernel_rfl) ?_
  refine rCond (decide ((l.length : Int) > 100)) (by kernel_rfl) (fun h1 => ?_) (fun h1 => ?_)
  · refine reg0 mix (by kernel_rfl) ?_
    refine run_ret (ret_of (.v (vB false)) (by kernel_rfl) ?_)
    have : ¬ l.length ≤ 100 := by have := of_decide_eq_true h1; omega
    simp [valid, this]
  have hl : l.length ≤ 100 := by have := of_decide_eq_false h1; omega
  refine reg0 mix (by kernel_rfl) ?_
  refine rBlock ?_
  refine rLoop (vS l) (fun i => 0 ≤ i ∧ i ≤ l.length ∧ ∀ j : Nat, (j : Int) < i → okOv (l.getD j zOv) = true) (fun i => (l.length - i).toNat) 0
    (wkTo [0, 2, 11, 12, 13] [] (by kernel_rfl)) ⟨by omega, by omega, fun j hj => by omega⟩ ?_
  intro i ⟨h0, h1, h3⟩
  refine reg0 mix (by kernel_rfl) ?_
  refine rCond (decide (i < (l.length : Int))) (by kernel_rfl) (fun hc => ?_) (fun hc => ?_)
  · have hc : i < l.length := of_decide_eq_true hc
    refine rBlock ?_
    obtain ⟨o, ho⟩ : ∃ o, l.getD i.toNat zOv = o := ⟨_, rfl⟩
    refine reg mix [] [pf (⟨h0, hc⟩ : 0 ≤ i ∧ i < (l.length : Int))] (by kernel_rfl) ?_
    refine rJoin (vT l i (l.getD i.toNat zOv)) (KindR (l.getD i.toNat zOv)) (by simp [flatC]) ?_ ?_
    · by_cases hk1 : (l.getD i.toNat zOv).kind = 1
      · refine reg mix [(0, hcon f27), (3, .at (some 0))] [pf f27, pf (rfl : true = true), pf (congrArg some hk1.symm : some 1 = some (l.getD i.toNat zOv).kind)] (by kernel_rfl) ?_
        exact run_nil (joined _ (kind1 hk1) (wkTo [0, 2, 4, 5, 6, 11, 12, 13] [] (by kernel_rfl)))
      by_cases hk2 : (l.getD i.toNat zOv).kind = 2
      · refine reg mix [(0, hcon f27), (3, .at (some 1))] [pf f27, pf (no1 hk1), pf (congrArg some hk2.symm : some 2 = some (l.getD i.toNat zOv).kind)] (by kernel_rfl) ?_
        exact run_nil (joined _ (kind2 hk2) (wkTo [0, 2, 4, 5, 6, 11, 12, 13] [] (by kernel_rfl)))
      by_cases hk3 : (l.getD i.toNat zOv).kind = 3
      · refine reg mix [(0, hcon f27), (3, .at (some 2))] [pf f27, pf (no2 hk1 hk2), pf (congrArg some hk3.symm : some 3 = some (l.getD i.toNat zOv).kind)] (by kernel_rfl) ?_
        exact run_nil (joined _ (kind3 hk3) (wkTo [0, 2, 4, 5, 6, 11, 12, 13] [] (by kernel_rfl)))
      by_cases hk4 : (l.getD i.toNat zOv).kind = 4
      · refine reg mix [(0, hcon f27), (3, .at (some 3))] [pf f27, pf (no3 hk1 hk2 hk3), pf (congrArg some hk4.symm : some 4 = some (l.getD i.toNat zOv).kind)] (by kernel_rfl) ?_
        exact run_nil (joined _ (kind4 hk4) (wkTo [0, 2, 4, 5, 6, 11, 12, 13] [] (by kernel_rfl)))
      · refine reg mix [(0, hcon f27), (3, .at none)] [pf f27, pf (no4 hk1 hk2 hk3 hk4)] (by kernel_rfl) ?_
        exact run_nil (joined _ (kind0 hk1 hk2 hk3 hk4 (.lit .nilFunc) (.lit .nilFunc) (cI 0)) (wkTo [0, 2, 4, 5, 6, 11, 12, 13] [] (by kernel_rfl)))
    rw [ho]
    rintro ⟨ok, c1, c2, c3⟩ ⟨hok, hR⟩
    simp only at hok hR
    refine regC mix [(5, con (f21 o.frm)), (11, con (f21 o.til)), (17, con (f21 o.known))] (by kernel_rfl) ?_
    refine rCond ((((!ok || !within o.frm 38400) || !within o.til 38400) || !within o.known 38400) || decide (o.frm > o.til)) (by kernel_rfl) (fun h => ?_) (fun h => ?_)
    · refine reg0 mix (by kernel_rfl) ?_
      refine run_ret (blockR_ret (loopR_ret (blockR_ret (ret_of (.v (vB false)) (by kernel_rfl) ?_))))
      rw [valid, not_all (j := i.toNat) (by omega), Bool.and_false]
      rw [ho, valid_step, ← hok]
      revert h
      generalize decide (o.frm > o.til) = g
      cases ok <;> cases within o.frm 38400 <;> cases within o.til 38400 <;> cases within o.known 38400 <;> cases g <;> simp
    have hpre : (((kOk o && within o.frm 38400 && within o.til 38400 && within o.known 38400) && !decide (o.frm > o.til)) = true) ∧ ok = true := by
      rw [← hok]
      revert h
      generalize decide (o.frm > o.til) = g
      cases ok <;> cases within o.frm 38400 <;> cases within o.til 38400 <;> cases within o.known 38400 <;> cases g <;> simp
    obtain ⟨a, b, rfl, hfa, rfl, hfb, rfl⟩ := hR hpre.2
    have hok' := hpre.2
    subst hok'
    refine regC mix [(3, con hfa)] (by kernel_rfl) ?_
    refine reg mix [(1, hcon (f28 (needT o) (needP o) (needU o)))] [pf (f28 (needT o) (needP o) (needU o)), pf eq56] (by kernel_rfl) ?_
    refine rCond (!candOk (needT o) (needP o) (needU o) || !(needT o == o.tel && (needP o == o.prg && (needU o == o.tile && true)))) (by kernel_rfl) (fun h => ?_) (fun h => ?_)
    · refine reg0 mix (by kernel_rfl) ?_
      refine run_ret (blockR_ret (loopR_ret (blockR_ret (ret_of (.v (vB false)) (by kernel_rfl) ?_))))
      rw [valid, not_all (j := i.toNat) (by omega), Bool.and_false]
      rw [ho, valid_step, hpre.1]
      revert h
      generalize candOk (needT o) (needP o) (needU o) = g
      cases needT o == o.tel <;> cases needP o == o.prg <;> cases needU o == o.tile <;> cases g <;> simp
    have hg : okOv o = true := by
      rw [valid_step, hpre.1]
      revert h
      generalize candOk (needT o) (needP o) (needU o) = g
      cases needT o == o.tel <;> cases needP o == o.prg <;> cases needU o == o.tile <;> cases g <;> simp
    refine run_nil (blockR_normal ?_)
    refine reg0 mix (by kernel_rfl) ?_
    have e : IntKind.i64.wrap (i + 1) = i + 1 := w64 _ (by omega) (by omega)
    refine run_nil (loopR_next (IntKind.i64.wrap (i + 1)) (wkTo [0, 2, 11, 12, 13] [7, 5, 4] (by kernel_rfl)) ?_ ?_)
    · rw [e]
      refine ⟨by omega, by omega, fun j hj => ?_⟩
      by_cases hji : (j : Int) < i
      · exact h3 j hji
      · have : j = i.toNat := by omega
        rw [this, ho]; exact hg
    · rw [e]; omega
  · have hc : ¬ i < l.length := of_decide_eq_false hc
    refine run_exit (loopR_exit (blockR_exit ?_))
    refine reg0 mix (by kernel_rfl) ?_
    refine run_ret (ret_of (.v (vB true)) (by kernel_rfl) ?_)
    have : l.all okOv = true := all_get fun j hj => h3 j (by omega)
    simp [valid, this, hl]

end Go.Proofs.Ytcoeejnlnkjjpaa
