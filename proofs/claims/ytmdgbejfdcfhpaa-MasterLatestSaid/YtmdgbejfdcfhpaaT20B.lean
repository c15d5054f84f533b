import Derived.Test.YtmdgbejfdcfhpaaT20A
import Derived.Test.YtmdgbejfdcfhpaaSymT
namespace Go.Proofs.Ytmdgbejfdcfhpaa
open Go.Sym
set_option linter.unusedVariables false
set_option linter.unusedSimpArgs false

/-! ### Valid -/
def keyOk (x : Ca) : Bool := ((((decide (x.kind ≥ 1) && decide (x.kind ≤ 3)) && decide (x.tel ≥ 0)) && decide (x.tel ≤ 5)) && decide (x.flt ≥ -1)) && decide (x.flt ≤ 7)
def okCa (x : Ca) : Bool := ((!([x.a, x.b, x.c, x.d].any bad)) && keyOk x) && mom x.at' && mom x.known
theorem keyOk_lt (x : Ca) : (((((decide (x.kind ≥ 1) && decide (x.kind ≤ 3)) && decide (x.tel ≥ 0)) && decide (x.tel < 6)) && decide (x.flt ≥ -1)) && decide (x.flt < 8)) = keyOk x := by
  have e1 : decide (x.tel < 6) = decide (x.tel ≤ 5) := by rw [decide_eq_decide]; omega
  have e2 : decide (x.flt < 8) = decide (x.flt ≤ 7) := by rw [decide_eq_decide]; omega
  rw [e1, e2, keyOk]
theorem h32 (x : Ca) : FCall Try.prog 32 [.c (.lst 1 4 (fun i => sub (encCa x) (5 + i * 1) 1)), .c (.clo 31 [])] (.v (vB ([x.a, x.b, x.c, x.d].any bad))) :=
  (f32 [x.a, x.b, x.c, x.d] 31 bad (by simp) f31).of_le ⟨CVle.lst (fun i hi => by
    match i, hi with
    | 0, _ => rfl
    | 1, _ => rfl
    | 2, _ => rfl
    | 3, _ => rfl), CVle.refl _, trivial⟩
theorem f21 (x : Ca) : FCall Try.prog 21 [.agg (encCa x)] (.v (vB (okCa x))) := by
  refine fcall_of Try.func21 rfl (by kernel_rfl) (fun B hB => ?_)
  refine reg mix [(0, .imm)] [] (by kernel_rfl) ?_
  refine reg0 mix (by kernel_rfl) ?_
  refine regC mix [(3, con (h32 x)), (8, con (f33 x.at')), (14, con (f33 x.known))] (by kernel_rfl) ?_
  refine rCond (([x.a, x.b, x.c, x.d].any bad || !mom x.at') || !mom x.known) (by kernel_rfl) (fun h => ?_) (fun h => ?_)
  · refine reg0 mix (by kernel_rfl) ?_
    refine run_ret (ret_of (.v (vB false)) (by kernel_rfl) ?_)
    rw [okCa]
    revert h
    generalize [x.a, x.b, x.c, x.d].any bad = g
    cases g <;> cases mom x.at' <;> cases mom x.known <;> simp
  · refine reg0 mix (by kernel_rfl) ?_
    refine run_ret (ret_of (.v (vB (((((decide (x.kind ≥ 1) && decide (x.kind ≤ 3)) && decide (x.tel ≥ 0)) && decide (x.tel < 6)) && decide (x.flt ≥ -1)) && decide (x.flt < 8)))) (by kernel_rfl) ?_)
    rw [keyOk_lt, okCa]
    revert h
    generalize [x.a, x.b, x.c, x.d].any bad = g
    cases g <;> cases mom x.at' <;> cases mom x.known <;> simp
theorem f20 (x : Ca) : FCall Try.prog 20 [.agg (encCa x)] (.v (vB (!okCa x))) := by
  refine fcall_of Try.func20 rfl (by kernel_rfl) (fun B hB => ?_)
  refine reg0 mix (by kernel_rfl) ?_
  refine regC mix [(1, con (f21 x))] (by kernel_rfl) ?_
  exact run_ret (ret_of _ (by kernel_rfl) rfl)

def vrS (x : Ca) (i : Nat) : S := mkS 65 [(1, .b (.v (.c (.ptr 1 0)))), (2, .b (.v (vB false))), (3, .b (.v (vI i)))] [(1, .cells (encCa x))]
theorem f16 (x : Ca) : FCall Try.prog 16 [.agg (encCa x)] (.v (vB (okCa x))) := by
  refine fcall_of Try.func16 rfl (by kernel_rfl) (fun B hB => ?_)
  refine reg0 mix (by kernel_rfl) ?_
  refine reg0 mix (by kernel_rfl) ?_
  refine rBlock ?_
  refine rLoop (vrS x) (fun i => i ≤ 4 ∧ (0 < i → bad x.a = false) ∧ (1 < i → bad x.b = false) ∧ (2 < i → bad x.c = false) ∧ (3 < i → bad x.d = false)) (fun i => 4 - i) 0 (wkTo [1, 2, 3] [] (by kernel_rfl)) ⟨by omega, by omega, by omega, by omega, by omega⟩ ?_
  intro i ⟨hi, r0, r1, r2, r3⟩
  refine reg0 mix (by kernel_rfl) ?_
  rcases (by omega : i = 0 ∨ i = 1 ∨ i = 2 ∨ i = 3 ∨ i = 4) with rfl | rfl | rfl | rfl | rfl
  · refine rCondT true (by kernel_rfl) rfl ?_
    refine rBlock ?_
    refine reg mix [] [pf (by omega : (0 : Int) ≤ 0 ∧ (0 : Int) < 4), pf (by omega : (0 : Int) ≤ 0 ∧ (0 : Int) < 4)] (by kernel_rfl) ?_
    refine rCond (bad x.a) (by kernel_rfl) (fun h => ?_) (fun h => ?_)
    · refine reg0 mix (by kernel_rfl) ?_
      refine run_ret (blockR_ret (loopR_ret (blockR_ret (ret_of (.v (vB false)) (by kernel_rfl) ?_))))
      simp [okCa, h]
    · refine run_nil (blockR_normal ?_)
      refine reg0 mix (by kernel_rfl) ?_
      exact run_nil (loopR_next 1 (wkTo [1, 2, 3] [] (by kernel_rfl)) ⟨by omega, fun _ => h, by omega, by omega, by omega⟩ (by omega))
  · refine rCondT true (by kernel_rfl) rfl ?_
    refine rBlock ?_
    refine reg mix [] [pf (by omega : (0 : Int) ≤ 1 ∧ (1 : Int) < 4), pf (by omega : (0 : Int) ≤ 1 ∧ (1 : Int) < 4)] (by kernel_rfl) ?_
    refine rCond (bad x.b) (by kernel_rfl) (fun h => ?_) (fun h => ?_)
    · refine reg0 mix (by kernel_rfl) ?_
      refine run_ret (blockR_ret (loopR_ret (blockR_ret (ret_of (.v (vB false)) (by kernel_rfl) ?_))))
      simp [okCa, h]
    · refine run_nil (blockR_normal ?_)
      refine reg0 mix (by kernel_rfl) ?_
      exact run_nil (loopR_next 2 (wkTo [1, 2, 3] [] (by kernel_rfl)) ⟨by omega, fun _ => r0 (by omega), fun _ => h, by omega, by omega⟩ (by omega))
  · refine rCondT true (by kernel_rfl) rfl ?_
    refine rBlock ?_
    refine reg mix [] [pf (by omega : (0 : Int) ≤ 2 ∧ (2 : Int) < 4), pf (by omega : (0 : Int) ≤ 2 ∧ (2 : Int) < 4)] (by kernel_rfl) ?_
    refine rCond (bad x.c) (by kernel_rfl) (fun h => ?_) (fun h => ?_)
    · refine reg0 mix (by kernel_rfl) ?_
      refine run_ret (blockR_ret (loopR_ret (blockR_ret (ret_of (.v (vB false)) (by kernel_rfl) ?_))))
      simp [okCa, h]
    · refine run_nil (blockR_normal ?_)
      refine reg0 mix (by kernel_rfl) ?_
      exact run_nil (loopR_next 3 (wkTo [1, 2, 3] [] (by kernel_rfl)) ⟨by omega, fun _ => r0 (by omega), fun _ => r1 (by omega), fun _ => h, by omega⟩ (by omega))
  · refine rCondT true (by kernel_rfl) rfl ?_
    refine rBlock ?_
    refine reg mix [] [pf (by omega : (0 : Int) ≤ 3 ∧ (3 : Int) < 4), pf (by omega : (0 : Int) ≤ 3 ∧ (3 : Int) < 4)] (by kernel_rfl) ?_
    refine rCond (bad x.d) (by kernel_rfl) (fun h => ?_) (fun h => ?_)
    · refine reg0 mix (by kernel_rfl) ?_
      refine run_ret (blockR_ret (loopR_ret (blockR_ret (ret_of (.v (vB false)) (by kernel_rfl) ?_))))
      simp [okCa, h]
    · refine run_nil (blockR_normal ?_)
      refine reg0 mix (by kernel_rfl) ?_
      exact run_nil (loopR_next 4 (wkTo [1, 2, 3] [] (by kernel_rfl)) ⟨by omega, fun _ => r0 (by omega), fun _ => r1 (by omega), fun _ => r2 (by omega), fun _ => h⟩ (by omega))
  · refine rCondF false (by kernel_rfl) rfl ?_
    refine run_exit (loopR_exit (blockR_exit ?_))
    refine regC mix [(38, con (f29 x.at')), (43, con (f29 x.known))] (by kernel_rfl) ?_
    refine run_ret (ret_of (.v (vB ((keyOk x && mom x.at') && mom x.known))) (by kernel_rfl) ?_)
    simp [okCa, r0 (by omega), r1 (by omega), r2 (by omega), r3 (by omega)]

end Go.Proofs.Ytmdgbejfdcfhpaa
