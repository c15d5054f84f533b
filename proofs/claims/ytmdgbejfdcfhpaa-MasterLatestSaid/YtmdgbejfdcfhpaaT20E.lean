import Derived.Test.YtmdgbejfdcfhpaaT20D
namespace Go.Proofs.Ytmdgbejfdcfhpaa
open Go.Sym
set_option linter.unusedVariables false
set_option linter.unusedSimpArgs false

theorem f25 (x y : Ca) : FCall Try.prog 25 [.agg (encCa x), .agg (encCa y)] (.v (vI (IntKind.i64.wrap (y.at' - x.at')))) := by
  refine fcall_of Try.func25 rfl (by kernel_rfl) (fun B hB => ?_)
  refine reg0 mix (by kernel_rfl) ?_
  refine reg0 mix (by kernel_rfl) ?_
  exact run_ret (ret_of _ (by kernel_rfl) rfl)
theorem eq40 : EqTy Try.prog 40 [.int .i64, .int .i64, .int .i64, .int .i64] := eqTy_of 3 (by kernel_rfl) (by omega) (by kernel_rfl) (by kernel_rfl)
theorem f22 (x : Ca) (kind tel flt at' known : Int) : FCall Try.prog 22 [.agg (encCa x), .c (.kptr [cI at'] 0), .c (.kptr [cI kind, cI tel, cI flt, cI at'] 0), .c (.kptr [cI known] 0)] (.v (vB (applies x kind tel flt at' known))) := by
  refine fcall_of Try.func22 rfl (by kernel_rfl) (fun B hB => ?_)
  refine reg0 mix (by kernel_rfl) ?_
  refine reg0 mix (by kernel_rfl) ?_
  refine reg0 mix (by kernel_rfl) ?_
  refine reg mix [] [pf eq40] (by kernel_rfl) ?_
  refine run_ret (ret_of (.v (vB (((x.kind == kind && (x.tel == tel && (x.flt == flt && (at' == at' && true)))) && decide (x.at' ≤ at')) && decide (x.known ≤ known)))) (by kernel_rfl) ?_)
  rw [applies]
  cases x.kind == kind <;> cases x.tel == tel <;> cases x.flt == flt <;> simp

end Go.Proofs.Ytmdgbejfdcfhpaa
