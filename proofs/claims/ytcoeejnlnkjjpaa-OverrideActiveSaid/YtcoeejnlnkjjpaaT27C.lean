import Derived.Test.YtcoeejnlnkjjpaaT27B
namespace Go.Proofs.Ytcoeejnlnkjjpaa
open Go.Sym
set_option linter.unusedVariables false
set_option linter.unusedSimpArgs false

def okMoments (o : Ov) : Bool := inside o.frm 0 38399 && inside o.til 0 38399 && inside o.known 0 38399 && decide (o.frm ≤ o.til)
def okKind (o : Ov) : Bool :=
  if o.kind = 1 ∨ o.kind = 4 then inside o.tel 0 5 && o.prg == 0 && o.tile == 0
  else if o.kind = 2 then inside o.prg 0 63 && o.tel == 0 && o.tile == 0
  else if o.kind = 3 then inside o.tile 0 511 && o.tel == 0 && o.prg == 0 else false
def okOv (o : Ov) : Bool := okMoments o && okKind o

theorem f29 (o : Ov) : FCall Try.prog 29 [.agg (encOv o)] (.v (vB (okOv o))) := by
  refine fcall_of Try.func29 rfl (by kernel_rfl) (fun B hB => ?_)
  refine run_reg [] mix (asks_nil (by kernel_rfl)) ?_
  refine run_reg [(2, .call (.v (vB (inside o.frm 0 38399)))), (7, .call (.v (vB (inside o.til 0 38399)))), (13, .call (.v (vB (inside o.known 0 38399))))] mix
    (asks_of [FCall Try.prog 23 [vI o.frm] (.v (vB (inside o.frm 0 38399))), FCall Try.prog 23 [vI o.til] (.v (vB (inside o.til 0 38399))), FCall Try.prog 23 [vI o.known] (.v (vB (inside o.known 0 38399)))] (by kernel_rfl) ⟨f23 _, f23 _, f23 _⟩) ?_
  refine rCond (((!inside o.frm 0 38399 || !inside o.til 0 38399) || !inside o.known 0 38399) || decide (o.til < o.frm)) (by kernel_rfl) (fun h1 => ?_) (fun h1 => ?_)
  · refine run_reg [] mix (asks_nil (by kernel_rfl)) ?_
    refine run_ret (ret_of (.v (vB false)) (by kernel_rfl) ?_)
    congr 3
    simp only [okOv, okMoments]
    revert h1
    cases inside o.frm 0 38399 <;> cases inside o.til 0 38399 <;> cases inside o.known 0 38399 <;> simp
    intro h
    omega
  have hm : okMoments o = true := by
    simp only [okMoments]
    revert h1
    cases inside o.frm 0 38399 <;> cases inside o.til 0 38399 <;> cases inside o.known 0 38399 <;> simp
  refine run_reg [] mix (asks_nil (by kernel_rfl)) ?_
  refine rBlock ?_
  refine run_reg [] mix (asks_nil (by kernel_rfl)) ?_
  refine rCond (o.kind == 1) (by kernel_rfl) (fun h2 => ?_) (fun h2 => ?_)
  · refine rCondT (o.kind == 1) (by kernel_rfl) h2 ?_
    refine run_reg [(2, .call (.v (vB (inside o.tel 0 5))))] mix (asks_of [FCall Try.prog 26 [vI o.tel, vI 0, vI 5] (.v (vB (inside o.tel 0 5)))] (by kernel_rfl) (f26 _ _ _)) ?_
    refine run_ret (blockR_ret (ret_of (.v (vB ((inside o.tel 0 5 && o.prg == 0) && o.tile == 0))) (by kernel_rfl) ?_))
    have : o.kind = 1 := by simpa using h2
    simp [okOv, okKind, hm, this]
  refine run_reg [] mix (asks_nil (by kernel_rfl)) ?_
  refine rCond (o.kind == 4) (by kernel_rfl) (fun h3 => ?_) (fun h3 => ?_)
  · refine run_reg [(2, .call (.v (vB (inside o.tel 0 5))))] mix (asks_of [FCall Try.prog 26 [vI o.tel, vI 0, vI 5] (.v (vB (inside o.tel 0 5)))] (by kernel_rfl) (f26 _ _ _)) ?_
    refine run_ret (blockR_ret (ret_of (.v (vB ((inside o.tel 0 5 && o.prg == 0) && o.tile == 0))) (by kernel_rfl) ?_))
    have : o.kind = 4 := by simpa using h3
    simp [okOv, okKind, hm, this]
  refine run_reg [] mix (asks_nil (by kernel_rfl)) ?_
  refine rCond (o.kind == 2) (by kernel_rfl) (fun h4 => ?_) (fun h4 => ?_)
  · refine run_reg [(2, .call (.v (vB (inside o.prg 0 63))))] mix (asks_of [FCall Try.prog 26 [vI o.prg, vI 0, vI 63] (.v (vB (inside o.prg 0 63)))] (by kernel_rfl) (f26 _ _ _)) ?_
    refine run_ret (blockR_ret (ret_of (.v (vB ((inside o.prg 0 63 && o.tel == 0) && o.tile == 0))) (by kernel_rfl) ?_))
    have : o.kind = 2 := by simpa using h4
    simp [okOv, okKind, hm, this]
  refine run_reg [] mix (asks_nil (by kernel_rfl)) ?_
  refine rCond (o.kind == 3) (by kernel_rfl) (fun h5 => ?_) (fun h5 => ?_)
  · refine run_reg [(2, .call (.v (vB (inside o.tile 0 511))))] mix (asks_of [FCall Try.prog 26 [vI o.tile, vI 0, vI 511] (.v (vB (inside o.tile 0 511)))] (by kernel_rfl) (f26 _ _ _)) ?_
    refine run_ret (blockR_ret (ret_of (.v (vB ((inside o.tile 0 511 && o.tel == 0) && o.prg == 0))) (by kernel_rfl) ?_))
    have : o.kind = 3 := by simpa using h5
    simp [okOv, okKind, hm, this]
  refine run_nil (blockR_normal ?_)
  refine run_reg [] mix (asks_nil (by kernel_rfl)) ?_
  refine run_ret (ret_of (.v (vB false)) (by kernel_rfl) ?_)
  simp at h2 h3 h4 h5
  simp [okOv, okKind, h2, h3, h4, h5]

end Go.Proofs.Ytcoeejnlnkjjpaa
