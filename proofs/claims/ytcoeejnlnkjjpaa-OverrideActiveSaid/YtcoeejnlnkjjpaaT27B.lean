import Derived.Test.YtcoeejnlnkjjpaaT27A
namespace Go.Proofs.Ytcoeejnlnkjjpaa
open Go.Sym
set_option linter.unusedVariables false
set_option linter.unusedSimpArgs false

theorem f31 (o : Ov) : FCall Try.prog 31 [.agg (encOv o)] (.v (.agg [cI o.tel, cI 0, cI 0])) := by
  refine fcall_of_tri Try.func31 rfl (by kernel_rfl) (fun B hB => ?_)
  refine run_seq (run_reg [] mix (asks_nil (by kernel_rfl)) ?_)
  refine run_seq (run_reg [] mix (asks_nil (by kernel_rfl)) ?_)
  refine run_ret ⟨.inl rfl, ?_⟩
  kernel_rfl
theorem f33 (o : Ov) : FCall Try.prog 33 [.agg (encOv o)] (.v (.agg [cI 0, cI o.prg, cI 0])) := by
  refine fcall_of_tri Try.func33 rfl (by kernel_rfl) (fun B hB => ?_)
  refine run_seq (run_reg [] mix (asks_nil (by kernel_rfl)) ?_)
  refine run_seq (run_reg [] mix (asks_nil (by kernel_rfl)) ?_)
  refine run_ret ⟨.inl rfl, ?_⟩
  kernel_rfl
theorem f35 (o : Ov) : FCall Try.prog 35 [.agg (encOv o)] (.v (.agg [cI 0, cI 0, cI o.tile])) := by
  refine fcall_of_tri Try.func35 rfl (by kernel_rfl) (fun B hB => ?_)
  refine run_seq (run_reg [] mix (asks_nil (by kernel_rfl)) ?_)
  refine run_seq (run_reg [] mix (asks_nil (by kernel_rfl)) ?_)
  refine run_ret ⟨.inl rfl, ?_⟩
  kernel_rfl
theorem f32 (o : Ov) (t p u : Int) : FCall Try.prog 32 [.agg (encOv o), .agg [cI t, cI p, cI u]] (.v (vB (o.tel == t))) := by
  refine fcall_of_tri Try.func32 rfl (by kernel_rfl) (fun B hB => ?_)
  refine run_seq (run_reg [] mix (asks_nil (by kernel_rfl)) ?_)
  refine run_seq (run_reg [] mix (asks_nil (by kernel_rfl)) ?_)
  refine run_ret ⟨.inl rfl, ?_⟩
  kernel_rfl
theorem f34 (o : Ov) (t p u : Int) : FCall Try.prog 34 [.agg (encOv o), .agg [cI t, cI p, cI u]] (.v (vB (o.prg == p))) := by
  refine fcall_of_tri Try.func34 rfl (by kernel_rfl) (fun B hB => ?_)
  refine run_seq (run_reg [] mix (asks_nil (by kernel_rfl)) ?_)
  refine run_seq (run_reg [] mix (asks_nil (by kernel_rfl)) ?_)
  refine run_ret ⟨.inl rfl, ?_⟩
  kernel_rfl
theorem f36 (o : Ov) (t p u : Int) : FCall Try.prog 36 [.agg (encOv o), .agg [cI t, cI p, cI u]] (.v (vB (o.tile == u))) := by
  refine fcall_of_tri Try.func36 rfl (by kernel_rfl) (fun B hB => ?_)
  refine run_seq (run_reg [] mix (asks_nil (by kernel_rfl)) ?_)
  refine run_seq (run_reg [] mix (asks_nil (by kernel_rfl)) ?_)
  refine run_ret ⟨.inl rfl, ?_⟩
  kernel_rfl
theorem f37 (o : Ov) (t p u : Int) : FCall Try.prog 37 [.agg (encOv o), .agg [cI t, cI p, cI u]] (.v (vB false)) := by
  refine fcall_of_tri Try.func37 rfl (by kernel_rfl) (fun B hB => ?_)
  refine run_seq (run_reg [] mix (asks_nil (by kernel_rfl)) ?_)
  refine run_seq (run_reg [] mix (asks_nil (by kernel_rfl)) ?_)
  refine run_ret ⟨.inl rfl, ?_⟩
  kernel_rfl

/-- The table of the kinds. -/
def kEnts : List (C × List C) :=
  [(cI 1, [.clo 31 [], .clo 32 [], cI 18]), (cI 2, [.clo 33 [], .clo 34 [], cI 22]), (cI 3, [.clo 35 [], .clo 36 [], cI 22]), (cI 4, [.clo 31 [], .clo 37 [], cI 0])]
theorem f27 : FCall Try.prog 27 [] (.v (.c (.kmap true kEnts))) := by
  refine fcall_of_tri Try.func27 rfl (by kernel_rfl) (fun B hB => ?_)
  refine run_seq (run_reg [] mix (asks_nil (by kernel_rfl)) ?_)
  refine run_seq (run_reg [] mix (asks_nil (by kernel_rfl)) ?_)
  refine run_seq (run_reg [] mix (asks_of [true = true, true = true, true = true, true = true] (by kernel_rfl) ⟨rfl, rfl, rfl, rfl⟩) ?_)
  refine frzMap hB 0 2 true kEnts [] [] (by kernel_rfl) (by kernel_rfl) (by kernel_rfl) ?_ (by simp)
  refine run_ret ⟨.inl rfl, ?_⟩
  kernel_rfl

def candOk (t p u : Int) : Bool := (within t 6 && within p 64) && within u 512
theorem f28 (t p u : Int) : FCall Try.prog 28 [.agg [cI t, cI p, cI u]] (.v (vB (candOk t p u))) := by
  refine fcall_of_tri Try.func28 rfl (by kernel_rfl) (fun B hB => ?_)
  refine run_seq (run_reg [] mix (asks_nil (by kernel_rfl)) ?_)
  refine run_seq (run_reg [(2, .call (.v (vB (within t 6)))), (6, .call (.v (vB (within p 64)))), (11, .call (.v (vB (within u 512))))] mix
    (asks_of [FCall Try.prog 25 [vI t, vI 6] (.v (vB (within t 6))), FCall Try.prog 25 [vI p, vI 64] (.v (vB (within p 64))), FCall Try.prog 25 [vI u, vI 512] (.v (vB (within u 512)))] (by kernel_rfl) ⟨f25 _ _, f25 _ _, f25 _ _⟩) ?_)
  refine run_ret ⟨.inl rfl, ?_⟩
  kernel_rfl

def exOv : List Ov := [⟨1, 1, 0, 0, 10, 20, 15⟩, ⟨3, 0, 0, 7, 12, 30, 0⟩, ⟨4, 0, 0, 0, 5, 50, 40⟩]
theorem f20 : FCall Try.prog 20 [] (.v (lOv exOv)) := by
  refine fcall_of_tri Try.func20 rfl (by kernel_rfl) (fun B hB => ?_)
  refine run_seq (run_reg [] mix (asks_nil (by kernel_rfl)) ?_)
  refine run_seq (run_reg [(3, .frz 3 (elOv exOv))] mix (asks_of [3 = 3 ∧ ∀ i, i < 3 → elOv exOv i = [encOv ⟨1, 1, 0, 0, 10, 20, 15⟩, encOv ⟨3, 0, 0, 7, 12, 30, 0⟩, encOv ⟨4, 0, 0, 0, 5, 50, 40⟩].getD i []] (by kernel_rfl) ⟨rfl, fun i hi => ?_⟩) ?_)
  · match i, hi with
    | 0, _ => rfl
    | 1, _ => rfl
    | 2, _ => rfl
  refine run_ret ⟨.inl rfl, ?_⟩
  kernel_rfl

end Go.Proofs.Ytcoeejnlnkjjpaa
