import Derived.Test.YteefindpimnhdaaT16G
namespace Go.Proofs.Yteefindpimnhdaa
open Go.Sym
set_option linter.unusedVariables false
set_option linter.unusedSimpArgs false

/-! ### The book's own example -/
def exL : List Df := [⟨0, 1, 10, 20, 15⟩, ⟨0, 2, 18, 30, 25⟩]
def exB : List Df := [⟨0, 0, 2, 1, 0⟩]
theorem exBs : bs exL = [0, 10, 18, 21, 31, 38400] := by
  refine uniq_sorted (srt_sorted _) (by simp) fun x => ?_
  rw [bs, mem_srt]
  simp [bord, exL]
  omega
theorem exM1 : maskR exL 0 12 14 = .tup [.agg (encM zM), vI 0] := by kernel_rfl
theorem exM2 : maskR exL 0 12 15 = .tup [.agg (encM ⟨false, true, false, false⟩), vI 0] := by kernel_rfl
theorem exM3 : maskR exL 0 19 30 = .tup [.agg (encM ⟨false, true, true, false⟩), vI 0] := by kernel_rfl
theorem exC1 : chgR exL 0 0 15 = .tup [lSp [⟨10, 20⟩], vI 0] := by
  have : chgs exL 0 0 15 = [⟨10, 20⟩] := by rw [chgs, exBs]; kernel_rfl
  have ha : askOk exL 0 0 15 = true := by kernel_rfl
  rw [chgR, if_pos ha, this]
theorem exC2 : chgR exL 0 0 30 = .tup [lSp [⟨10, 30⟩], vI 0] := by
  have : chgs exL 0 0 30 = [⟨10, 30⟩] := by rw [chgs, exBs]; kernel_rfl
  have ha : askOk exL 0 0 30 = true := by kernel_rfl
  rw [chgR, if_pos ha, this]
theorem exC3 : chgR exL 0 15 30 = .tup [lSp [⟨18, 30⟩], vI 0] := by
  have : chgs exL 0 15 30 = [⟨18, 30⟩] := by rw [chgs, exBs]; kernel_rfl
  have ha : askOk exL 0 15 30 = true := by kernel_rfl
  rw [chgR, if_pos ha, this]

theorem exF1 : FCall Try.prog 11 [lDf exL, vI 0, vI 12, vI 14] (.tup [.agg (encM zM), vI 0]) := by have := f11 exL 0 12 14 (by simp [exL]); rwa [exM1] at this
theorem exF2 : FCall Try.prog 11 [lDf exL, vI 0, vI 12, vI 15] (.tup [.agg (encM ⟨false, true, false, false⟩), vI 0]) := by have := f11 exL 0 12 15 (by simp [exL]); rwa [exM2] at this
theorem exF3 : FCall Try.prog 11 [lDf exL, vI 0, vI 19, vI 30] (.tup [.agg (encM ⟨false, true, true, false⟩), vI 0]) := by have := f11 exL 0 19 30 (by simp [exL]); rwa [exM3] at this
theorem exG1 : FCall Try.prog 13 [lDf exL, vI 0, vI 0, vI 15] (.tup [lSp [⟨10, 20⟩], vI 0]) := by have := f13 exL 0 0 15 (by simp [exL]); rwa [exC1] at this
theorem exG2 : FCall Try.prog 13 [lDf exL, vI 0, vI 0, vI 30] (.tup [lSp [⟨10, 30⟩], vI 0]) := by have := f13 exL 0 0 30 (by simp [exL]); rwa [exC2] at this
theorem exG3 : FCall Try.prog 13 [lDf exL, vI 0, vI 15, vI 30] (.tup [lSp [⟨18, 30⟩], vI 0]) := by have := f13 exL 0 15 30 (by simp [exL]); rwa [exC3] at this

theorem f9 : FCall Try.prog 9 [] (.v (vB true)) := by
  refine fcall_of Try.func9 rfl (by kernel_rfl) (fun B hB => ?_)
  refine reg0 mix (by kernel_rfl) ?_
  refine reg mix [(2, .frz 2 (elDf exL))] [pf (ck2 _ _ (elDf exL) rfl rfl)] (by kernel_rfl) ?_
  refine regC mix [(1, con exF1)] (by kernel_rfl) ?_
  refine regC mix [(1, con exF2)] (by kernel_rfl) ?_
  refine regC mix [(1, con exF3)] (by kernel_rfl) ?_
  refine regC mix [(1, con exG1)] (by kernel_rfl) ?_
  refine regC mix [(1, con exG2)] (by kernel_rfl) ?_
  refine regC mix [(1, con exG3)] (by kernel_rfl) ?_
  refine reg0 mix (by kernel_rfl) ?_
  refine reg mix [] [pf eq26, pf eq26, pf eq26] (by kernel_rfl) ?_
  refine reg mix [(9, .frz 1 (elSp [⟨10, 20⟩])), (10, hcon (f17 [⟨10, 20⟩] [⟨10, 20⟩] (by simp))), (20, .frz 1 (elSp [⟨10, 30⟩])), (21, hcon (f17 [⟨10, 30⟩] [⟨10, 30⟩] (by simp))), (31, .frz 1 (elSp [⟨18, 30⟩])), (32, hcon (f17 [⟨18, 30⟩] [⟨18, 30⟩] (by simp))), (36, hcon (f15 exL (by simp [exL]))), (40, .frz 1 (elDf exB)), (41, hcon (f15 exB (by simp [exB])))]
    [pf (ck1 (encSp ⟨10, 20⟩) (elSp [⟨10, 20⟩]) rfl), pf (f17 [⟨10, 20⟩] [⟨10, 20⟩] (by simp)), pf (ck1 (encSp ⟨10, 30⟩) (elSp [⟨10, 30⟩]) rfl), pf (f17 [⟨10, 30⟩] [⟨10, 30⟩] (by simp)), pf (ck1 (encSp ⟨18, 30⟩) (elSp [⟨18, 30⟩]) rfl), pf (f17 [⟨18, 30⟩] [⟨18, 30⟩] (by simp)), pf (f15 exL (by simp [exL])), pf (ck1 (encDf ⟨0, 0, 2, 1, 0⟩) (elDf exB) rfl), pf (f15 exB (by simp [exB]))] (by kernel_rfl) ?_
  exact run_ret (ret_of (.v (vB true)) (by kernel_rfl) rfl)

end Go.Proofs.Yteefindpimnhdaa
