/- FeasibleClouds holds: if no merit has a variable clear or seeing, then without the spells of clouds and seeing the result is the same. Conditions: those of the given statement (its tied card) and no others. -/
import Derived.Test.YtidbmbpeblmliaaGreatDoorTie
import Derived.Test.YtidbmbpeblmliaaGreatDoorCards
import Derived.SevenTiedAt
import Derived.Test.YtidbmbpeblmliaaGreatDoorU34
import Derived.Test.YtidbmbpeblmliaaGreatDoorU14
set_option linter.unusedVariables false
set_option linter.unusedSimpArgs false
namespace Go.Proofs.YtidbmbpeblmliaaGreatDoor
open Go.Sym Go.RowKit
set_option maxRecDepth 100000 in
set_option maxHeartbeats 400000000 in
theorem feasibleClouds_card:Rows.FeasibleCloudsCardSaid:=
 Claim7.holds_tied_plain_at .later [] [.data,.data,.data,.sentinel,.sentinel] true (true,"687f5c897adcd8c68d2cd27a0bdec5436a825fd1ee52b1590154ff4a08bdf646") true
  feasibleClouds_holds (fun _ h=>by cases h) (by as_aux_lemma=>kernel_rfl) (fun _ h=>by cases h) feasibleClouds_row_tie rfl ⟨rfl,rfl⟩ (by as_aux_lemma=>kernel_rfl) rfl
  (fun f fn hf hfn=>by
   obtain rfl:f=9:=Option.some.inj ((show Tryz.prog.funcNamed "observatory/observatorylaw41.FeasibleClouds" = some 9 by kernel_rfl).symm.trans hf) |>.symm
   obtain rfl:fn=Tryz.f9:=(Option.some.inj (Tryz.func9.symm.trans hfn)).symm
   exact ⟨by as_aux_lemma=>kernel_rfl,fun j t ht=>by
    have hm:t∈Tryz.f9.params.toList:=Array.mem_toList_iff.mpr (Array.mem_of_getElem? ht)
    have hq:=List.all_eq_true.mp (show Tryz.f9.params.toList.all (fun t=>!Tryz.prog.wantsStandIn t)=true by kernel_rfl) t hm
    show Tryz.prog.wantsStandIn t=false
    revert hq
    generalize Tryz.prog.wantsStandIn t=b
    intro hq
    cases b
    ·rfl
    ·cases hq⟩)
  (by as_aux_lemma=>kernel_rfl)
end Go.Proofs.YtidbmbpeblmliaaGreatDoor
