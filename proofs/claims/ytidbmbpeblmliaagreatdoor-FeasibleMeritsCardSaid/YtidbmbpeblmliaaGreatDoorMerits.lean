/- FeasibleMerits holds: with another valid merit and Bonus of one programme the same candidates are excluded, for the same reasons, and the requests are the same, but for the Merit of those of this programme. Conditions: those of the given statement (its tied card) and no others. -/
import Derived.Test.YtidbmbpeblmliaaGreatDoorTie
import Derived.Test.YtidbmbpeblmliaaGreatDoorCards
import Derived.SevenTiedAt
import Derived.Test.YtidbmbpeblmliaaGreatDoorN33
import Derived.Test.YtidbmbpeblmliaaGreatDoorN14
set_option linter.unusedVariables false
set_option linter.unusedSimpArgs false
namespace Go.Proofs.YtidbmbpeblmliaaGreatDoor
open Go.Sym Go.RowKit
set_option maxRecDepth 100000 in
set_option maxHeartbeats 400000000 in
theorem feasibleMerits_card:Rows.FeasibleMeritsCardSaid:=
 Claim7.holds_tied_plain_at .later [] [.data,.data,.data,.sentinel,.sentinel] true (true,"687f5c897adcd8c68d2cd27a0bdec5436a825fd1ee52b1590154ff4a08bdf646") true
  feasibleMerits_holds (fun _ h=>by cases h) (by as_aux_lemma=>kernel_rfl) (fun _ h=>by cases h) feasibleMerits_row_tie rfl ⟨rfl,rfl⟩ (by as_aux_lemma=>kernel_rfl) rfl
  (fun f fn hf hfn=>by
   obtain rfl:f=7:=Option.some.inj ((show Tryz.prog.funcNamed "observatory/observatorylaw41.FeasibleMerits" = some 7 by kernel_rfl).symm.trans hf) |>.symm
   obtain rfl:fn=Tryz.f7:=(Option.some.inj (Tryz.func7.symm.trans hfn)).symm
   exact ⟨by as_aux_lemma=>kernel_rfl,fun j t ht=>by
    have hm:t∈Tryz.f7.params.toList:=Array.mem_toList_iff.mpr (Array.mem_of_getElem? ht)
    have hq:=List.all_eq_true.mp (show Tryz.f7.params.toList.all (fun t=>!Tryz.prog.wantsStandIn t)=true by kernel_rfl) t hm
    show Tryz.prog.wantsStandIn t=false
    revert hq
    generalize Tryz.prog.wantsStandIn t=b
    intro hq
    cases b
    ·rfl
    ·cases hq⟩)
  (by as_aux_lemma=>kernel_rfl)
end Go.Proofs.YtidbmbpeblmliaaGreatDoor
