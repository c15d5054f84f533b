/- FeasibleOthers holds: without the spells and overrides that are not in force at the moment, and with other ghosts, tallies and valid rigs of the other telescopes, the result is the same. Conditions: those of the given statement (its tied card) and no others. -/
import Derived.Test.YtidbmbpeblmliaaGreatDoorTie
import Derived.Test.YtidbmbpeblmliaaGreatDoorCards
import Derived.SevenTiedAt
import Derived.Test.YtidbmbpeblmliaaGreatDoorO34
import Derived.Test.YtidbmbpeblmliaaGreatDoorO14
set_option linter.unusedVariables false
set_option linter.unusedSimpArgs false
namespace Go.Proofs.YtidbmbpeblmliaaGreatDoor
open Go.Sym Go.RowKit
set_option maxRecDepth 100000 in
set_option maxHeartbeats 400000000 in
theorem feasibleOthers_card:Rows.FeasibleOthersCardSaid:=
 Claim7.holds_tied_plain_at .later [] [.data,.data,.data,.sentinel,.sentinel] true (true,"687f5c897adcd8c68d2cd27a0bdec5436a825fd1ee52b1590154ff4a08bdf646") true
  feasibleOthers_holds (fun _ h=>by cases h) (by as_aux_lemma=>kernel_rfl) (fun _ h=>by cases h) feasibleOthers_row_tie rfl ⟨rfl,rfl⟩ (by as_aux_lemma=>kernel_rfl) rfl
  (fun f fn hf hfn=>by
   obtain rfl:f=8:=Option.some.inj ((show Tryz.prog.funcNamed "observatory/observatorylaw41.FeasibleOthers" = some 8 by kernel_rfl).symm.trans hf) |>.symm
   obtain rfl:fn=Tryz.f8:=(Option.some.inj (Tryz.func8.symm.trans hfn)).symm
   exact ⟨by as_aux_lemma=>kernel_rfl,fun j t ht=>by
    have hm:t∈Tryz.f8.params.toList:=Array.mem_toList_iff.mpr (Array.mem_of_getElem? ht)
    have hq:=List.all_eq_true.mp (show Tryz.f8.params.toList.all (fun t=>!Tryz.prog.wantsStandIn t)=true by kernel_rfl) t hm
    show Tryz.prog.wantsStandIn t=false
    revert hq
    generalize Tryz.prog.wantsStandIn t=b
    intro hq
    cases b
    ·rfl
    ·cases hq⟩)
  (by as_aux_lemma=>kernel_rfl)
end Go.Proofs.YtidbmbpeblmliaaGreatDoor
