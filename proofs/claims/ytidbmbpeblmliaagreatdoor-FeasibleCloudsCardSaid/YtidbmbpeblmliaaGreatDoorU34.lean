/- Part of the proof of the statement that the claim's last text names: contracts of functions and laws of the symbolic layer. -/
import Derived.Test.YtidbmbpeblmliaaGreatDoorU29
import Derived.Test.YtidbmbpeblmliaaGreatDoorU30
import Derived.Test.YtidbmbpeblmliaaGreatDoorU33
import Derived.Test.YtidbmbpeblmliaaGreatDoorU14
set_option linter.unusedVariables false
set_option linter.unusedSimpArgs false
namespace Go.Proofs.YtidbmbpeblmliaaGreatDoor
open Go.Sym Go.RowKit
set_option maxHeartbeats 400000000 in
theorem lawP (css:List (List C)) (h:argsOk [shWd,shScr,shSta,.int .i64] css):FCall Tryz.prog 9 (argCVs Tryz.prog Tryz.f9.params.toList css) (.v (.c (.bool true))):=by
 obtain ⟨w',_,rfl,h1,k1⟩:=argsOk_cons h
 obtain ⟨c',_,rfl,h2,k2⟩:=argsOk_cons k1
 obtain ⟨s',_,rfl,h3,k3⟩:=argsOk_cons k2
 obtain ⟨_,_,rfl,⟨t,rfl,_⟩,k4⟩:=argsOk_cons k3
 obtain rfl:=argsOk_nil k4
 obtain ⟨w,hw⟩:=ofWd h1
 obtain ⟨c,hc⟩:=ofScr h2
 obtain ⟨s,hs⟩:=ofSta h3
 rw [show argCVs Tryz.prog Tryz.f9.params.toList [w',c',s',[.int .i64 t]]=[.agg w',.agg c',.agg s',vI t] by kernel_rfl]
 exact (Pl.clouds w c s t).of_le ⟨CVle.agg hw,CVle.agg hc,CVle.agg hs,CVle.refl _,trivial⟩
noncomputable def zeroOf(t:TypeId):Value:=(((Tryz.prog.info? t).bind (·.zero)).getD undef)
noncomputable def args0:Array Value:=#[zeroOf 31,zeroOf 38,zeroOf 45,.int .i64 0]
set_option maxRecDepth 100000 in
set_option maxHeartbeats 400000000 in
theorem liftedP (os:Os) (started:os.Started) (H:Type) (enc:TypeId×Value→H) :
  ReturnsInHanded {} Tryz.checked os 9 .any (fun w args=>(Rows.feasibleCloudsSpec.pre enc Tryz.prog Tryz.f9 [] false w args∧laidMetH Tryz.prog laidL w)∧sizedMet enc Tryz.prog Tryz.f9 (OpenSpec.ofChange Rows.feasibleCloudsSpec) false w args)
   (Rows.feasibleCloudsSpec.post enc Tryz.prog Tryz.f9 false true false false):=by
 refine returnsInHanded_of_change_and (C:=Tryz.checked) (X:=fun w _=>laidMetH Tryz.prog laidL w) (fun _ _ _ hh h=>h.of_heap hh) own started kr Tryz.func9
  (ChangeSpec.witness_at (enc:=enc) (C:=Tryz.checked) (os:=os) (X:=fun w _=>laidMetH Tryz.prog laidL w) false (laidWorld os) args0 12 rfl kr kr kr kr kr (by rw [laidH];exact laid_met os _)) ?_
 intro W base args ds gs before hval0 hW _ _ hL _
 have hval:∀ (j:Nat) t v,Tryz.f9.params[j]?=some t→args[j]?=some v→Value.okWide Tryz.prog W .any base t v:=hval0
 exact law_contractL (C:=Tryz.checked) (tb:=4) rfl (fun H ds hd=>by
  match ds,hd with
  | [_,_,_,_],_=>rfl) laidOut kr kr kr (ss:=[shWd,shScr,shSta,.int .i64]) kr lawP W (laidK hL) base args ds gs before hval hW
set_option maxHeartbeats 400000000 in
theorem feasibleClouds_holds:Rows.FeasibleCloudsSaid:=
 OpenClaim.holds_of_wide 9 Tryz.f9 rfl rfl rfl rfl rfl rfl rfl ⟨rfl,rfl,rfl,rfl,rfl⟩ rfl rfl rfl rfl rfl kr Tryz.func9 closedP
  (of_decide_eq_true kr) (by unfold Func.isWrapper;first | (rw [if_pos (by decide +kernel)];kernel_rfl) | (rw [if_neg (by decide +kernel)];exact ⟨rfl,rfl⟩))
  (fun os started H enc _=>liftedP os started H enc)
end Go.Proofs.YtidbmbpeblmliaaGreatDoor
