/- Part of the proof of the statement that the claim's last text names: contracts of functions and laws of the symbolic layer. -/
import Derived.Test.YtidbmbpeblmliaaGreatDoorK14
import Derived.Test.YtidbmbpeblmliaaGreatDoorK25
import Derived.Test.YtidbmbpeblmliaaGreatDoorK24
namespace Go.Proofs.YtidbmbpeblmliaaGreatDoor.Slo
open Go.Sym Go.Proofs.YtidbmbpeblmliaaGreatDoor
set_option linter.unusedVariables false
set_option linter.unusedSimpArgs false
def runs(x:Slt)(r:Rq)(c:Cs):Int:=
 (bif ((decide (x.s.mom<((x.w.programmes.getD r.prog.toNat zPrg).frm)))||(decide (x.s.mom>((x.w.programmes.getD r.prog.toNat zPrg).til)))) then 11 else 0)
theorem runs_c(x:Slt)(r:Rq)(c:Cs)(hr:0≤r.prog∧r.prog<x.w.programmes.length):FCall Tryz.prog 124 [.c (.kptr (encSlt x) 0),.agg (encRq r),.agg (encCs c)] (.v (vI (runs x r c))):=by
 have ee0:=runs.eq_1 x r c
 refine ul Tryz.func124 rfl (fun B hB=>?_)
 refine uq [(0,.imm),(1,.imm)] [] ?_
 refine uq [] [ub r.prog x.w.programmes.length] ?_
 refine u0 ?_
 refine ud ee0 (fun hh1 ee1=>?_) (fun hh1 ee2=>?_)
 ·refine u0 ?_
  exact run_ret (ut _ (by rw [ee1]<;>rfl))
 ·refine u0 ?_
  exact run_ret (ut _ (by rw [ee2]<;>rfl))
def ready(x:Slt)(r:Rq)(c:Cs):Int:=
 (bif r.alert then 0 else (Cad.Ready ((x.w.programmes.getD r.prog.toNat zPrg).seq) c x.s.mom))
theorem ready_c(x:Slt)(r:Rq)(c:Cs)(hr:0≤r.prog∧r.prog<x.w.programmes.length):FCall Tryz.prog 125 [.c (.kptr (encSlt x) 0),.agg (encRq r),.agg (encCs c)] (.v (vI (ready x r c))):=by
 have ee0:=ready.eq_1 x r c
 refine ul Tryz.func125 rfl (fun B hB=>?_)
 refine uq [(0,.imm),(1,.imm)] [] ?_
 refine u0 ?_
 refine ud ee0 (fun hh1 ee1=>?_) (fun hh1 ee2=>?_)
 ·refine u0 ?_
  exact run_ret (ut _ (by rw [ee1]<;>rfl))
 ·have cc1:=Cad.Ready_c ((x.w.programmes.getD r.prog.toNat zPrg).seq) c x.s.mom
  refine uq [(16,hcon cc1)] [ub r.prog x.w.programmes.length,pu cc1] ?_
  exact run_ret (ut _ (by rw [ee2]<;>rfl))
def mounted(x:Slt)(r:Rq)(c:Cs):Int:=
 (bif (decide (r.filter≥((x.w.telescopes.getD x.t.toNat zTel).filters))) then 9 else 0)
theorem mounted_c(x:Slt)(r:Rq)(c:Cs)(ht:0≤x.t∧x.t<x.w.telescopes.length):FCall Tryz.prog 126 [.c (.kptr (encSlt x) 0),.agg (encRq r),.agg (encCs c)] (.v (vI (mounted x r c))):=by
 have ee0:=mounted.eq_1 x r c
 refine ul Tryz.func126 rfl (fun B hB=>?_)
 refine uq [(0,.imm),(1,.imm)] [] ?_
 refine uq [] [ub x.t x.w.telescopes.length] ?_
 refine ud ee0 (fun hh1 ee1=>?_) (fun hh1 ee2=>?_)
 ·refine u0 ?_
  exact run_ret (ut _ (by rw [ee1]<;>rfl))
 ·refine u0 ?_
  exact run_ret (ut _ (by rw [ee2]<;>rfl))
def permitted(x:Slt)(r:Rq)(c:Cs):Int:=
 (Ovr.Judge x.script.overrides x.t r.prog r.tile x.s.mom)
theorem permitted_c(x:Slt)(r:Rq)(c:Cs):FCall Tryz.prog 127 [.c (.kptr (encSlt x) 0),.agg (encRq r),.agg (encCs c)] (.v (vI (permitted x r c))):=by
 have ee0:=permitted.eq_1 x r c
 refine ul Tryz.func127 rfl (fun B hB=>?_)
 refine uq [(0,.imm),(1,.imm)] [] ?_
 have cc1:=Ovr.Judge_c x.script.overrides x.t r.prog r.tile x.s.mom
 refine uq [(18,hcon cc1)] [pu cc1] ?_
 exact run_ret (ut _ (by rw [ee0]<;>rfl))
def dry(x:Slt)(r:Rq)(c:Cs):Int:=
 (bif (!x.sky.opn) then 18 else 0)
theorem dry_c(x:Slt)(r:Rq)(c:Cs):FCall Tryz.prog 128 [.c (.kptr (encSlt x) 0),.agg (encRq r),.agg (encCs c)] (.v (vI (dry x r c))):=by
 have ee0:=dry.eq_1 x r c
 refine ul Tryz.func128 rfl (fun B hB=>?_)
 refine uq [(0,.imm),(1,.imm)] [] ?_
 refine u0 ?_
 refine ud ee0 (fun hh1 ee1=>?_) (fun hh1 ee2=>?_)
 ·refine u0 ?_
  exact run_ret (ut _ (by rw [ee1]<;>rfl))
 ·refine u0 ?_
  exact run_ret (ut _ (by rw [ee2]<;>rfl))
def height(x:Slt)(tile:Int):Int:=
 (Air.Height ((x.w.telescopes.getD x.t.toNat zTel).site) tile x.s.mom).1
theorem height_c(x:Slt)(tile:Int)(ht:0≤x.t∧x.t<x.w.telescopes.length):FCall Tryz.prog 132 [.c (.kptr (encSlt x) 0),vI tile] (.v (vI (height x tile))):=by
 have ee0:=height.eq_1 x tile
 refine ul Tryz.func132 rfl (fun B hB=>?_)
 refine u0 ?_
 have cc1:=Air.Height_c ((x.w.telescopes.getD x.t.toNat zTel).site) tile x.s.mom
 refine uq [(18,hcon cc1)] [ub x.t x.w.telescopes.length,pu cc1] ?_
 refine u0 ?_
 exact run_ret (ut _ (by rw [ee0]<;>rfl))
def high(x:Slt)(r:Rq)(c:Cs):Int:=
 (bif (decide ((height x r.tile)<x.w.limit)) then 19 else 0)
theorem high_c(x:Slt)(r:Rq)(c:Cs)(ht:0≤x.t∧x.t<x.w.telescopes.length):FCall Tryz.prog 129 [.c (.kptr (encSlt x) 0),.agg (encRq r),.agg (encCs c)] (.v (vI (high x r c))):=by
 have ee0:=high.eq_1 x r c
 refine ul Tryz.func129 rfl (fun B hB=>?_)
 refine uq [(0,.imm),(1,.imm)] [] ?_
 have cc1:=height_c x r.tile (by assumption)
 refine uq [(3,hcon cc1)] [pu cc1] ?_
 refine ud ee0 (fun hh1 ee1=>?_) (fun hh1 ee2=>?_)
 ·refine u0 ?_
  exact run_ret (ut _ (by rw [ee1]<;>rfl))
 ·refine u0 ?_
  exact run_ret (ut _ (by rw [ee2]<;>rfl))
def prepared(x:Slt)(r:Rq)(c:Cs):Int:=
 (Rig.Prepare (x.w.telescopes.getD x.t.toNat zTel) x.rig (r.tile.tmod 32) r.filter).2.2
theorem prepared_c(x:Slt)(r:Rq)(c:Cs)(ht:0≤x.t∧x.t<x.w.telescopes.length):FCall Tryz.prog 130 [.c (.kptr (encSlt x) 0),.agg (encRq r),.agg (encCs c)] (.v (vI (prepared x r c))):=by
 have ee0:=prepared.eq_1 x r c
 refine ul Tryz.func130 rfl (fun B hB=>?_)
 refine uq [(0,.imm),(1,.imm)] [] ?_
 have cc1:=Rig.Prepare_c (x.w.telescopes.getD x.t.toNat zTel) x.rig (r.tile.tmod 32) r.filter
 refine uq [(20,hcon cc1)] [ub x.t x.w.telescopes.length,uo ((32 :Int)≠0),pu cc1] ?_
 refine u0 ?_
 exact run_ret (ut _ (by rw [ee0]<;>rfl))
def judge(x:Slt)(r:Rq)(c:Cs):Int:=
 (bif ((runs x r c) != 0) then (runs x r c) else (bif ((ready x r c) != 0) then (ready x r c) else (bif ((mounted x r c) != 0) then (mounted x r c) else (bif ((permitted x r c) != 0) then (permitted x r c) else (bif ((dry x r c) != 0) then (dry x r c) else (bif ((high x r c) != 0) then (high x r c) else (bif ((prepared x r c) != 0) then (prepared x r c) else 0)))))))
theorem judge_c(x:Slt)(r:Rq)(c:Cs)(hr:0≤r.prog∧r.prog<x.w.programmes.length)(ht:0≤x.t∧x.t<x.w.telescopes.length):FCall Tryz.prog 43 [.c (.kptr (encSlt x) 0),.agg (encRq r),.agg (encCs c)] (.v (vI (judge x r c))):=by
 have ee0:=judge.eq_1 x r c
 refine ul Tryz.func43 rfl (fun B hB=>?_)
 refine uq [(0,.imm),(1,.imm)] [] ?_
 refine uq [(14,.frz 7 (fun i=>([[.meth 124 [.kptr (encSlt x) 0]],[.meth 125 [.kptr (encSlt x) 0]],[.meth 126 [.kptr (encSlt x) 0]],[.meth 127 [.kptr (encSlt x) 0]],[.meth 128 [.kptr (encSlt x) 0]],[.meth 129 [.kptr (encSlt x) 0]],[.meth 130 [.kptr (encSlt x) 0]]]:List (List C)).getD i []))] [@pu (7=7∧∀ i,i<7→(fun i=>([[.meth 124 [.kptr (encSlt x) 0]],[.meth 125 [.kptr (encSlt x) 0]],[.meth 126 [.kptr (encSlt x) 0]],[.meth 127 [.kptr (encSlt x) 0]],[.meth 128 [.kptr (encSlt x) 0]],[.meth 129 [.kptr (encSlt x) 0]],[.meth 130 [.kptr (encSlt x) 0]]]:List (List C)).getD i []) i=([[.meth 124 [.kptr (encSlt x) 0]],[.meth 125 [.kptr (encSlt x) 0]],[.meth 126 [.kptr (encSlt x) 0]],[.meth 127 [.kptr (encSlt x) 0]],[.meth 128 [.kptr (encSlt x) 0]],[.meth 129 [.kptr (encSlt x) 0]],[.meth 130 [.kptr (encSlt x) 0]]]:List (List C)).getD i []) (⟨rfl,fun i hi=>rfl⟩)] ?_
 refine u0 ?_
 refine rBlock ?_
 refine rUnroll 8 ?_
 refine unrollS ?_
 refine u0 ?_
 refine rCondT true kr rfl ?_
 refine rBlock ?_
 refine uq [] [ub 0 7] ?_
 have cc1:=runs_c x r c (by assumption)
 refine uq [(3,hcon cc1)] [pu cc1] ?_
 refine u0 ?_
 refine ud ee0 (fun hh1 ee1=>?_) (fun hh1 ee2=>?_)
 ·refine u0 ?_
  exact run_ret (blockR_ret (blockR_ret (ut _ (by rw [ee1]<;>rfl))))
 ·refine run_nil (blockR_normal ?_)
  refine u0 ?_
  refine run_nil ?_
  refine unrollS ?_
  refine rTold (mkS 40 [(4,.b (.v (.c (.kptr (encRq r) 0)))),(5,.b (.v (.c (.kptr (encCs c) 0)))),(26,.b (.v (.c (.lst 1 7 (fun i=>([[.meth 124 [.kptr (encSlt x) 0]],[.meth 125 [.kptr (encSlt x) 0]],[.meth 126 [.kptr (encSlt x) 0]],[.meth 127 [.kptr (encSlt x) 0]],[.meth 128 [.kptr (encSlt x) 0]],[.meth 129 [.kptr (encSlt x) 0]],[.meth 130 [.kptr (encSlt x) 0]]]:List (List C)).getD i []))))),(27,.b (.v (vI 7))),(28,.b (.v (vI 1)))] []) [4,5,26,27,28] [] kr ?_ nofun
  refine u0 ?_
  refine rCondT true kr rfl ?_
  refine rBlock ?_
  refine uq [] [ub 1 7] ?_
  have cc2:=ready_c x r c (by assumption)
  refine uq [(3,hcon cc2)] [pu cc2] ?_
  refine u0 ?_
  refine ud ee2 (fun hh2 ee3=>?_) (fun hh2 ee4=>?_)
  ·refine u0 ?_
   exact run_ret (blockR_ret (blockR_ret (ut _ (by rw [ee3]<;>rfl))))
  ·refine run_nil (blockR_normal ?_)
   refine u0 ?_
   refine run_nil ?_
   refine unrollS ?_
   refine rTold (mkS 40 [(4,.b (.v (.c (.kptr (encRq r) 0)))),(5,.b (.v (.c (.kptr (encCs c) 0)))),(26,.b (.v (.c (.lst 1 7 (fun i=>([[.meth 124 [.kptr (encSlt x) 0]],[.meth 125 [.kptr (encSlt x) 0]],[.meth 126 [.kptr (encSlt x) 0]],[.meth 127 [.kptr (encSlt x) 0]],[.meth 128 [.kptr (encSlt x) 0]],[.meth 129 [.kptr (encSlt x) 0]],[.meth 130 [.kptr (encSlt x) 0]]]:List (List C)).getD i []))))),(27,.b (.v (vI 7))),(28,.b (.v (vI 2)))] []) [4,5,26,27,28] [] kr ?_ nofun
   refine u0 ?_
   refine rCondT true kr rfl ?_
   refine rBlock ?_
   refine uq [] [ub 2 7] ?_
   have cc3:=mounted_c x r c (by assumption)
   refine uq [(3,hcon cc3)] [pu cc3] ?_
   refine u0 ?_
   refine ud ee4 (fun hh3 ee5=>?_) (fun hh3 ee6=>?_)
   ·refine u0 ?_
    exact run_ret (blockR_ret (blockR_ret (ut _ (by rw [ee5]<;>rfl))))
   ·refine run_nil (blockR_normal ?_)
    refine u0 ?_
    refine run_nil ?_
    refine unrollS ?_
    refine rTold (mkS 40 [(4,.b (.v (.c (.kptr (encRq r) 0)))),(5,.b (.v (.c (.kptr (encCs c) 0)))),(26,.b (.v (.c (.lst 1 7 (fun i=>([[.meth 124 [.kptr (encSlt x) 0]],[.meth 125 [.kptr (encSlt x) 0]],[.meth 126 [.kptr (encSlt x) 0]],[.meth 127 [.kptr (encSlt x) 0]],[.meth 128 [.kptr (encSlt x) 0]],[.meth 129 [.kptr (encSlt x) 0]],[.meth 130 [.kptr (encSlt x) 0]]]:List (List C)).getD i []))))),(27,.b (.v (vI 7))),(28,.b (.v (vI 3)))] []) [4,5,26,27,28] [] kr ?_ nofun
    refine u0 ?_
    refine rCondT true kr rfl ?_
    refine rBlock ?_
    refine uq [] [ub 3 7] ?_
    have cc4:=permitted_c x r c
    refine uq [(3,hcon cc4)] [pu cc4] ?_
    refine u0 ?_
    refine ud ee6 (fun hh4 ee7=>?_) (fun hh4 ee8=>?_)
    ·refine u0 ?_
     exact run_ret (blockR_ret (blockR_ret (ut _ (by rw [ee7]<;>rfl))))
    ·refine run_nil (blockR_normal ?_)
     refine u0 ?_
     refine run_nil ?_
     refine unrollS ?_
     refine rTold (mkS 40 [(4,.b (.v (.c (.kptr (encRq r) 0)))),(5,.b (.v (.c (.kptr (encCs c) 0)))),(26,.b (.v (.c (.lst 1 7 (fun i=>([[.meth 124 [.kptr (encSlt x) 0]],[.meth 125 [.kptr (encSlt x) 0]],[.meth 126 [.kptr (encSlt x) 0]],[.meth 127 [.kptr (encSlt x) 0]],[.meth 128 [.kptr (encSlt x) 0]],[.meth 129 [.kptr (encSlt x) 0]],[.meth 130 [.kptr (encSlt x) 0]]]:List (List C)).getD i []))))),(27,.b (.v (vI 7))),(28,.b (.v (vI 4)))] []) [4,5,26,27,28] [] kr ?_ nofun
     refine u0 ?_
     refine rCondT true kr rfl ?_
     refine rBlock ?_
     refine uq [] [ub 4 7] ?_
     have cc5:=dry_c x r c
     refine uq [(3,hcon cc5)] [pu cc5] ?_
     refine u0 ?_
     refine ud ee8 (fun hh5 ee9=>?_) (fun hh5 ee10=>?_)
     ·refine u0 ?_
      exact run_ret (blockR_ret (blockR_ret (ut _ (by rw [ee9]<;>rfl))))
     ·refine run_nil (blockR_normal ?_)
      refine u0 ?_
      refine run_nil ?_
      refine unrollS ?_
      refine rTold (mkS 40 [(4,.b (.v (.c (.kptr (encRq r) 0)))),(5,.b (.v (.c (.kptr (encCs c) 0)))),(26,.b (.v (.c (.lst 1 7 (fun i=>([[.meth 124 [.kptr (encSlt x) 0]],[.meth 125 [.kptr (encSlt x) 0]],[.meth 126 [.kptr (encSlt x) 0]],[.meth 127 [.kptr (encSlt x) 0]],[.meth 128 [.kptr (encSlt x) 0]],[.meth 129 [.kptr (encSlt x) 0]],[.meth 130 [.kptr (encSlt x) 0]]]:List (List C)).getD i []))))),(27,.b (.v (vI 7))),(28,.b (.v (vI 5)))] []) [4,5,26,27,28] [] kr ?_ nofun
      refine u0 ?_
      refine rCondT true kr rfl ?_
      refine rBlock ?_
      refine uq [] [ub 5 7] ?_
      have cc6:=high_c x r c (by assumption)
      refine uq [(3,hcon cc6)] [pu cc6] ?_
      refine u0 ?_
      refine ud ee10 (fun hh6 ee11=>?_) (fun hh6 ee12=>?_)
      ·refine u0 ?_
       exact run_ret (blockR_ret (blockR_ret (ut _ (by rw [ee11]<;>rfl))))
      ·refine run_nil (blockR_normal ?_)
       refine u0 ?_
       refine run_nil ?_
       refine unrollS ?_
       refine rTold (mkS 40 [(4,.b (.v (.c (.kptr (encRq r) 0)))),(5,.b (.v (.c (.kptr (encCs c) 0)))),(26,.b (.v (.c (.lst 1 7 (fun i=>([[.meth 124 [.kptr (encSlt x) 0]],[.meth 125 [.kptr (encSlt x) 0]],[.meth 126 [.kptr (encSlt x) 0]],[.meth 127 [.kptr (encSlt x) 0]],[.meth 128 [.kptr (encSlt x) 0]],[.meth 129 [.kptr (encSlt x) 0]],[.meth 130 [.kptr (encSlt x) 0]]]:List (List C)).getD i []))))),(27,.b (.v (vI 7))),(28,.b (.v (vI 6)))] []) [4,5,26,27,28] [] kr ?_ nofun
       refine u0 ?_
       refine rCondT true kr rfl ?_
       refine rBlock ?_
       refine uq [] [ub 6 7] ?_
       have cc7:=prepared_c x r c (by assumption)
       refine uq [(3,hcon cc7)] [pu cc7] ?_
       refine u0 ?_
       refine ud ee12 (fun hh7 ee13=>?_) (fun hh7 ee14=>?_)
       ·refine u0 ?_
        exact run_ret (blockR_ret (blockR_ret (ut _ (by rw [ee13]<;>rfl))))
       ·refine run_nil (blockR_normal ?_)
        refine u0 ?_
        refine run_nil ?_
        refine unrollS ?_
        refine rTold (mkS 40 [(4,.b (.v (.c (.kptr (encRq r) 0)))),(5,.b (.v (.c (.kptr (encCs c) 0)))),(26,.b (.v (.c (.lst 1 7 (fun i=>([[.meth 124 [.kptr (encSlt x) 0]],[.meth 125 [.kptr (encSlt x) 0]],[.meth 126 [.kptr (encSlt x) 0]],[.meth 127 [.kptr (encSlt x) 0]],[.meth 128 [.kptr (encSlt x) 0]],[.meth 129 [.kptr (encSlt x) 0]],[.meth 130 [.kptr (encSlt x) 0]]]:List (List C)).getD i []))))),(27,.b (.v (vI 7))),(28,.b (.v (vI 7)))] []) [4,5,26,27,28] [] kr ?_ nofun
        refine u0 ?_
        refine rCondF false kr rfl ?_
        refine run_exit (blockR_exit ?_)
        refine u0 ?_
        exact run_ret (ut _ (by rw [ee14]<;>rfl))
theorem quarter_bd{t:Int}(h:0≤t∧t<512):0≤IntKind.i64.wrap ((IntKind.i64.wrap ((t.tmod 32)*4)).tdiv 32)∧IntKind.i64.wrap ((IntKind.i64.wrap ((t.tmod 32)*4)).tdiv 32)<4:=by
 rw [Int.tmod_eq_emod_of_nonneg h.1,w64 (t % 32*4) om om,Int.tdiv_eq_ediv_of_nonneg om,w64 (t % 32*4 / 32) om om]
 omega
def worth_k1(x:Slt)(r:Rq)(c:Cs)(jx1:Int):Int:=
 (bif r.alert then (Mer.Clamp (IntKind.i64.wrap ((Mer.Clamp ((Evl.eval ((x.w.programmes.getD r.prog.toNat zPrg).merit) [(⟨(⟨#[97,105,114,109,97,115,115]⟩:BA),(Air.Airmass (height x r.tile)).1⟩:Vr),(⟨(⟨#[99,108,101,97,114]⟩:BA),(x.sky.clear.at ((IntKind.i64.wrap ((IntKind.i64.wrap ((r.tile.tmod 32)*4)).tdiv 32)).toNat))⟩:Vr),(⟨(⟨#[115,101,101,105,110,103]⟩:BA),x.sky.seeing⟩:Vr),(⟨(⟨#[97,103,101]⟩:BA),jx1⟩:Vr),(⟨(⟨#[114,111,117,110,100]⟩:BA),c.round⟩:Vr),(⟨(⟨#[115,116,101,112]⟩:BA),c.next⟩:Vr),(⟨(⟨#[98,97,108,97,110,99,101]⟩:BA),(imin 1000000 (imax (-1000000) ((Bal.Balance (Fea.shares x.w) x.s.used ((x.w.programmes.getD r.prog.toNat zPrg).partner)).1)))⟩:Vr)]).1))+((x.w.programmes.getD r.prog.toNat zPrg).bonus)))) else (Mer.Clamp ((Evl.eval ((x.w.programmes.getD r.prog.toNat zPrg).merit) [(⟨(⟨#[97,105,114,109,97,115,115]⟩:BA),(Air.Airmass (height x r.tile)).1⟩:Vr),(⟨(⟨#[99,108,101,97,114]⟩:BA),(x.sky.clear.at ((IntKind.i64.wrap ((IntKind.i64.wrap ((r.tile.tmod 32)*4)).tdiv 32)).toNat))⟩:Vr),(⟨(⟨#[115,101,101,105,110,103]⟩:BA),x.sky.seeing⟩:Vr),(⟨(⟨#[97,103,101]⟩:BA),jx1⟩:Vr),(⟨(⟨#[114,111,117,110,100]⟩:BA),c.round⟩:Vr),(⟨(⟨#[115,116,101,112]⟩:BA),c.next⟩:Vr),(⟨(⟨#[98,97,108,97,110,99,101]⟩:BA),(imin 1000000 (imax (-1000000) ((Bal.Balance (Fea.shares x.w) x.s.used ((x.w.programmes.getD r.prog.toNat zPrg).partner)).1)))⟩:Vr)]).1)))
def worth_k1_s(x:Slt)(r:Rq)(c:Cs)(jx1:Int):S:=mkS 110 [(0,.b (.v (.c (.kptr (encSlt x) 0)))),(4,.b (.v (.c (.kptr (encRq r) 0)))),(5,.b (.v (.c (.kptr (encCs c) 0)))),(7,.b (.v (.c (.ptr 7 0)))),(8,.b (.v (vI ((Air.Airmass (height x r.tile)).1)))),(10,.b (.v (vI ((Bal.Balance (Fea.shares x.w) x.s.used ((x.w.programmes.getD r.prog.toNat zPrg).partner)).1)))),(12,.b (.v (vI jx1)))] [(7,.cells (encPrg (x.w.programmes.getD r.prog.toNat zPrg)))]
def worth(x:Slt)(r:Rq)(c:Cs):Int:=
 (bif (!(c.next==0&&(c.round==0&&(c.last==0&&(c.over==false&&true))))) then worth_k1 x r c (IntKind.i64.wrap (x.s.mom - c.last)) else worth_k1 x r c 0)
theorem worth_c(x:Slt)(r:Rq)(c:Cs)(hr:0≤r.prog∧r.prog<x.w.programmes.length)(ht:0≤x.t∧x.t<x.w.telescopes.length)(hp:x.w.partners.length≤1000)(hq:0≤r.tile∧r.tile<512):FCall Tryz.prog 44 [.c (.kptr (encSlt x) 0),.agg (encRq r),.agg (encCs c)] (.v (vI (worth x r c))):=by
 have ee0:=worth.eq_1 x r c
 refine ul Tryz.func44 rfl (fun B hB=>?_)
 refine uq [(0,.imm),(1,.imm)] [] ?_
 refine uq [] [@pu (0≤r.prog∧r.prog<(x.w.programmes.length:Int)) (by first | exact quarter_bd hq | (have hqb:=quarter_bd hq;omega) | (first | omega | (simp (disch:=omega) only [w64];omega) | (simp only [q1,q2,q3,q4,q5,q6,q7,q8,q9,q10,q11,q12] at *;first | omega | (simp (disch:=omega) only [w64];omega))) | (simp;done))] ?_
 have cc1:=height_c x r.tile (by assumption)
 have cc2:=Air.Airmass_c (height x r.tile)
 refine uq [(3,hcon cc1),(4,hcon cc2)] [pu cc1,pu cc2] ?_
 have cc3:=Fea.shares_c x.w (by first | exact quarter_bd hq | (have hqb:=quarter_bd hq;omega) | (first | omega | (simp (disch:=omega) only [w64];omega) | (simp only [q1,q2,q3,q4,q5,q6,q7,q8,q9,q10,q11,q12] at *;first | omega | (simp (disch:=omega) only [w64];omega))) | (simp;done))
 have cc4:=Bal.Balance_c (Fea.shares x.w) x.s.used ((x.w.programmes.getD r.prog.toNat zPrg).partner)
 refine uq [(4,hcon cc3),(12,hcon cc4)] [pu cc3,pu cc4] ?_
 refine u0 ?_
 refine uq [] [ue 90 [.int .i64,.int .i64,.int .i64,.bool]] ?_
 refine rJoin (worth_k1_s x r c) (fun jx1=>worth x r c=worth_k1 x r c jx1) nofun ?_ (fun jx1 ee1=>?_)
 ·refine ud ee0 (fun hh2 ee4=>?_) (fun hh2 ee5=>?_)
  ·refine u0 ?_
   exact run_nil (joined (IntKind.i64.wrap (x.s.mom - c.last)) ee4 (wkTo [0,4,5,7,8,10,12] [] kr))
  ·exact run_nil (joined 0 ee5 (wkTo [0,4,5,7,8,10,12] [] kr))
 ·replace ee1:=ee1.trans (worth_k1.eq_1 x r c jx1)
  refine uq [] [uo ((32 :Int)≠0),uo ((32 :Int)≠0)] ?_
  have cc5:=Evl.eval_c ((x.w.programmes.getD r.prog.toNat zPrg).merit) [(⟨(⟨#[97,105,114,109,97,115,115]⟩:BA),(Air.Airmass (height x r.tile)).1⟩:Vr),(⟨(⟨#[99,108,101,97,114]⟩:BA),(x.sky.clear.at ((IntKind.i64.wrap ((IntKind.i64.wrap ((r.tile.tmod 32)*4)).tdiv 32)).toNat))⟩:Vr),(⟨(⟨#[115,101,101,105,110,103]⟩:BA),x.sky.seeing⟩:Vr),(⟨(⟨#[97,103,101]⟩:BA),jx1⟩:Vr),(⟨(⟨#[114,111,117,110,100]⟩:BA),c.round⟩:Vr),(⟨(⟨#[115,116,101,112]⟩:BA),c.next⟩:Vr),(⟨(⟨#[98,97,108,97,110,99,101]⟩:BA),(imin 1000000 (imax (-1000000) ((Bal.Balance (Fea.shares x.w) x.s.used ((x.w.programmes.getD r.prog.toNat zPrg).partner)).1)))⟩:Vr)]
  refine uq [(10,.frz 0 (fun _=>[cI (x.sky.clear.at ((IntKind.i64.wrap ((IntKind.i64.wrap ((r.tile.tmod 32)*4)).tdiv 32)).toNat))])),(30,.frz 7 (elM encVr zVr [(⟨(⟨#[97,105,114,109,97,115,115]⟩:BA),(Air.Airmass (height x r.tile)).1⟩:Vr),(⟨(⟨#[99,108,101,97,114]⟩:BA),(x.sky.clear.at ((IntKind.i64.wrap ((IntKind.i64.wrap ((r.tile.tmod 32)*4)).tdiv 32)).toNat))⟩:Vr),(⟨(⟨#[115,101,101,105,110,103]⟩:BA),x.sky.seeing⟩:Vr),(⟨(⟨#[97,103,101]⟩:BA),jx1⟩:Vr),(⟨(⟨#[114,111,117,110,100]⟩:BA),c.round⟩:Vr),(⟨(⟨#[115,116,101,112]⟩:BA),c.next⟩:Vr),(⟨(⟨#[98,97,108,97,110,99,101]⟩:BA),(imin 1000000 (imax (-1000000) ((Bal.Balance (Fea.shares x.w) x.s.used ((x.w.programmes.getD r.prog.toNat zPrg).partner)).1)))⟩:Vr)])),(31,hcon cc5)] [@pu (0≤(IntKind.i64.wrap ((IntKind.i64.wrap ((r.tile.tmod 32)*4)).tdiv 32))∧(IntKind.i64.wrap ((IntKind.i64.wrap ((r.tile.tmod 32)*4)).tdiv 32))<(4:Int)) (by first | exact quarter_bd hq | (have hqb:=quarter_bd hq;omega) | (first | omega | (simp (disch:=omega) only [w64];omega) | (simp only [q1,q2,q3,q4,q5,q6,q7,q8,q9,q10,q11,q12] at *;first | omega | (simp (disch:=omega) only [w64];omega))) | (simp;done)),@pu ((26+((IntKind.i64.wrap ((IntKind.i64.wrap ((r.tile.tmod 32)*4)).tdiv 32)).toNat)*1)+1≤(encSlt x).length∧sub (encSlt x) (26+((IntKind.i64.wrap ((IntKind.i64.wrap ((r.tile.tmod 32)*4)).tdiv 32)).toNat)*1) 1=[cI (x.sky.clear.at ((IntKind.i64.wrap ((IntKind.i64.wrap ((r.tile.tmod 32)*4)).tdiv 32)).toNat))]) (fin4 (fun j=>26+j*1+1≤(encSlt x).length∧sub (encSlt x) (26+j*1) 1=[cI (x.sky.clear.at j)]) ⟨Nat.le_of_ble_eq_true rfl,rfl⟩ ⟨Nat.le_of_ble_eq_true rfl,rfl⟩ ⟨Nat.le_of_ble_eq_true rfl,rfl⟩ ⟨Nat.le_of_ble_eq_true rfl,rfl⟩ _ (by first | exact quarter_bd hq | (have hqb:=quarter_bd hq;omega) | (first | omega | (simp (disch:=omega) only [w64];omega) | (simp only [q1,q2,q3,q4,q5,q6,q7,q8,q9,q10,q11,q12] at *;first | omega | (simp (disch:=omega) only [w64];omega))) | (simp;done))),@pu (7=7∧∀ i,i<7→(elM encVr zVr [(⟨(⟨#[97,105,114,109,97,115,115]⟩:BA),(Air.Airmass (height x r.tile)).1⟩:Vr),(⟨(⟨#[99,108,101,97,114]⟩:BA),(x.sky.clear.at ((IntKind.i64.wrap ((IntKind.i64.wrap ((r.tile.tmod 32)*4)).tdiv 32)).toNat))⟩:Vr),(⟨(⟨#[115,101,101,105,110,103]⟩:BA),x.sky.seeing⟩:Vr),(⟨(⟨#[97,103,101]⟩:BA),jx1⟩:Vr),(⟨(⟨#[114,111,117,110,100]⟩:BA),c.round⟩:Vr),(⟨(⟨#[115,116,101,112]⟩:BA),c.next⟩:Vr),(⟨(⟨#[98,97,108,97,110,99,101]⟩:BA),(imin 1000000 (imax (-1000000) ((Bal.Balance (Fea.shares x.w) x.s.used ((x.w.programmes.getD r.prog.toNat zPrg).partner)).1)))⟩:Vr)]) i=[[.str (⟨#[97,105,114,109,97,115,115]⟩:BA),cI ((Air.Airmass (height x r.tile)).1)],[.str (⟨#[99,108,101,97,114]⟩:BA),cI (x.sky.clear.at ((IntKind.i64.wrap ((IntKind.i64.wrap ((r.tile.tmod 32)*4)).tdiv 32)).toNat))],[.str (⟨#[115,101,101,105,110,103]⟩:BA),cI x.sky.seeing],[.str (⟨#[97,103,101]⟩:BA),cI jx1],[.str (⟨#[114,111,117,110,100]⟩:BA),cI c.round],[.str (⟨#[115,116,101,112]⟩:BA),cI c.next],[.str (⟨#[98,97,108,97,110,99,101]⟩:BA),cI (imin 1000000 (imax (-1000000) ((Bal.Balance (Fea.shares x.w) x.s.used ((x.w.programmes.getD r.prog.toNat zPrg).partner)).1)))]].getD i []) (⟨rfl,fun i hi=>match i,hi with | 0,_=>rfl | 1,_=>rfl | 2,_=>rfl | 3,_=>rfl | 4,_=>rfl | 5,_=>rfl | 6,_=>rfl⟩),pu cc5] ?_
  have cc6:=Mer.Clamp_c ((Evl.eval ((x.w.programmes.getD r.prog.toNat zPrg).merit) [(⟨(⟨#[97,105,114,109,97,115,115]⟩:BA),(Air.Airmass (height x r.tile)).1⟩:Vr),(⟨(⟨#[99,108,101,97,114]⟩:BA),(x.sky.clear.at ((IntKind.i64.wrap ((IntKind.i64.wrap ((r.tile.tmod 32)*4)).tdiv 32)).toNat))⟩:Vr),(⟨(⟨#[115,101,101,105,110,103]⟩:BA),x.sky.seeing⟩:Vr),(⟨(⟨#[97,103,101]⟩:BA),jx1⟩:Vr),(⟨(⟨#[114,111,117,110,100]⟩:BA),c.round⟩:Vr),(⟨(⟨#[115,116,101,112]⟩:BA),c.next⟩:Vr),(⟨(⟨#[98,97,108,97,110,99,101]⟩:BA),(imin 1000000 (imax (-1000000) ((Bal.Balance (Fea.shares x.w) x.s.used ((x.w.programmes.getD r.prog.toNat zPrg).partner)).1)))⟩:Vr)]).1)
  refine uq [(1,hcon cc6)] [pu cc6] ?_
  refine u0 ?_
  refine ud ee1 (fun hh1 ee2=>?_) (fun hh1 ee3=>?_)
  ·have cc7:=Mer.Clamp_c (IntKind.i64.wrap ((Mer.Clamp ((Evl.eval ((x.w.programmes.getD r.prog.toNat zPrg).merit) [(⟨(⟨#[97,105,114,109,97,115,115]⟩:BA),(Air.Airmass (height x r.tile)).1⟩:Vr),(⟨(⟨#[99,108,101,97,114]⟩:BA),(x.sky.clear.at ((IntKind.i64.wrap ((IntKind.i64.wrap ((r.tile.tmod 32)*4)).tdiv 32)).toNat))⟩:Vr),(⟨(⟨#[115,101,101,105,110,103]⟩:BA),x.sky.seeing⟩:Vr),(⟨(⟨#[97,103,101]⟩:BA),jx1⟩:Vr),(⟨(⟨#[114,111,117,110,100]⟩:BA),c.round⟩:Vr),(⟨(⟨#[115,116,101,112]⟩:BA),c.next⟩:Vr),(⟨(⟨#[98,97,108,97,110,99,101]⟩:BA),(imin 1000000 (imax (-1000000) ((Bal.Balance (Fea.shares x.w) x.s.used ((x.w.programmes.getD r.prog.toNat zPrg).partner)).1)))⟩:Vr)]).1))+((x.w.programmes.getD r.prog.toNat zPrg).bonus)))
   refine uq [(4,hcon cc7)] [pu cc7] ?_
   refine u0 ?_
   exact run_ret (ut _ (by rw [ee2]<;>rfl))
  ·refine u0 ?_
   exact run_ret (ut _ (by rw [ee3]<;>rfl))
end Go.Proofs.YtidbmbpeblmliaaGreatDoor.Slo
namespace Go.Proofs.YtidbmbpeblmliaaGreatDoor.Cnd
open Go.Sym Go.Proofs.YtidbmbpeblmliaaGreatDoor
set_option linter.unusedVariables false
set_option linter.unusedSimpArgs false
def crs(s:Sta)(i k:Nat):Cs:=(s.courses.getD i []).getD k zCs
def cOne(w:Wd)(s:Sta)(i k:Nat):List (Rq×Cs):=if (crs s i k).over then [] else [(⟨i,(w.programmes.getD i zPrg).tiles.getD k 0,((w.programmes.getD i zPrg).seq.l.getD (crs s i k).next.toNat zStp).f,0,false⟩,crs s i k)]
def candT(w:Wd)(s:Sta)(i:Nat):Nat→List (Rq×Cs)
 | 0=>[]
 | k+1=>candT w s i k++cOne w s i k
def candP(w:Wd)(s:Sta):Nat→List (Rq×Cs)
 | 0=>[]
 | i+1=>candP w s i++candT w s i (w.programmes.getD i zPrg).tiles.length
def oOne(s:Sta)(n:Nat):Rq×Cs:=(⟨(s.opn.getD n zFol).prog,(s.opn.getD n zFol).tile,(s.opn.getD n zFol).filter,0,true⟩,zCs)
def candO(s:Sta):Nat→List (Rq×Cs)
 | 0=>[]
 | n+1=>candO s n++[oOne s n]
def candL(w:Wd)(s:Sta):List (Rq×Cs):=candP w s w.programmes.length++candO s s.opn.length
def encRC(a:Rq×Cs):List CV:=[.agg (encRq a.1),.agg (encCs a.2)]
def candX(w:Wd)(s:Sta):List (List CV):=(candL w s).map encRC
theorem candT_mono(w:Wd)(s:Sta)(i k m:Nat):∃ r,candT w s i (k+m)=candT w s i k++r:=by
 induction m with
 | zero=>exact ⟨[],by simp⟩
 | succ m ih=>obtain ⟨r,hr⟩:=ih;exact ⟨r++cOne w s i (k+m),by rw [← Nat.add_assoc,candT,hr,List.append_assoc]⟩
theorem candP_mono(w:Wd)(s:Sta)(k m:Nat):∃ r,candP w s (k+m)=candP w s k++r:=by
 induction m with
 | zero=>exact ⟨[],by simp⟩
 | succ m ih=>obtain ⟨r,hr⟩:=ih;exact ⟨r++candT w s (k+m) _,by rw [← Nat.add_assoc,candP,hr,List.append_assoc]⟩
theorem candO_mono(s:Sta)(k m:Nat):∃ r,candO s (k+m)=candO s k++r:=by
 induction m with
 | zero=>exact ⟨[],by simp⟩
 | succ m ih=>obtain ⟨r,hr⟩:=ih;exact ⟨r++[oOne s (k+m)],by rw [← Nat.add_assoc,candO,hr,List.append_assoc]⟩
theorem candO_len(s:Sta):∀ n,(candO s n).length=n
 | 0=>rfl
 | n+1=>by rw [candO,List.length_append,candO_len s n];rfl
theorem getD_mid{α:Type}(f:α→List CV)(l:List α)(a:α)(r:List α):l.length<((l++a :: r).map f).length∧((l++a :: r).map f).getD l.length []=f a:=by
 refine ⟨by simp,?_⟩
 simp [List.getD_eq_getElem?_getD]
theorem cand_at{w:Wd}{s:Sta}{i k:Nat}(hi:i<w.programmes.length)(hk:k<(w.programmes.getD i zPrg).tiles.length)(ho:(crs s i k).over=false):
  (candP w s i++candT w s i k).length<(candX w s).length∧(candX w s).getD (candP w s i++candT w s i k).length []=encRC (⟨i,(w.programmes.getD i zPrg).tiles.getD k 0,((w.programmes.getD i zPrg).seq.l.getD (crs s i k).next.toNat zStp).f,0,false⟩,crs s i k):=by
 obtain ⟨r1,h1⟩:=candT_mono w s i (k+1) ((w.programmes.getD i zPrg).tiles.length - (k+1))
 obtain ⟨r2,h2⟩:=candP_mono w s (i+1) (w.programmes.length - (i+1))
 rw [show k+1+((w.programmes.getD i zPrg).tiles.length - (k+1))=(w.programmes.getD i zPrg).tiles.length by omega] at h1
 rw [show i+1+(w.programmes.length - (i+1))=w.programmes.length by omega] at h2
 have e:candL w s=(candP w s i++candT w s i k)++(⟨i,(w.programmes.getD i zPrg).tiles.getD k 0,((w.programmes.getD i zPrg).seq.l.getD (crs s i k).next.toNat zStp).f,0,false⟩,crs s i k) :: (r1++r2++candO s s.opn.length):=by
  rw [candL,h2,candP,h1,candT,cOne,if_neg (by rw [ho];exact Bool.false_ne_true)]
  simp only [List.append_assoc,List.cons_append,List.nil_append]
 rw [candX,e]
 exact getD_mid _ _ _ _
theorem cand_at2{w:Wd}{s:Sta}{n:Nat}(hn:n<s.opn.length):
  (candP w s w.programmes.length).length+n<(candX w s).length∧(candX w s).getD ((candP w s w.programmes.length).length+n) []=encRC (oOne s n):=by
 obtain ⟨r,h⟩:=candO_mono s (n+1) (s.opn.length - (n+1))
 rw [show n+1+(s.opn.length - (n+1))=s.opn.length by omega] at h
 have e:candL w s=(candP w s w.programmes.length++candO s n)++oOne s n :: r:=by
  rw [candL,h,candO]
  simp only [List.append_assoc,List.cons_append,List.nil_append]
 have:=getD_mid encRC (candP w s w.programmes.length++candO s n) (oOne s n) r
 rw [← e] at this
 rw [List.length_append,candO_len] at this
 exact this
def cS1(w:Wd)(s:Sta)(k:Nat)(x:Int×Nat):S:=
 mkI 76 [(0,.b (.v (.c (.yld 0)))),(1,.b (.v (.c (.kptr (encWd w) 0)))),(2,.b (.v (.c (.kptr (encSta s) 0)))),(12,.b (.v (.c (.lst 10 w.programmes.length (elM encPrg zPrg w.programmes))))),(13,.b (.v (vI w.programmes.length))),(14,.b (.v (vI x.1)))] [(0,.cnt x.2 (candX w s) k)]
def cS2(w:Wd)(s:Sta)(k:Nat)(i:Int)(x:Int×Nat):S:=
 mkI 76 [(0,.b (.v (.c (.yld 0)))),(1,.b (.v (.c (.kptr (encWd w) 0)))),(2,.b (.v (.c (.kptr (encSta s) 0)))),(4,.b (.v (vI i))),(5,.b (.v (.c (.kptr (encPrg (w.programmes.getD i.toNat zPrg)) 0)))),(12,.b (.v (.c (.lst 10 w.programmes.length (elM encPrg zPrg w.programmes))))),(13,.b (.v (vI w.programmes.length))),(14,.b (.v (vI i))),(20,.b (.v (.c (.lst 1 (((w.programmes.getD i.toNat zPrg).tiles).length) (elM Sym.encI 0 ((w.programmes.getD i.toNat zPrg).tiles)))))),(21,.b (.v (vI (w.programmes.getD i.toNat zPrg).tiles.length))),(22,.b (.v (vI x.1)))] [(0,.cnt x.2 (candX w s) k)]
def cS3(w:Wd)(s:Sta)(k:Nat)(x:Int×Nat):S:=
 mkI 76 [(0,.b (.v (.c (.yld 0)))),(58,.b (.v (.c (.lst 5 s.opn.length (elM encFol zFol s.opn))))),(59,.b (.v (vI s.opn.length))),(60,.b (.v (vI x.1)))] [(0,.cnt x.2 (candX w s) k)]
theorem cand_it(w:Wd)(s:Sta)(hw:w.programmes.length≤1000∧∀ i,i<w.programmes.length→(w.programmes.getD i zPrg).tiles.length≤1000000)(hc:s.courses.length=w.programmes.length)(ho:s.opn.length≤1000000) 
  (hs:∀ i k:Nat,i<w.programmes.length→k<(w.programmes.getD i zPrg).tiles.length→k<(s.courses.getD i []).length∧((crs s i k).over=false→0≤(crs s i k).next∧(crs s i k).next<((w.programmes.getD i zPrg).seq.l.length:Int))) :
  FIter Tryz.prog 115 [.kptr (encWd w) 0,.kptr (encSta s) 0] ((candL w s).map encRC):=by
 show FIter Tryz.prog 115 [.kptr (encWd w) 0,.kptr (encSta s) 0] (candX w s)
 refine fiter_of Tryz.func115 rfl kr rfl (fun k B hk hB=>?_)
 refine u0 ?_
 refine rBlock ?_
 refine rLoop (cS1 w s k) (fun x=>0≤x.1∧x.1≤w.programmes.length∧x.2=(candP w s x.1.toNat).length∧x.2≤k) (fun x=>(w.programmes.length - x.1).toNat) (0,0) (wkTo [0,1,2,12,13,14] [] kr) ⟨om,om,rfl,Nat.zero_le _⟩ ?_
 rintro ⟨i,j⟩ ⟨h0,h1,h2,h3⟩
 simp only at h0 h1 h2 h3
 refine u0 ?_
 refine uc (decide (i<(w.programmes.length:Int))) (fun hi=>?_) (fun hi=>?_)
 ·have hi:i<w.programmes.length:=of_decide_eq_true hi
  have hw2:=hw.2 i.toNat om
  refine rBlock ?_
  refine uq [] [@pu (0≤i∧i<(w.programmes.length:Int)) ⟨h0,hi⟩] ?_
  refine u0 ?_
  refine frzBoxW hB.2 5 5 0 (encPrg (w.programmes.getD i.toNat zPrg)) [0,1,2,4,12,13,14,20,21,22] [] kr kr kr ?_ nofun
  refine rBlock ?_
  refine rLoop (cS2 w s k i) (fun x=>0≤x.1∧x.1≤(w.programmes.getD i.toNat zPrg).tiles.length∧x.2=(candP w s i.toNat++candT w s i.toNat x.1.toNat).length∧x.2≤k) (fun x=>((w.programmes.getD i.toNat zPrg).tiles.length - x.1).toNat) (0,j) (wkTo [0,1,2,4,5,12,13,14,20,21,22] [] kr) ⟨om,om,by rw [h2];show _=(candP w s i.toNat++[]).length;rw [List.append_nil],h3⟩ ?_
  rintro ⟨n,q⟩ ⟨g0,g1,g2,g3⟩
  simp only at g0 g1 g2 g3
  refine u0 ?_
  refine uc (decide (n<((w.programmes.getD i.toNat zPrg).tiles.length:Int))) (fun hn=>?_) (fun hn=>?_)
  ·have hn:n<(w.programmes.getD i.toNat zPrg).tiles.length:=of_decide_eq_true hn
   obtain ⟨hs1,hs2⟩:=hs i.toNat n.toNat om om
   refine rBlock ?_
   refine uq [] [@pu (0≤n∧n<((w.programmes.getD i.toNat zPrg).tiles.length:Int)) ⟨g0,hn⟩] ?_
   refine uq [] [@pu (0≤i∧i<(s.courses.length:Int)) ⟨h0,om⟩,@pu (0≤n∧n<((s.courses.getD i.toNat []).length:Int)) ⟨g0,om⟩] ?_
   have hask:(crs s i.toNat n.toNat).over=false→q<(candX w s).length∧q≤k∧(candX w s).getD q []=[.agg [cI i,cI ((w.programmes.getD i.toNat zPrg).tiles.getD n.toNat 0),cI ((w.programmes.getD i.toNat zPrg).seq.l.getD (crs s i.toNat n.toNat).next.toNat zStp).f,cI 0,.bool false],.agg (encCs (crs s i.toNat n.toNat))]:=by
    intro hf
    obtain ⟨e1,e2⟩:=cand_at (w:=w) (s:=s) (i:=i.toNat) (k:=n.toNat) om om hf
    rw [g2]
    refine ⟨e1,om,?_⟩
    rw [e2]
    simp only [encRC,encRq,show (i.toNat:Int)=i by omega]
   refine uq [(17,.mark)] [@pg (!(crs s i.toNat n.toNat).over) (0≤(crs s i.toNat n.toNat).next∧(crs s i.toNat n.toNat).next<((w.programmes.getD i.toNat zPrg).seq.l.length:Int)) (fun hg=>hs2 (by simpa using hg)),@pg (!(crs s i.toNat n.toNat).over) (q<(candX w s).length∧q≤k∧(candX w s).getD q []=[.agg [cI i,cI ((w.programmes.getD i.toNat zPrg).tiles.getD n.toNat 0),cI ((w.programmes.getD i.toNat zPrg).seq.l.getD (crs s i.toNat n.toNat).next.toNat zStp).f,cI 0,.bool false],.agg (encCs (crs s i.toNat n.toNat))]) (fun hg=>hask (by simpa using hg))] ?_
   refine uc (!(crs s i.toNat n.toNat).over&&!decide (q<k)) (fun h=>?_) (fun h=>?_)
   ·simp only [Bool.and_eq_true,Bool.not_eq_true',decide_eq_false_iff_not] at h
    obtain ⟨e1,e2,e3⟩:=hask h.1
    refine run_ret (blockR_ret (loopR_ret (blockR_ret (blockR_ret (loopR_ret (blockR_ret ⟨.inl rfl,?_⟩))))))
    refine Eq.trans (b:=some (some (.cnt (bif !(crs s i.toNat n.toNat).over then q+1 else q) (candX w s) k))) kr ?_
    rw [h.1,stopN_lt (show k<(candX w s).length by omega),show q=k by omega]
    rfl
   ·refine run_nil (blockR_normal ?_)
    refine u0 ?_
    have e:IntKind.i64.wrap (n+1)=n+1:=w64 _ om om
    refine run_nil (loopR_next (IntKind.i64.wrap (n+1),bif !(crs s i.toNat n.toNat).over then q+1 else q) (wkTo [0,1,2,4,5,12,13,14,20,21,22] [] kr) ?_ ?_)
    ·simp only [e]
     refine ⟨om,om,?_,?_⟩
     ·rw [show (n+1).toNat=n.toNat+1 by omega,candT,g2,cOne]
      cases (crs s i.toNat n.toNat).over<;>simp<;>omega
     ·revert h
      cases (crs s i.toNat n.toNat).over<;>simp<;>omega
    ·simp only [e];omega
  ·have hn:¬ n<(w.programmes.getD i.toNat zPrg).tiles.length:=of_decide_eq_false hn
   refine run_exit (loopR_exit (blockR_exit ?_))
   refine run_nil (blockR_normal ?_)
   refine u0 ?_
   have e:IntKind.i64.wrap (i+1)=i+1:=w64 _ om om
   refine run_nil (loopR_next (IntKind.i64.wrap (i+1),q) (wkTo [0,1,2,12,13,14] [] kr) ?_ ?_)
   ·simp only [e]
    refine ⟨om,om,?_,g3⟩
    rw [show (i+1).toNat=i.toNat+1 by omega,candP,g2,show n.toNat=(w.programmes.getD i.toNat zPrg).tiles.length by omega]
   ·simp only [e];omega
 ·have hi:¬ i<w.programmes.length:=of_decide_eq_false hi
  refine run_exit (loopR_exit (blockR_exit ?_))
  refine u0 ?_
  have hj:j=(candP w s w.programmes.length).length:=by rw [h2,show i.toNat=w.programmes.length by omega]
  refine rBlock ?_
  refine rLoop (cS3 w s k) (fun x=>0≤x.1∧x.1≤s.opn.length∧x.2=(candP w s w.programmes.length).length+x.1.toNat∧x.2≤k) (fun x=>(s.opn.length - x.1).toNat) (0,j) (wkTo [0,58,59,60] [] kr) ⟨om,om,hj,h3⟩ ?_
  rintro ⟨n,q⟩ ⟨g0,g1,g2,g3⟩
  simp only at g0 g1 g2 g3
  refine u0 ?_
  refine uc (decide (n<(s.opn.length:Int))) (fun hn=>?_) (fun hn=>?_)
  ·have hn:n<s.opn.length:=of_decide_eq_true hn
   refine rBlock ?_
   refine uq [] [@pu (0≤n∧n<(s.opn.length:Int)) ⟨g0,hn⟩] ?_
   have hask:q<(candX w s).length∧q≤k∧(candX w s).getD q []=[.agg [cI (s.opn.getD n.toNat zFol).prog,cI (s.opn.getD n.toNat zFol).tile,cI (s.opn.getD n.toNat zFol).filter,cI 0,.bool true],.agg [cI 0,cI 0,cI 0,.bool false]]:=by
    obtain ⟨e1,e2⟩:=cand_at2 (w:=w) (s:=s) (n:=n.toNat) om
    rw [← g2] at e1 e2
    exact ⟨e1,g3,e2⟩
   refine uq [] [@pu _ hask] ?_
   refine uc (!decide (q<k)) (fun h=>?_) (fun h=>?_)
   ·simp only [Bool.not_eq_true',decide_eq_false_iff_not] at h
    refine run_ret (blockR_ret (loopR_ret (blockR_ret ⟨.inl rfl,?_⟩)))
    refine Eq.trans (b:=some (some (.cnt (q+1) (candX w s) k))) kr ?_
    rw [stopN_lt (show k<(candX w s).length by have:=hask.1;omega),show q=k by omega]
   ·simp only [Bool.not_eq_false',decide_eq_true_eq] at h
    refine run_nil (blockR_normal ?_)
    refine u0 ?_
    have e:IntKind.i64.wrap (n+1)=n+1:=w64 _ om om
    refine run_nil (loopR_next (IntKind.i64.wrap (n+1),q+1) (wkTo [0,58,59,60] [] kr) ?_ ?_)
    ·simp only [e];refine ⟨om,om,om,om⟩
    ·simp only [e];omega
  ·have hn:¬ n<s.opn.length:=of_decide_eq_false hn
   refine run_exit (loopR_exit (blockR_exit ?_))
   refine run_nil ⟨.inr rfl,?_⟩
   refine Eq.trans (b:=some (some (.cnt q (candX w s) k))) kr ?_
   have el:(candX w s).length=(candP w s w.programmes.length).length+s.opn.length:=by rw [candX,List.length_map,candL,List.length_append,candO_len]
   have e:q=(candX w s).length:=by omega
   have e2:k=(candX w s).length:=by omega
   rw [e2,stopN_eq,e]
theorem candidates_c(w:Wd)(s:Sta):FCall Tryz.prog 39 [.agg (encWd w),.agg (encSta s)] (.v (.c (.clo 115 [.kptr (encWd w) 0,.kptr (encSta s) 0]))):=by
 refine ul Tryz.func39 rfl (fun B hB=>?_)
 refine uq [(0,.imm),(1,.imm)] [] ?_
 refine u0 ?_
 exact run_ret (ut (.v (.c (.clo 115 [.kptr (encWd w) 0,.kptr (encSta s) 0]))) rfl)
end Go.Proofs.YtidbmbpeblmliaaGreatDoor.Cnd
