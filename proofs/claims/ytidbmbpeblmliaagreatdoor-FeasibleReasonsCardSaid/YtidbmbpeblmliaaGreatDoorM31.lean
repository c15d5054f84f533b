/- Part of the proof of the statement that the claim's last text names: contracts of functions and laws of the symbolic layer. -/
import Derived.Test.YtidbmbpeblmliaaGreatDoorM14
import Derived.Test.YtidbmbpeblmliaaGreatDoorM27
set_option linter.unusedVariables false
set_option linter.unusedSimpArgs false
namespace Go.Proofs.YtidbmbpeblmliaaGreatDoor.LwQ
open Go.Sym Go.Proofs.YtidbmbpeblmliaaGreatDoor
def Reqs_b1_r(w:Wd)(c:Scr)(s:Sta)(t:Int)(lx1:Unit):Bool:=
 Hd.head
def Reqs_b1(w:Wd)(c:Scr)(s:Sta)(t:Int)(li1:Nat)(lx1:Unit):Fl Unit Bool:=
 (bif (!(Lw.place w s t ((((Req.Requests w c s t).1).getD li1 zRq).prog))) then .rt false else (bif (((((((((((Air.Height ((w.telescopes.getD t.toNat zTel).site) ((((Req.Requests w c s t).1).getD li1 zRq).tile) s.mom).2) != 0)||(decide (((Air.Height ((w.telescopes.getD t.toNat zTel).site) ((((Req.Requests w c s t).1).getD li1 zRq).tile) s.mom).1)<w.limit)))||(((Wea.At c.spells s.mom).2) != 0))||(!(((Wea.At c.spells s.mom).1).opn)))||(((Ovr.Stuck c.overrides t s.mom).2) != 0))||(((Rig.Prepare (w.telescopes.getD t.toNat zTel) (⟨(s.rigs.getD t.toNat zRg).pos,(s.rigs.getD t.toNat zRg).filter,(((s.rigs.getD t.toNat zRg).stuck)||((Ovr.Stuck c.overrides t s.mom).1))⟩:Rg) (((((Req.Requests w c s t).1).getD li1 zRq).tile).tmod 32) ((((Req.Requests w c s t).1).getD li1 zRq).filter)).2.2) != 0))||((Ovr.Judge c.overrides t ((((Req.Requests w c s t).1).getD li1 zRq).prog) ((((Req.Requests w c s t).1).getD li1 zRq).tile) s.mom) != 0))||(decide (s.mom<((w.programmes.getD (((((Req.Requests w c s t).1).getD li1 zRq).prog).toNat) zPrg).frm))))||(decide (s.mom>((w.programmes.getD (((((Req.Requests w c s t).1).getD li1 zRq).prog).toNat) zPrg).til)))) then .rt false else (bif (!((((Req.Requests w c s t).1).getD li1 zRq).alert)) then (bif ((!((Lw.course w s ((((Req.Requests w c s t).1).getD li1 zRq).prog) ((((Req.Requests w c s t).1).getD li1 zRq).tile)).2))||((Cad.Ready ((w.programmes.getD (((((Req.Requests w c s t).1).getD li1 zRq).prog).toNat) zPrg).seq) ((Lw.course w s ((((Req.Requests w c s t).1).getD li1 zRq).prog) ((((Req.Requests w c s t).1).getD li1 zRq).tile)).1) s.mom) != 0)) then .rt false else .nx ()) else .nx ())))
def Reqs_b1_s(w:Wd)(c:Scr)(s:Sta)(t:Int)(li1:Nat)(qv:Int)(lx1:Unit):S:=mkS 205 [(3,.b (.v (vI t))),(4,.b (.v (.c (.kptr (encWd w) 0)))),(5,.b (.v (.c (.kptr (encScr c) 0)))),(6,.b (.v (.c (.kptr (encSta s) 0)))),(9,.b (.v (vB Hd.head))),(10,.b (.v (.c (.lst 5 (((Req.Requests w c s t).1).length) (elM encRq zRq ((Req.Requests w c s t).1)))))),(13,.b (.v (vI qv)))] []
def Reqs(w:Wd)(c:Scr)(s:Sta)(t:Int):Bool:=
 (bif (!(Lw.few w c s)) then Hd.head else (bif (((Req.Requests w c s t).2.2) != 0) then Hd.head else (runL (Reqs_b1 w c s t) (((Req.Requests w c s t).1).length) 0 ()).fin (Reqs_b1_r w c s t)))
theorem Reqs_c(w:Wd)(c:Scr)(s:Sta)(t:Int):FCall Tryz.prog 5 [.agg (encWd w),.agg (encScr c),.agg (encSta s),vI t] (.v (vB (Reqs w c s t))):=by
 have ee0:=Reqs.eq_1 w c s t
 refine ul Tryz.func5 rfl (fun B hB=>?_)
 refine uq [(0,.imm),(1,.imm),(2,.imm)] [] ?_
 have cc1:=Hd.head_c
 refine us 0 cc1 ?_
 have cc2:=Lw.few_c w c s
 refine us 3 cc2 ?_
 refine ud ee0 (fun hh1 ee1=>?_) (fun hh1 ee2=>?_)
 ·refine u0 ?_
  exact run_ret (ut _ (by rw [ee1]<;>rfl))
 ·have cc3:=Req.Requests_c w c s t
  refine us 4 cc3 ?_
  refine u0 ?_
  refine ud ee2 (fun hh2 ee3=>?_) (fun hh2 ee4=>?_)
  ·refine u0 ?_
   exact run_ret (ut _ (by rw [ee3]<;>rfl))
  ·refine u0 ?_
   refine uR 10 (.c (.lst 5 (((Req.Requests w c s t).1).length) (elM encRq zRq ((Req.Requests w c s t).1)))) (fun hR=>?_)
   have hL1:((Req.Requests w c s t).1).length≤9223372036854775807:=Real.len hR
   refine uF (((Req.Requests w c s t).1).length) (Reqs_b1_s w c s t) (Reqs_b1 w c s t) (fun _ _=>True) () rfl [3,4,5,6,9,10,13] [] trivial (fun li1 lx1 hi1 hJ1 hr1=>?_) (fun lx1 hJ1 hr1=>?_)
   ·have ee6:=Reqs_b1.eq_1 w c s t li1 lx1
    refine uq [] [ub (li1:Int) ((Req.Requests w c s t).1).length] ?_
    have cc4:=Lw.place_c w s t ((((Req.Requests w c s t).1).getD li1 zRq).prog)
    refine us 5 cc4 ?_
    refine ud ee6 (fun hh3 ee7=>?_) (fun hh3 ee9=>?_)
    ·refine u0 ?_
     have ee8:=fin_rt ee4 hr1 hi1 ee7
     exact run_ret (ut _ (by rw [ee8]<;>rfl))
    ·have hpp:=Lw.hplOf (by assumption)
     have htt:=Lw.place_t (by assumption)
     refine uq [] [ub (((Req.Requests w c s t).1).getD li1 zRq).prog w.programmes.length] ?_
     have cc5:=Air.Height_c ((w.telescopes.getD t.toNat zTel).site) ((((Req.Requests w c s t).1).getD li1 zRq).tile) s.mom
     refine uq [(10,hcon cc5)] [ub t w.telescopes.length,pu cc5] ?_
     have cc6:=Wea.At_c c.spells s.mom
     refine us 4 cc6 ?_
     refine uq [] [ub t s.rigs.length] ?_
     have cc7:=Ovr.Stuck_c c.overrides t s.mom
     refine us 5 cc7 ?_
     refine u0 ?_
     have cc8:=Rig.Prepare_c (w.telescopes.getD t.toNat zTel) (⟨(s.rigs.getD t.toNat zRg).pos,(s.rigs.getD t.toNat zRg).filter,(((s.rigs.getD t.toNat zRg).stuck)||((Ovr.Stuck c.overrides t s.mom).1))⟩:Rg) (((((Req.Requests w c s t).1).getD li1 zRq).tile).tmod 32) ((((Req.Requests w c s t).1).getD li1 zRq).filter)
     refine uq [(11,hcon cc8)] [ub t w.telescopes.length,uo ((32 :Int)≠0),pu cc8] ?_
     have cc9:=Ovr.Judge_c c.overrides t ((((Req.Requests w c s t).1).getD li1 zRq).prog) ((((Req.Requests w c s t).1).getD li1 zRq).tile) s.mom
     refine us 35 cc9 ?_
     refine ud ee9 (fun hh4 ee10=>?_) (fun hh4 ee12=>?_)
     ·refine u0 ?_
      have ee11:=fin_rt ee4 hr1 hi1 ee10
      exact run_ret (ut _ (by rw [ee11]<;>rfl))
     ·refine u0 ?_
      refine ud ee12 (fun hh5 ee13=>?_) (fun hh5 ee17=>?_)
      ·have cc10:=Lw.course_c w s ((((Req.Requests w c s t).1).getD li1 zRq).prog) ((((Req.Requests w c s t).1).getD li1 zRq).tile) (by exact Lw.hplOf (by assumption)) (by exact Lw.hlenOf (by assumption))
       refine us 6 cc10 ?_
       have cc11:=Cad.Ready_c ((w.programmes.getD (((((Req.Requests w c s t).1).getD li1 zRq).prog).toNat) zPrg).seq) ((Lw.course w s ((((Req.Requests w c s t).1).getD li1 zRq).prog) ((((Req.Requests w c s t).1).getD li1 zRq).tile)).1) s.mom
       refine us 8 cc11 ?_
       refine ud ee13 (fun hh6 ee14=>?_) (fun hh6 ee16=>?_)
       ·refine u0 ?_
        have ee15:=fin_rt ee4 hr1 hi1 ee14
        exact run_ret (ut _ (by rw [ee15]<;>rfl))
       ·exact run_nil (uN (Reqs_b1_s w c s t) () hi1 [3,4,5,6,9,10,13] [14,15,18,20,23,26] (trivial) ee16)
      ·exact run_nil (uN (Reqs_b1_s w c s t) () hi1 [3,4,5,6,9,10,13] [14,15,18,20,23] (trivial) ee17)
   ·have ee5:=(fin_nx ee4 hr1).trans (Reqs_b1_r.eq_1 w c s t lx1)
    refine u0 ?_
    exact run_ret (ut _ (by rw [ee5]<;>rfl))
def Reas_b1_r(w:Wd)(c:Scr)(s:Sta)(t:Int)(lx1:Unit):Bool:=
 Hd.head
def Reas_k1(w:Wd)(c:Scr)(s:Sta)(t:Int)(li1:Nat)(lx1:Unit)(jx1:Bool):Fl Unit Bool:=
 (bif (!jx1) then .rt false else .nx ())
def Reas_k1_s(w:Wd)(c:Scr)(s:Sta)(t:Int)(li1:Nat)(lx1:Unit)(jx1:Bool):S:=mkS 226 [(3,.b (.v (vI t))),(4,.b (.v (.c (.kptr (encWd w) 0)))),(5,.b (.v (.c (.kptr (encScr c) 0)))),(6,.b (.v (.c (.kptr (encSta s) 0)))),(9,.b (.v (vB Hd.head))),(11,.b (.v (.c (.lst 5 (((Req.Requests w c s t).2.1).length) (elM encExc zExc ((Req.Requests w c s t).2.1)))))),(13,.b (.v (vI (li1:Int)))),(29,.b (.v (vB jx1)))] []
def Reas_k3(w:Wd)(c:Scr)(s:Sta)(t:Int)(li1:Nat)(lx1:Unit)(jx2:Bool)(jx3:Bool):Fl Unit Bool:=
 (bif jx3 then Reas_k1 w c s t li1 lx1 (((Rig.Prepare (w.telescopes.getD t.toNat zTel) (⟨(s.rigs.getD t.toNat zRg).pos,(s.rigs.getD t.toNat zRg).filter,(((s.rigs.getD t.toNat zRg).stuck)||((Ovr.Stuck c.overrides t s.mom).1))⟩:Rg) (((((Req.Requests w c s t).2.1).getD li1 zExc).tile).tmod 32) ((((Req.Requests w c s t).2.1).getD li1 zExc).filter)).2.2)==((((Req.Requests w c s t).2.1).getD li1 zExc).reason)) else Reas_k1 w c s t li1 lx1 false)
def Reas_k3_s(w:Wd)(c:Scr)(s:Sta)(t:Int)(li1:Nat)(lx1:Unit)(jx2:Bool)(jx3:Bool):S:=mkS 226 [(3,.b (.v (vI t))),(4,.b (.v (.c (.kptr (encWd w) 0)))),(5,.b (.v (.c (.kptr (encScr c) 0)))),(6,.b (.v (.c (.kptr (encSta s) 0)))),(9,.b (.v (vB Hd.head))),(11,.b (.v (.c (.lst 5 (((Req.Requests w c s t).2.1).length) (elM encExc zExc ((Req.Requests w c s t).2.1)))))),(13,.b (.v (vI (li1:Int)))),(14,.b (.v (.c (.ptr 14 0)))),(27,.b (.v (vI ((Rig.Prepare (w.telescopes.getD t.toNat zTel) (⟨(s.rigs.getD t.toNat zRg).pos,(s.rigs.getD t.toNat zRg).filter,(((s.rigs.getD t.toNat zRg).stuck)||((Ovr.Stuck c.overrides t s.mom).1))⟩:Rg) (((((Req.Requests w c s t).2.1).getD li1 zExc).tile).tmod 32) ((((Req.Requests w c s t).2.1).getD li1 zExc).filter)).2.2)))),(29,.b (.v (vB false))),(216,.b (.v (vB jx3)))] [(14,.cells (encExc (((Req.Requests w c s t).2.1).getD li1 zExc)))]
def Reas_k2(w:Wd)(c:Scr)(s:Sta)(t:Int)(li1:Nat)(lx1:Unit)(jx2:Bool):Fl Unit Bool:=
 (bif jx2 then Reas_k1 w c s t li1 lx1 (((!((((Req.Requests w c s t).2.1).getD li1 zExc).alert))&&((Lw.course w s ((((Req.Requests w c s t).2.1).getD li1 zExc).prog) ((((Req.Requests w c s t).2.1).getD li1 zExc).tile)).2))&&((Cad.Ready ((w.programmes.getD (((((Req.Requests w c s t).2.1).getD li1 zExc).prog).toNat) zPrg).seq) ((Lw.course w s ((((Req.Requests w c s t).2.1).getD li1 zExc).prog) ((((Req.Requests w c s t).2.1).getD li1 zExc).tile)).1) s.mom)==((((Req.Requests w c s t).2.1).getD li1 zExc).reason))) else (bif (((((Req.Requests w c s t).2.1).getD li1 zExc).reason)==22) then Reas_k1 w c s t li1 lx1 ((Ovr.Judge c.overrides t ((((Req.Requests w c s t).2.1).getD li1 zExc).prog) ((((Req.Requests w c s t).2.1).getD li1 zExc).tile) s.mom)==22) else (bif (((((Req.Requests w c s t).2.1).getD li1 zExc).reason)==18) then Reas_k1 w c s t li1 lx1 (((Ovr.Judge c.overrides t ((((Req.Requests w c s t).2.1).getD li1 zExc).prog) ((((Req.Requests w c s t).2.1).getD li1 zExc).tile) s.mom)==18)||(!(((Wea.At c.spells s.mom).1).opn))) else (bif (((((Req.Requests w c s t).2.1).getD li1 zExc).reason)==11) then Reas_k1 w c s t li1 lx1 ((decide (s.mom<((w.programmes.getD (((((Req.Requests w c s t).2.1).getD li1 zExc).prog).toNat) zPrg).frm)))||(decide (s.mom>((w.programmes.getD (((((Req.Requests w c s t).2.1).getD li1 zExc).prog).toNat) zPrg).til)))) else (bif (((((Req.Requests w c s t).2.1).getD li1 zExc).reason)==9) then Reas_k1 w c s t li1 lx1 (decide (((((Req.Requests w c s t).2.1).getD li1 zExc).filter)≥((w.telescopes.getD t.toNat zTel).filters))) else (bif (((((Req.Requests w c s t).2.1).getD li1 zExc).reason)==20) then Reas_k3 w c s t li1 lx1 jx2 (((((Req.Requests w c s t).2.1).getD li1 zExc).reason)==20) else Reas_k3 w c s t li1 lx1 jx2 (((((Req.Requests w c s t).2.1).getD li1 zExc).reason)==21)))))))
def Reas_k2_s(w:Wd)(c:Scr)(s:Sta)(t:Int)(li1:Nat)(lx1:Unit)(jx2:Bool):S:=mkS 226 [(3,.b (.v (vI t))),(4,.b (.v (.c (.kptr (encWd w) 0)))),(5,.b (.v (.c (.kptr (encScr c) 0)))),(6,.b (.v (.c (.kptr (encSta s) 0)))),(9,.b (.v (vB Hd.head))),(11,.b (.v (.c (.lst 5 (((Req.Requests w c s t).2.1).length) (elM encExc zExc ((Req.Requests w c s t).2.1)))))),(13,.b (.v (vI (li1:Int)))),(14,.b (.v (.c (.ptr 14 0)))),(15,.b (.v (.c (.ptr 15 0)))),(16,.b (.v (.c (.ptr 16 0)))),(17,.b (.v (vB ((Lw.course w s ((((Req.Requests w c s t).2.1).getD li1 zExc).prog) ((((Req.Requests w c s t).2.1).getD li1 zExc).tile)).2)))),(20,.b (.v (.c (.ptr 20 0)))),(27,.b (.v (vI ((Rig.Prepare (w.telescopes.getD t.toNat zTel) (⟨(s.rigs.getD t.toNat zRg).pos,(s.rigs.getD t.toNat zRg).filter,(((s.rigs.getD t.toNat zRg).stuck)||((Ovr.Stuck c.overrides t s.mom).1))⟩:Rg) (((((Req.Requests w c s t).2.1).getD li1 zExc).tile).tmod 32) ((((Req.Requests w c s t).2.1).getD li1 zExc).filter)).2.2)))),(28,.b (.v (vI (Ovr.Judge c.overrides t ((((Req.Requests w c s t).2.1).getD li1 zExc).prog) ((((Req.Requests w c s t).2.1).getD li1 zExc).tile) s.mom)))),(29,.b (.v (vB false))),(151,.b (.v (vI ((((Req.Requests w c s t).2.1).getD li1 zExc).reason)))),(158,.b (.v (vB jx2)))] [(14,.cells (encExc (((Req.Requests w c s t).2.1).getD li1 zExc))),(15,.cells (encPrg (w.programmes.getD (((((Req.Requests w c s t).2.1).getD li1 zExc).prog).toNat) zPrg))),(16,.cells (encCs ((Lw.course w s ((((Req.Requests w c s t).2.1).getD li1 zExc).prog) ((((Req.Requests w c s t).2.1).getD li1 zExc).tile)).1))),(20,.cells (encCnd ((Wea.At c.spells s.mom).1)))]
def Reas_b1(w:Wd)(c:Scr)(s:Sta)(t:Int)(li1:Nat)(lx1:Unit):Fl Unit Bool:=
 (bif (!(Lw.place w s t ((((Req.Requests w c s t).2.1).getD li1 zExc).prog))) then .rt false else (bif (((((Req.Requests w c s t).2.1).getD li1 zExc).reason)==19) then Reas_k1 w c s t li1 lx1 (decide (((Air.Height ((w.telescopes.getD t.toNat zTel).site) ((((Req.Requests w c s t).2.1).getD li1 zExc).tile) s.mom).1)<w.limit)) else (bif (((((Req.Requests w c s t).2.1).getD li1 zExc).reason)==16) then Reas_k2 w c s t li1 lx1 (((((Req.Requests w c s t).2.1).getD li1 zExc).reason)==16) else Reas_k2 w c s t li1 lx1 (((((Req.Requests w c s t).2.1).getD li1 zExc).reason)==17))))
def Reas_b1_s(w:Wd)(c:Scr)(s:Sta)(t:Int)(li1:Nat)(qv:Int)(lx1:Unit):S:=mkS 226 [(3,.b (.v (vI t))),(4,.b (.v (.c (.kptr (encWd w) 0)))),(5,.b (.v (.c (.kptr (encScr c) 0)))),(6,.b (.v (.c (.kptr (encSta s) 0)))),(9,.b (.v (vB Hd.head))),(11,.b (.v (.c (.lst 5 (((Req.Requests w c s t).2.1).length) (elM encExc zExc ((Req.Requests w c s t).2.1)))))),(13,.b (.v (vI qv)))] []
def Reas(w:Wd)(c:Scr)(s:Sta)(t:Int):Bool:=
 (bif (!(Lw.few w c s)) then Hd.head else (bif (((Req.Requests w c s t).2.2) != 0) then Hd.head else (runL (Reas_b1 w c s t) (((Req.Requests w c s t).2.1).length) 0 ()).fin (Reas_b1_r w c s t)))
theorem Reas_c(w:Wd)(c:Scr)(s:Sta)(t:Int):FCall Tryz.prog 6 [.agg (encWd w),.agg (encScr c),.agg (encSta s),vI t] (.v (vB (Reas w c s t))):=by
 have ee0:=Reas.eq_1 w c s t
 refine ul Tryz.func6 rfl (fun B hB=>?_)
 refine uq [(0,.imm),(1,.imm),(2,.imm)] [] ?_
 have cc1:=Hd.head_c
 refine us 0 cc1 ?_
 have cc2:=Lw.few_c w c s
 refine us 3 cc2 ?_
 refine ud ee0 (fun hh1 ee1=>?_) (fun hh1 ee2=>?_)
 ·refine u0 ?_
  exact run_ret (ut _ (by rw [ee1]<;>rfl))
 ·have cc3:=Req.Requests_c w c s t
  refine us 4 cc3 ?_
  refine u0 ?_
  refine ud ee2 (fun hh2 ee3=>?_) (fun hh2 ee4=>?_)
  ·refine u0 ?_
   exact run_ret (ut _ (by rw [ee3]<;>rfl))
  ·refine u0 ?_
   refine uR 11 (.c (.lst 5 (((Req.Requests w c s t).2.1).length) (elM encExc zExc ((Req.Requests w c s t).2.1)))) (fun hR=>?_)
   have hL1:((Req.Requests w c s t).2.1).length≤9223372036854775807:=Real.len hR
   refine uF (((Req.Requests w c s t).2.1).length) (Reas_b1_s w c s t) (Reas_b1 w c s t) (fun _ _=>True) () rfl [3,4,5,6,9,11,13] [] trivial (fun li1 lx1 hi1 hJ1 hr1=>?_) (fun lx1 hJ1 hr1=>?_)
   ·have ee6:=Reas_b1.eq_1 w c s t li1 lx1
    refine uq [] [ub (li1:Int) ((Req.Requests w c s t).2.1).length] ?_
    have cc4:=Lw.place_c w s t ((((Req.Requests w c s t).2.1).getD li1 zExc).prog)
    refine us 5 cc4 ?_
    refine ud ee6 (fun hh3 ee7=>?_) (fun hh3 ee9=>?_)
    ·refine u0 ?_
     have ee8:=fin_rt ee4 hr1 hi1 ee7
     exact run_ret (ut _ (by rw [ee8]<;>rfl))
    ·have hpp:=Lw.hplOf (by assumption)
     have htt:=Lw.place_t (by assumption)
     refine uq [] [ub (((Req.Requests w c s t).2.1).getD li1 zExc).prog w.programmes.length] ?_
     have cc5:=Lw.course_c w s ((((Req.Requests w c s t).2.1).getD li1 zExc).prog) ((((Req.Requests w c s t).2.1).getD li1 zExc).tile) (by exact Lw.hplOf (by assumption)) (by exact Lw.hlenOf (by assumption))
     refine us 6 cc5 ?_
     have cc6:=Air.Height_c ((w.telescopes.getD t.toNat zTel).site) ((((Req.Requests w c s t).2.1).getD li1 zExc).tile) s.mom
     refine uq [(10,hcon cc6)] [ub t w.telescopes.length,pu cc6] ?_
     have cc7:=Wea.At_c c.spells s.mom
     refine us 4 cc7 ?_
     refine uq [] [ub t s.rigs.length] ?_
     have cc8:=Ovr.Stuck_c c.overrides t s.mom
     refine us 5 cc8 ?_
     refine u0 ?_
     have cc9:=Rig.Prepare_c (w.telescopes.getD t.toNat zTel) (⟨(s.rigs.getD t.toNat zRg).pos,(s.rigs.getD t.toNat zRg).filter,(((s.rigs.getD t.toNat zRg).stuck)||((Ovr.Stuck c.overrides t s.mom).1))⟩:Rg) (((((Req.Requests w c s t).2.1).getD li1 zExc).tile).tmod 32) ((((Req.Requests w c s t).2.1).getD li1 zExc).filter)
     refine uq [(11,hcon cc9)] [ub t w.telescopes.length,uo ((32 :Int)≠0),pu cc9] ?_
     have cc10:=Ovr.Judge_c c.overrides t ((((Req.Requests w c s t).2.1).getD li1 zExc).prog) ((((Req.Requests w c s t).2.1).getD li1 zExc).tile) s.mom
     refine us 9 cc10 ?_
     refine u0 (u0 ?_)
     refine rJoin (Reas_k1_s w c s t li1 lx1) (fun jx1=>Reas_b1 w c s t li1 lx1=Reas_k1 w c s t li1 lx1 jx1) nofun ?_ (fun jx1 ee10=>?_)
     ·refine rBlock ?_
      refine u0 ?_
      refine ud ee9 (fun hh5 ee14=>?_) (fun hh5 ee15=>?_)
      ·refine u0 ?_
       refine run_nil (blockR_normal ?_)
       exact run_nil (.inl ⟨rfl,(decide (((Air.Height ((w.telescopes.getD t.toNat zTel).site) ((((Req.Requests w c s t).2.1).getD li1 zExc).tile) s.mom).1)<w.limit)),ee14,wkTo [3,4,5,6,9,11,13,29] [14,15,16,20,22,25] kr⟩)
      ·refine u0 ?_
       refine rJoin (Reas_k2_s w c s t li1 lx1) (fun jx2=>Reas_b1 w c s t li1 lx1=Reas_k2 w c s t li1 lx1 jx2) nofun ?_ (fun jx2 ee16=>?_)
       ·refine ud ee15 (fun hh13 ee32=>?_) (fun hh13 ee33=>?_)
        ·exact run_nil (.inl ⟨rfl,(((((Req.Requests w c s t).2.1).getD li1 zExc).reason)==16),ee32,wkTo [3,4,5,6,9,11,13,14,15,16,17,20,27,28,29,151,158] [22,25] kr⟩)
        ·refine u0 ?_
         exact run_nil (.inl ⟨rfl,(((((Req.Requests w c s t).2.1).getD li1 zExc).reason)==17),ee33,wkTo [3,4,5,6,9,11,13,14,15,16,17,20,27,28,29,151,158] [22,25] kr⟩)
       ·replace ee16:=ee16.trans (Reas_k2.eq_1 w c s t li1 lx1 jx2)
        refine ud ee16 (fun hh6 ee17=>?_) (fun hh6 ee18=>?_)
        ·have cc11:=Cad.Ready_c ((w.programmes.getD (((((Req.Requests w c s t).2.1).getD li1 zExc).prog).toNat) zPrg).seq) ((Lw.course w s ((((Req.Requests w c s t).2.1).getD li1 zExc).prog) ((((Req.Requests w c s t).2.1).getD li1 zExc).tile)).1) s.mom
         refine us 12 cc11 ?_
         refine run_nil (blockR_normal ?_)
         exact run_nil (.inl ⟨rfl,(((!((((Req.Requests w c s t).2.1).getD li1 zExc).alert))&&((Lw.course w s ((((Req.Requests w c s t).2.1).getD li1 zExc).prog) ((((Req.Requests w c s t).2.1).getD li1 zExc).tile)).2))&&((Cad.Ready ((w.programmes.getD (((((Req.Requests w c s t).2.1).getD li1 zExc).prog).toNat) zPrg).seq) ((Lw.course w s ((((Req.Requests w c s t).2.1).getD li1 zExc).prog) ((((Req.Requests w c s t).2.1).getD li1 zExc).tile)).1) s.mom)==((((Req.Requests w c s t).2.1).getD li1 zExc).reason))),ee17,wkTo [3,4,5,6,9,11,13,29] [14,15,16,20] kr⟩)
        ·refine u0 ?_
         refine ud ee18 (fun hh7 ee19=>?_) (fun hh7 ee20=>?_)
         ·refine u0 ?_
          refine run_nil (blockR_normal ?_)
          exact run_nil (.inl ⟨rfl,((Ovr.Judge c.overrides t ((((Req.Requests w c s t).2.1).getD li1 zExc).prog) ((((Req.Requests w c s t).2.1).getD li1 zExc).tile) s.mom)==22),ee19,wkTo [3,4,5,6,9,11,13,29] [14,15,16,20] kr⟩)
         ·refine u0 ?_
          refine ud ee20 (fun hh8 ee21=>?_) (fun hh8 ee22=>?_)
          ·refine u0 ?_
           refine run_nil (blockR_normal ?_)
           exact run_nil (.inl ⟨rfl,(((Ovr.Judge c.overrides t ((((Req.Requests w c s t).2.1).getD li1 zExc).prog) ((((Req.Requests w c s t).2.1).getD li1 zExc).tile) s.mom)==18)||(!(((Wea.At c.spells s.mom).1).opn))),ee21,wkTo [3,4,5,6,9,11,13,29] [14,15,16,20] kr⟩)
          ·refine u0 ?_
           refine ud ee22 (fun hh9 ee23=>?_) (fun hh9 ee24=>?_)
           ·refine u0 ?_
            refine run_nil (blockR_normal ?_)
            exact run_nil (.inl ⟨rfl,((decide (s.mom<((w.programmes.getD (((((Req.Requests w c s t).2.1).getD li1 zExc).prog).toNat) zPrg).frm)))||(decide (s.mom>((w.programmes.getD (((((Req.Requests w c s t).2.1).getD li1 zExc).prog).toNat) zPrg).til)))),ee23,wkTo [3,4,5,6,9,11,13,29] [14,15,16,20] kr⟩)
           ·refine u0 ?_
            refine ud ee24 (fun hh10 ee25=>?_) (fun hh10 ee26=>?_)
            ·refine uq [] [ub t w.telescopes.length] ?_
             refine run_nil (blockR_normal ?_)
             exact run_nil (.inl ⟨rfl,(decide (((((Req.Requests w c s t).2.1).getD li1 zExc).filter)≥((w.telescopes.getD t.toNat zTel).filters))),ee25,wkTo [3,4,5,6,9,11,13,29] [14,15,16,20] kr⟩)
            ·refine u0 ?_
             refine rJoin (Reas_k3_s w c s t li1 lx1 jx2) (fun jx3=>Reas_b1 w c s t li1 lx1=Reas_k3 w c s t li1 lx1 jx2 jx3) nofun ?_ (fun jx3 ee27=>?_)
             ·refine ud ee26 (fun hh12 ee30=>?_) (fun hh12 ee31=>?_)
              ·exact run_nil (.inl ⟨rfl,(((((Req.Requests w c s t).2.1).getD li1 zExc).reason)==20),ee30,wkTo [3,4,5,6,9,11,13,14,27,29,216] [15,16,20] kr⟩)
              ·refine u0 ?_
               exact run_nil (.inl ⟨rfl,(((((Req.Requests w c s t).2.1).getD li1 zExc).reason)==21),ee31,wkTo [3,4,5,6,9,11,13,14,27,29,216] [15,16,20] kr⟩)
             ·replace ee27:=ee27.trans (Reas_k3.eq_1 w c s t li1 lx1 jx2 jx3)
              refine ud ee27 (fun hh11 ee28=>?_) (fun hh11 ee29=>?_)
              ·refine u0 ?_
               refine run_nil (blockR_normal ?_)
               exact run_nil (.inl ⟨rfl,(((Rig.Prepare (w.telescopes.getD t.toNat zTel) (⟨(s.rigs.getD t.toNat zRg).pos,(s.rigs.getD t.toNat zRg).filter,(((s.rigs.getD t.toNat zRg).stuck)||((Ovr.Stuck c.overrides t s.mom).1))⟩:Rg) (((((Req.Requests w c s t).2.1).getD li1 zExc).tile).tmod 32) ((((Req.Requests w c s t).2.1).getD li1 zExc).filter)).2.2)==((((Req.Requests w c s t).2.1).getD li1 zExc).reason)),ee28,wkTo [3,4,5,6,9,11,13,29] [14] kr⟩)
              ·refine run_nil (blockR_normal ?_)
               exact run_nil (.inl ⟨rfl,false,ee29,wkTo [3,4,5,6,9,11,13,29] [14] kr⟩)
     ·replace ee10:=ee10.trans (Reas_k1.eq_1 w c s t li1 lx1 jx1)
      refine u0 ?_
      refine ud ee10 (fun hh4 ee11=>?_) (fun hh4 ee13=>?_)
      ·refine u0 ?_
       have ee12:=fin_rt ee4 hr1 hi1 ee11
       exact run_ret (ut _ (by rw [ee12]<;>rfl))
      ·exact run_nil (uN (Reas_b1_s w c s t) () hi1 [3,4,5,6,9,11,13] [] (trivial) ee13)
   ·have ee5:=(fin_nx ee4 hr1).trans (Reas_b1_r.eq_1 w c s t lx1)
    refine u0 ?_
    exact run_ret (ut _ (by rw [ee5]<;>rfl))
end Go.Proofs.YtidbmbpeblmliaaGreatDoor.LwQ
