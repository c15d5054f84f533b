/- Part of the proof of the statement that the claim's last text names: contracts of functions and laws of the symbolic layer. -/
import Derived.Test.YtidbmbpeblmliaaGreatDoorU14
import Derived.Test.YtidbmbpeblmliaaGreatDoorU23
import Derived.Test.YtidbmbpeblmliaaGreatDoorU16
import Derived.Test.YtidbmbpeblmliaaGreatDoorU22
import Derived.Test.YtidbmbpeblmliaaGreatDoorU18
import Derived.Test.YtidbmbpeblmliaaGreatDoorU19
import Derived.Test.YtidbmbpeblmliaaGreatDoorU21
import Derived.Test.YtidbmbpeblmliaaGreatDoorU12
set_option linter.unusedVariables false
set_option linter.unusedSimpArgs false
namespace Go.Proofs.YtidbmbpeblmliaaGreatDoor.Ovr
open Go.Sym Go.Proofs.YtidbmbpeblmliaaGreatDoor
def within(x:Int)(n:Int):Bool:=
 ((decide (0≤x))&&(decide (x<n)))
theorem within_c(x:Int)(n:Int):FCall Tryz.prog 78 [vI x,vI n] (.v (vB (within x n))):=by
 have ee0:=within.eq_1 x n
 refine ul Tryz.func78 rfl (fun B hB=>?_)
 refine u0 (u0 ?_)
 exact run_ret (ut _ (by rw [ee0]<;>rfl))
def moment(m:Int):Bool:=
 (within m 38400)
theorem moment_c(m:Int):FCall Tryz.prog 77 [vI m] (.v (vB (moment m))):=by
 have ee0:=moment.eq_1 m
 refine ul Tryz.func77 rfl (fun B hB=>?_)
 refine u0 ?_
 have cc1:=within_c m 38400
 refine us 1 cc1 ?_
 exact run_ret (ut _ (by rw [ee0]<;>rfl))
def cvalid(c:OvC):Bool:=
 (((within c.ctel 6)&&(within c.cprog 64))&&(within c.ctile 512))
theorem cvalid_c(c:OvC):FCall Tryz.prog 84 [.agg (encOvC c)] (.v (vB (cvalid c))):=by
 have ee0:=cvalid.eq_1 c
 refine ul Tryz.func84 rfl (fun B hB=>?_)
 refine uq [(0,.imm)] [] ?_
 have cc1:=within_c c.ctel 6
 have cc2:=within_c c.cprog 64
 have cc3:=within_c c.ctile 512
 refine uq [(2,hcon cc1),(6,hcon cc2),(11,hcon cc3)] [pu cc1,pu cc2,pu cc3] ?_
 exact run_ret (ut _ (by rw [ee0]<;>rfl))
def kind1(o:Ov):OvC:=
 (⟨o.tel,0,0⟩:OvC)
theorem kind1_c(o:Ov):FCall Tryz.prog 172 [.agg (encOv o)] (.v (.agg (encOvC (kind1 o)))):=by
 have ee0:=kind1.eq_1 o
 refine ul Tryz.func172 rfl (fun B hB=>?_)
 refine uq [(0,.imm)] [] ?_
 refine u0 ?_
 exact run_ret (ut _ (by rw [ee0]<;>rfl))
def kind2(o:Ov)(c:OvC):Bool:=
 (o.tel==c.ctel)
theorem kind2_c(o:Ov)(c:OvC):FCall Tryz.prog 173 [.agg (encOv o),.agg (encOvC c)] (.v (vB (kind2 o c))):=by
 have ee0:=kind2.eq_1 o c
 refine ul Tryz.func173 rfl (fun B hB=>?_)
 refine uq [(0,.imm),(1,.imm)] [] ?_
 refine u0 ?_
 exact run_ret (ut _ (by rw [ee0]<;>rfl))
def kind3(o:Ov):OvC:=
 (⟨0,o.prog,0⟩:OvC)
theorem kind3_c(o:Ov):FCall Tryz.prog 174 [.agg (encOv o)] (.v (.agg (encOvC (kind3 o)))):=by
 have ee0:=kind3.eq_1 o
 refine ul Tryz.func174 rfl (fun B hB=>?_)
 refine uq [(0,.imm)] [] ?_
 refine u0 ?_
 exact run_ret (ut _ (by rw [ee0]<;>rfl))
def kind4(o:Ov)(c:OvC):Bool:=
 (o.prog==c.cprog)
theorem kind4_c(o:Ov)(c:OvC):FCall Tryz.prog 175 [.agg (encOv o),.agg (encOvC c)] (.v (vB (kind4 o c))):=by
 have ee0:=kind4.eq_1 o c
 refine ul Tryz.func175 rfl (fun B hB=>?_)
 refine uq [(0,.imm),(1,.imm)] [] ?_
 refine u0 ?_
 exact run_ret (ut _ (by rw [ee0]<;>rfl))
def kind5(o:Ov):OvC:=
 (⟨0,0,o.tile⟩:OvC)
theorem kind5_c(o:Ov):FCall Tryz.prog 176 [.agg (encOv o)] (.v (.agg (encOvC (kind5 o)))):=by
 have ee0:=kind5.eq_1 o
 refine ul Tryz.func176 rfl (fun B hB=>?_)
 refine uq [(0,.imm)] [] ?_
 refine u0 ?_
 exact run_ret (ut _ (by rw [ee0]<;>rfl))
def kind6(o:Ov)(c:OvC):Bool:=
 (o.tile==c.ctile)
theorem kind6_c(o:Ov)(c:OvC):FCall Tryz.prog 177 [.agg (encOv o),.agg (encOvC c)] (.v (vB (kind6 o c))):=by
 have ee0:=kind6.eq_1 o c
 refine ul Tryz.func177 rfl (fun B hB=>?_)
 refine uq [(0,.imm),(1,.imm)] [] ?_
 refine u0 ?_
 exact run_ret (ut _ (by rw [ee0]<;>rfl))
def kind7(o:Ov)(c:OvC):Bool:=
 false
theorem kind7_c(o:Ov)(c:OvC):FCall Tryz.prog 178 [.agg (encOv o),.agg (encOvC c)] (.v (vB (kind7 o c))):=by
 have ee0:=kind7.eq_1 o c
 refine ul Tryz.func178 rfl (fun B hB=>?_)
 refine uq [(0,.imm),(1,.imm)] [] ?_
 refine u0 ?_
 exact run_ret (ut _ (by rw [ee0]<;>rfl))
theorem kinds_c:FCall Tryz.prog 85 [] (.v (.c (.kmap false true [([cI 1],[.clo 172 [],.clo 173 [],cI 18]),([cI 2],[.clo 174 [],.clo 175 [],cI 22]),([cI 3],[.clo 176 [],.clo 177 [],cI 22]),([cI 4],[.clo 172 [],.clo 178 [],cI 0])]))):=by
 refine ul Tryz.func85 rfl (fun B hB=>?_)
 refine u0 (u0 ?_)
 refine uq [] [@pu (true=true) (rfl),@pu (true=true) (rfl),@pu (true=true) (rfl),@pu (true=true) (rfl)] ?_
 refine frzMap hB 0 2 false true [([cI 1],[.clo 172 [],.clo 173 [],cI 18]),([cI 2],[.clo 174 [],.clo 175 [],cI 22]),([cI 3],[.clo 176 [],.clo 177 [],cI 22]),([cI 4],[.clo 172 [],.clo 178 [],cI 0])] [] [] kr kr kr ?_ nofun
 exact run_ret (ut (.v (.c (.kmap false true [([cI 1],[.clo 172 [],.clo 173 [],cI 18]),([cI 2],[.clo 174 [],.clo 175 [],cI 22]),([cI 3],[.clo 176 [],.clo 177 [],cI 22]),([cI 4],[.clo 172 [],.clo 178 [],cI 0])]))) rfl)
def Valid_b1_r(l:List Ov)(lx1:Unit):Bool:=
 true
def Valid_b1(l:List Ov)(li1:Nat)(lx1:Unit):Fl Unit Bool:=
 (bif (((l.getD li1 zOv).kind)==1) then (bif ((((!(moment ((l.getD li1 zOv).frm)))||(!(moment ((l.getD li1 zOv).til))))||(!(moment ((l.getD li1 zOv).known))))||(decide (((l.getD li1 zOv).frm)>((l.getD li1 zOv).til)))) then .rt false else (bif ((!(cvalid (kind1 (l.getD li1 zOv))))||(!(((kind1 (l.getD li1 zOv)).ctel)==((l.getD li1 zOv).tel)&&(((kind1 (l.getD li1 zOv)).cprog)==((l.getD li1 zOv).prog)&&(((kind1 (l.getD li1 zOv)).ctile)==((l.getD li1 zOv).tile)&&true))))) then .rt false else .nx ())) else (bif (((l.getD li1 zOv).kind)==2) then (bif ((((!(moment ((l.getD li1 zOv).frm)))||(!(moment ((l.getD li1 zOv).til))))||(!(moment ((l.getD li1 zOv).known))))||(decide (((l.getD li1 zOv).frm)>((l.getD li1 zOv).til)))) then .rt false else (bif ((!(cvalid (kind3 (l.getD li1 zOv))))||(!(((kind3 (l.getD li1 zOv)).ctel)==((l.getD li1 zOv).tel)&&(((kind3 (l.getD li1 zOv)).cprog)==((l.getD li1 zOv).prog)&&(((kind3 (l.getD li1 zOv)).ctile)==((l.getD li1 zOv).tile)&&true))))) then .rt false else .nx ())) else (bif (((l.getD li1 zOv).kind)==3) then (bif ((((!(moment ((l.getD li1 zOv).frm)))||(!(moment ((l.getD li1 zOv).til))))||(!(moment ((l.getD li1 zOv).known))))||(decide (((l.getD li1 zOv).frm)>((l.getD li1 zOv).til)))) then .rt false else (bif ((!(cvalid (kind5 (l.getD li1 zOv))))||(!(((kind5 (l.getD li1 zOv)).ctel)==((l.getD li1 zOv).tel)&&(((kind5 (l.getD li1 zOv)).cprog)==((l.getD li1 zOv).prog)&&(((kind5 (l.getD li1 zOv)).ctile)==((l.getD li1 zOv).tile)&&true))))) then .rt false else .nx ())) else (bif (((l.getD li1 zOv).kind)==4) then (bif ((((!(moment ((l.getD li1 zOv).frm)))||(!(moment ((l.getD li1 zOv).til))))||(!(moment ((l.getD li1 zOv).known))))||(decide (((l.getD li1 zOv).frm)>((l.getD li1 zOv).til)))) then .rt false else (bif ((!(cvalid (kind1 (l.getD li1 zOv))))||(!(((kind1 (l.getD li1 zOv)).ctel)==((l.getD li1 zOv).tel)&&(((kind1 (l.getD li1 zOv)).cprog)==((l.getD li1 zOv).prog)&&(((kind1 (l.getD li1 zOv)).ctile)==((l.getD li1 zOv).tile)&&true))))) then .rt false else .nx ())) else .rt false))))
def Valid_b1_s(l:List Ov)(li1:Nat)(qv:Int)(lx1:Unit):S:=mkS 70 [(11,.b (.v (.c (.lst 7 l.length (elM encOv zOv l))))),(12,.b (.v (vI (l.length:Int)))),(13,.b (.v (vI qv)))] []
def Valid(l:List Ov):Bool:=
 (bif (decide ((l.length:Int)>100)) then false else (runL (Valid_b1 l) l.length 0 ()).fin (Valid_b1_r l))
theorem Valid_c(l:List Ov):FCall Tryz.prog 42 [.c (.lst 7 l.length (elM encOv zOv l))] (.v (vB (Valid l))):=by
 have ee0:=Valid.eq_1 l
 refine ul Tryz.func42 rfl (fun B hB=>?_)
 refine u0 (u0 ?_)
 refine ud ee0 (fun hh1 ee1=>?_) (fun hh1 ee2=>?_)
 ·refine u0 ?_
  exact run_ret (ut _ (by rw [ee1]<;>rfl))
 ·refine u0 ?_
  refine uS 0 7 l.length (elM encOv zOv l) (fun hL1=>?_)
  refine uF l.length (Valid_b1_s l) (Valid_b1 l) (fun _ _=>True) () rfl [11,12,13] [] trivial (fun li1 lx1 hi1 hJ1 hr1=>?_) (fun lx1 hJ1 hr1=>?_)
  ·have ee4:=Valid_b1.eq_1 l li1 lx1
   refine uq [] [ub (li1:Int) l.length] ?_
   rcases Bool.eq_false_or_eq_true (((l.getD li1 zOv).kind)==1) with hs1 | hs1
   ·have ee5:=ee4.trans (bT hs1)
    have cc2:=kinds_c
    refine uq [(0,hcon cc2),(3,.look true [.clo 172 [],.clo 173 [],cI 18])] [pu cc2,uk 3 false [.int .i64],@pu (Look [([cI 1],[.clo 172 [],.clo 173 [],cI 18]),([cI 2],[.clo 174 [],.clo 175 [],cI 22]),([cI 3],[.clo 176 [],.clo 177 [],cI 22]),([cI 4],[.clo 172 [],.clo 178 [],cI 0])] [cI ((l.getD li1 zOv).kind)] [.lit .nilFunc,.lit .nilFunc,cI 0] true [.clo 172 [],.clo 173 [],cI 18]) ((lookI0 hs1))] ?_
    have cc3:=moment_c ((l.getD li1 zOv).frm)
    have cc4:=moment_c ((l.getD li1 zOv).til)
    have cc5:=moment_c ((l.getD li1 zOv).known)
    refine uq [(5,hcon cc3),(11,hcon cc4),(17,hcon cc5)] [pu cc3,pu cc4,pu cc5] ?_
    refine ud ee5 (fun hh2 ee7=>?_) (fun hh2 ee9=>?_)
    ·refine u0 ?_
     have ee8:=fin_rt ee2 hr1 hi1 ee7
     exact run_ret (ut _ (by rw [ee8]<;>rfl))
    ·have cc6:=kind1_c (l.getD li1 zOv)
     refine us 3 cc6 ?_
     have cc7:=cvalid_c (kind1 (l.getD li1 zOv))
     refine uq [(1,hcon cc7)] [pu cc7,@pg (!(!(cvalid (kind1 (l.getD li1 zOv))))) (EqTy Tryz.prog 169 [.int .i64,.int .i64,.int .i64]) (fun hg=>eqTy_of 3 kr om kr kr)] ?_
     refine ud ee9 (fun hh3 ee10=>?_) (fun hh3 ee12=>?_)
     ·refine u0 ?_
      have ee11:=fin_rt ee2 hr1 hi1 ee10
      exact run_ret (ut _ (by rw [ee11]<;>rfl))
     ·exact run_nil (uN (Valid_b1_s l) () hi1 [11,12,13] [4,5,7] (trivial) ee12)
   ·have ee6:=ee4.trans (bF hs1)
    rcases Bool.eq_false_or_eq_true (((l.getD li1 zOv).kind)==2) with hs2 | hs2
    ·have ee13:=ee6.trans (bT hs2)
     have cc8:=kinds_c
     refine uq [(0,hcon cc8),(3,.look true [.clo 174 [],.clo 175 [],cI 22])] [pu cc8,uk 3 false [.int .i64],@pu (Look [([cI 1],[.clo 172 [],.clo 173 [],cI 18]),([cI 2],[.clo 174 [],.clo 175 [],cI 22]),([cI 3],[.clo 176 [],.clo 177 [],cI 22]),([cI 4],[.clo 172 [],.clo 178 [],cI 0])] [cI ((l.getD li1 zOv).kind)] [.lit .nilFunc,.lit .nilFunc,cI 0] true [.clo 174 [],.clo 175 [],cI 22]) ((lookIS hs1 (lookI0 hs2)))] ?_
     have cc9:=moment_c ((l.getD li1 zOv).frm)
     have cc10:=moment_c ((l.getD li1 zOv).til)
     have cc11:=moment_c ((l.getD li1 zOv).known)
     refine uq [(5,hcon cc9),(11,hcon cc10),(17,hcon cc11)] [pu cc9,pu cc10,pu cc11] ?_
     refine ud ee13 (fun hh4 ee15=>?_) (fun hh4 ee17=>?_)
     ·refine u0 ?_
      have ee16:=fin_rt ee2 hr1 hi1 ee15
      exact run_ret (ut _ (by rw [ee16]<;>rfl))
     ·have cc12:=kind3_c (l.getD li1 zOv)
      refine us 3 cc12 ?_
      have cc13:=cvalid_c (kind3 (l.getD li1 zOv))
      refine uq [(1,hcon cc13)] [pu cc13,@pg (!(!(cvalid (kind3 (l.getD li1 zOv))))) (EqTy Tryz.prog 169 [.int .i64,.int .i64,.int .i64]) (fun hg=>eqTy_of 3 kr om kr kr)] ?_
      refine ud ee17 (fun hh5 ee18=>?_) (fun hh5 ee20=>?_)
      ·refine u0 ?_
       have ee19:=fin_rt ee2 hr1 hi1 ee18
       exact run_ret (ut _ (by rw [ee19]<;>rfl))
      ·exact run_nil (uN (Valid_b1_s l) () hi1 [11,12,13] [4,5,7] (trivial) ee20)
    ·have ee14:=ee6.trans (bF hs2)
     rcases Bool.eq_false_or_eq_true (((l.getD li1 zOv).kind)==3) with hs3 | hs3
     ·have ee21:=ee14.trans (bT hs3)
      have cc14:=kinds_c
      refine uq [(0,hcon cc14),(3,.look true [.clo 176 [],.clo 177 [],cI 22])] [pu cc14,uk 3 false [.int .i64],@pu (Look [([cI 1],[.clo 172 [],.clo 173 [],cI 18]),([cI 2],[.clo 174 [],.clo 175 [],cI 22]),([cI 3],[.clo 176 [],.clo 177 [],cI 22]),([cI 4],[.clo 172 [],.clo 178 [],cI 0])] [cI ((l.getD li1 zOv).kind)] [.lit .nilFunc,.lit .nilFunc,cI 0] true [.clo 176 [],.clo 177 [],cI 22]) ((lookIS hs1 (lookIS hs2 (lookI0 hs3))))] ?_
      have cc15:=moment_c ((l.getD li1 zOv).frm)
      have cc16:=moment_c ((l.getD li1 zOv).til)
      have cc17:=moment_c ((l.getD li1 zOv).known)
      refine uq [(5,hcon cc15),(11,hcon cc16),(17,hcon cc17)] [pu cc15,pu cc16,pu cc17] ?_
      refine ud ee21 (fun hh6 ee23=>?_) (fun hh6 ee25=>?_)
      ·refine u0 ?_
       have ee24:=fin_rt ee2 hr1 hi1 ee23
       exact run_ret (ut _ (by rw [ee24]<;>rfl))
      ·have cc18:=kind5_c (l.getD li1 zOv)
       refine us 3 cc18 ?_
       have cc19:=cvalid_c (kind5 (l.getD li1 zOv))
       refine uq [(1,hcon cc19)] [pu cc19,@pg (!(!(cvalid (kind5 (l.getD li1 zOv))))) (EqTy Tryz.prog 169 [.int .i64,.int .i64,.int .i64]) (fun hg=>eqTy_of 3 kr om kr kr)] ?_
       refine ud ee25 (fun hh7 ee26=>?_) (fun hh7 ee28=>?_)
       ·refine u0 ?_
        have ee27:=fin_rt ee2 hr1 hi1 ee26
        exact run_ret (ut _ (by rw [ee27]<;>rfl))
       ·exact run_nil (uN (Valid_b1_s l) () hi1 [11,12,13] [4,5,7] (trivial) ee28)
     ·have ee22:=ee14.trans (bF hs3)
      rcases Bool.eq_false_or_eq_true (((l.getD li1 zOv).kind)==4) with hs4 | hs4
      ·have ee29:=ee22.trans (bT hs4)
       have cc20:=kinds_c
       refine uq [(0,hcon cc20),(3,.look true [.clo 172 [],.clo 178 [],cI 0])] [pu cc20,uk 3 false [.int .i64],@pu (Look [([cI 1],[.clo 172 [],.clo 173 [],cI 18]),([cI 2],[.clo 174 [],.clo 175 [],cI 22]),([cI 3],[.clo 176 [],.clo 177 [],cI 22]),([cI 4],[.clo 172 [],.clo 178 [],cI 0])] [cI ((l.getD li1 zOv).kind)] [.lit .nilFunc,.lit .nilFunc,cI 0] true [.clo 172 [],.clo 178 [],cI 0]) ((lookIS hs1 (lookIS hs2 (lookIS hs3 (lookI0 hs4)))))] ?_
       have cc21:=moment_c ((l.getD li1 zOv).frm)
       have cc22:=moment_c ((l.getD li1 zOv).til)
       have cc23:=moment_c ((l.getD li1 zOv).known)
       refine uq [(5,hcon cc21),(11,hcon cc22),(17,hcon cc23)] [pu cc21,pu cc22,pu cc23] ?_
       refine ud ee29 (fun hh8 ee31=>?_) (fun hh8 ee33=>?_)
       ·refine u0 ?_
        have ee32:=fin_rt ee2 hr1 hi1 ee31
        exact run_ret (ut _ (by rw [ee32]<;>rfl))
       ·have cc24:=kind1_c (l.getD li1 zOv)
        refine us 3 cc24 ?_
        have cc25:=cvalid_c (kind1 (l.getD li1 zOv))
        refine uq [(1,hcon cc25)] [pu cc25,@pg (!(!(cvalid (kind1 (l.getD li1 zOv))))) (EqTy Tryz.prog 169 [.int .i64,.int .i64,.int .i64]) (fun hg=>eqTy_of 3 kr om kr kr)] ?_
        refine ud ee33 (fun hh9 ee34=>?_) (fun hh9 ee36=>?_)
        ·refine u0 ?_
         have ee35:=fin_rt ee2 hr1 hi1 ee34
         exact run_ret (ut _ (by rw [ee35]<;>rfl))
        ·exact run_nil (uN (Valid_b1_s l) () hi1 [11,12,13] [4,5,7] (trivial) ee36)
      ·have ee30:=ee22.trans (bF hs4)
       have cc26:=kinds_c
       refine uq [(0,hcon cc26),(3,.look false [.lit .nilFunc,.lit .nilFunc,cI 0])] [pu cc26,uk 3 false [.int .i64],@pu (Look [([cI 1],[.clo 172 [],.clo 173 [],cI 18]),([cI 2],[.clo 174 [],.clo 175 [],cI 22]),([cI 3],[.clo 176 [],.clo 177 [],cI 22]),([cI 4],[.clo 172 [],.clo 178 [],cI 0])] [cI ((l.getD li1 zOv).kind)] [.lit .nilFunc,.lit .nilFunc,cI 0] false [.lit .nilFunc,.lit .nilFunc,cI 0]) ((lookIS hs1 (lookIS hs2 (lookIS hs3 (lookIS hs4 lookIN)))))] ?_
       have cc27:=moment_c ((l.getD li1 zOv).frm)
       have cc28:=moment_c ((l.getD li1 zOv).til)
       have cc29:=moment_c ((l.getD li1 zOv).known)
       refine uq [(5,hcon cc27),(11,hcon cc28),(17,hcon cc29)] [pu cc27,pu cc28,pu cc29] ?_
       refine rCondT true kr rfl ?_
       refine u0 ?_
       have ee37:=fin_rt ee2 hr1 hi1 ee30
       exact run_ret (ut _ (by rw [ee37]<;>rfl))
  ·have ee3:=(fin_nx ee2 hr1).trans (Valid_b1_r.eq_1 l lx1)
   refine u0 ?_
   exact run_ret (ut _ (by rw [ee3]<;>rfl))
theorem active_c(l:List Ov)(m:Int):FCall Tryz.prog 79 [.c (.lst 7 l.length (elM encOv zOv l)),vI m] (.v (.c (.clo 170 [.kptr [.lst 7 l.length (elM encOv zOv l)] 0,.kptr [cI m] 0]))):=by
 refine ul Tryz.func79 rfl (fun B hB=>?_)
 refine uq [(0,.imm),(1,.imm)] [] ?_
 refine u0 ?_
 exact run_ret (ut (.v (.c (.clo 170 [.kptr [.lst 7 l.length (elM encOv zOv l)] 0,.kptr [cI m] 0]))) rfl)
def inF(o:Ov)(m:Int):Bool:=decide (imax o.frm o.known≤m)&&decide (m≤o.til)
def actN(l:List Ov)(m:Int):Nat→List (Int×Ov)
 | 0=>[]
 | n+1=>if inF (l.getD n zOv) m then actN l m n++[((n:Int),l.getD n zOv)] else actN l m n
def actL(l:List Ov)(m:Int):List (Int×Ov):=actN l m l.length
def actX(l:List Ov)(m:Int):List (List CV):=(actL l m).map fun a:Int×Ov=>[vI a.1,.agg (encOv a.2)]
theorem actN_succ(l:List Ov)(m:Int)(n:Nat):actN l m (n+1)=if inF (l.getD n zOv) m then actN l m n++[((n:Int),l.getD n zOv)] else actN l m n:=rfl
theorem actN_len(l:List Ov)(m:Int)(n:Nat):(actN l m (n+1)).length=bif inF (l.getD n zOv) m then (actN l m n).length+1 else (actN l m n).length:=by
 rw [actN_succ]
 cases inF (l.getD n zOv) m<;>simp
theorem actN_mono(l:List Ov)(m:Int)(n k:Nat):∃ r,actN l m (n+k)=actN l m n++r:=by
 induction k with
 | zero=>exact ⟨[],by simp⟩
 | succ k ih =>
  obtain ⟨r,hr⟩:=ih
  rw [← Nat.add_assoc,actN_succ]
  split
  ·exact ⟨r++[(((n+k:Nat):Int),l.getD (n+k) zOv)],by rw [hr,List.append_assoc]⟩
  ·exact ⟨r,hr⟩
theorem actN_at{l:List Ov}{m:Int}{n:Nat}(hn:n<l.length)(h:inF (l.getD n zOv) m=true):
  (actN l m n).length<(actX l m).length∧(actX l m).getD (actN l m n).length []=[vI n,.agg (encOv (l.getD n zOv))]:=by
 obtain ⟨r,hr⟩:=actN_mono l m (n+1) (l.length - (n+1))
 rw [show n+1+(l.length - (n+1))=l.length by omega] at hr
 have e:actN l m (n+1)=actN l m n++[((n:Int),l.getD n zOv)]:=by rw [actN_succ,if_pos h]
 unfold actX actL
 rw [hr,e]
 refine ⟨by simp,?_⟩
 simp [gE]
theorem actX_len(l:List Ov)(m:Int):(actX l m).length=(actN l m l.length).length:=by simp [actX,actL]
theorem actN_mem(l:List Ov)(m:Int):∀ n,n≤l.length→∀ a,a∈actN l m n→∃ i,i<l.length∧a=((i:Int),l.getD i zOv)∧inF (l.getD i zOv) m=true
 | 0,_,a,ha=>by cases ha
 | n+1,hn,a,ha=>by
  rw [actN_succ] at ha
  split at ha
  ·rcases List.mem_append.1 ha with ha | ha
   ·exact actN_mem l m n om a ha
   ·rw [List.mem_singleton.1 ha];exact ⟨n,om,rfl,by assumption⟩
  ·exact actN_mem l m n om a ha
def itS(l:List Ov)(m:Int)(k:Nat)(x:Int×Nat):S:=
 mkI 34 [(0,.b (.v (.c (.yld 0)))),(1,.b (.v (.c (.kptr [.lst 7 l.length (elM encOv zOv l)] 0)))),(2,.b (.v (.c (.kptr [cI m] 0)))),(6,.b (.v (.c (.lst 7 l.length (elM encOv zOv l))))),(7,.b (.v (vI l.length))),(8,.b (.v (vI x.1)))] [(0,.cnt x.2 (actX l m) k)]
theorem active_it(l:List Ov)(m:Int):FIter Tryz.prog 170 [.kptr [.lst 7 l.length (elM encOv zOv l)] 0,.kptr [cI m] 0] ((actL l m).map fun a:Int×Ov=>[vI a.1,.agg (encOv a.2)]):=by
 show FIter Tryz.prog 170 [.kptr [.lst 7 l.length (elM encOv zOv l)] 0,.kptr [cI m] 0] (actX l m)
 refine fiter_of Tryz.func170 rfl kr rfl (fun k B hk hB=>?_)
 refine u0 ?_
 refine rBlock ?_
 refine uR 6 (.c (.lst 7 l.length (elM encOv zOv l))) (fun hR=>?_)
 have hl:l.length≤9223372036854775807:=Real.len hR
 refine rLoop (itS l m k) (fun x=>0≤x.1∧x.1≤l.length∧x.2=(actN l m x.1.toNat).length∧x.2≤k) (fun x=>(l.length - x.1).toNat) (0,0) (wkTo [0,1,2,6,7,8] [] kr) ⟨om,om,rfl,Nat.zero_le _⟩ ?_
 rintro ⟨i,j⟩ ⟨h0,h1,h2,h3⟩
 simp only at h0 h1 h2 h3
 refine u0 ?_
 refine uc (decide (i<(l.length:Int))) (fun hc=>?_) (fun hc=>?_)
 ·have hc:i<l.length:=of_decide_eq_true hc
  refine rBlock ?_
  refine reg mix [] [pf (⟨h0,hc⟩:0≤i∧i<(l.length:Int))] kr ?_
  have hask:inF (l.getD i.toNat zOv) m=true→j<(actX l m).length∧j≤k∧(actX l m).getD j []=[vI i,.agg (encOv (l.getD i.toNat zOv))]:=by
   intro hf
   obtain ⟨g1,g2⟩:=actN_at om hf
   rw [h2]
   refine ⟨g1,om,?_⟩
   rw [g2,show (i.toNat:Int)=i by omega]
  refine regI mix [] [pf hask] kr ?_
  refine uc (inF (l.getD i.toNat zOv) m&&!decide (j<k)) (fun h=>?_) (fun h=>?_)
  ·simp only [Bool.and_eq_true,Bool.not_eq_true',decide_eq_false_iff_not] at h
   obtain ⟨g1,g2,g3⟩:=hask h.1
   refine run_ret (blockR_ret (loopR_ret (blockR_ret ⟨.inl rfl,?_⟩)))
   refine Eq.trans (b:=some (some (.cnt (bif inF (l.getD i.toNat zOv) m then j+1 else j) (actX l m) k))) kr ?_
   rw [h.1,stopN_lt (show k<(actX l m).length by omega),show j=k by omega]
   rfl
  ·refine run_nil (blockR_normal ?_)
   refine u0 ?_
   have e:IntKind.i64.wrap (i+1)=i+1:=w64 _ om om
   refine run_nil (loopR_next (IntKind.i64.wrap (i+1),bif inF (l.getD i.toNat zOv) m then j+1 else j) (wkTo [0,1,2,6,7,8] [] kr) ?_ ?_)
   ·simp only [e]
    refine ⟨om,om,?_,?_⟩
    ·rw [show (i+1).toNat=i.toNat+1 by omega,actN_len,h2]
    ·revert h
     cases inF (l.getD i.toNat zOv) m<;>simp<;>omega
   ·simp only [e];omega
 ·have hc:¬ i<l.length:=of_decide_eq_false hc
  refine run_exit (loopR_exit (blockR_exit ?_))
  refine run_nil ⟨.inr rfl,?_⟩
  refine Eq.trans (b:=some (some (.cnt j (actX l m) k))) kr ?_
  have e:j=(actX l m).length:=by rw [h2,actX_len,show i.toNat=l.length by omega]
  have e2:k=(actX l m).length:=by omega
  rw [e2,stopN_eq,e]
theorem act_kind{l:List Ov}{m:Int}(h:Valid l=true){i:Nat}(hi:i<(actL l m).length):1≤((actL l m).getD i (0,zOv)).2.kind∧((actL l m).getD i (0,zOv)).2.kind≤4:=by
 have hm:(actL l m).getD i (0,zOv)∈actL l m:=by simp [gE,hi]
 obtain ⟨j,hj,e,_⟩:=actN_mem l m l.length (Nat.le_refl _) _ hm
 rw [e]
 have h2:=(bif_f (by rwa [Valid] at h)).2
 have:=runL_true (fun j=>?_) _ _ h2 j (Nat.zero_le _) om
 ·rw [Valid_b1] at this
  by_cases h1:(l.getD j zOv).kind=1
  ·simp only;omega
  ·by_cases h2:(l.getD j zOv).kind=2
   ·simp only;omega
   ·by_cases h3:(l.getD j zOv).kind=3
    ·simp only;omega
    ·by_cases h4:(l.getD j zOv).kind=4
     ·simp only;omega
     ·have e1:((l.getD j zOv).kind==1)=false:=by rw [beq_eq_false_iff_ne];exact h1
      have e2:((l.getD j zOv).kind==2)=false:=by rw [beq_eq_false_iff_ne];exact h2
      have e3:((l.getD j zOv).kind==3)=false:=by rw [beq_eq_false_iff_ne];exact h3
      have e4:((l.getD j zOv).kind==4)=false:=by rw [beq_eq_false_iff_ne];exact h4
      simp only [e1,e2,e3,e4,cond_false] at this
      first | cases this | (simp at this)
 ·rw [Valid_b1]
  repeat' (first | exact .inl rfl | exact .inr rfl | (rw [cond_eq_ite];split))
def Judge_b1_r(l:List Ov)(telescope:Int)(programme:Int)(tile:Int)(m:Int)(lx1:Unit):Int:=
 0
def Judge_b1(l:List Ov)(telescope:Int)(programme:Int)(tile:Int)(m:Int)(li1:Nat)(lx1:Unit):Fl Unit Int:=
 (bif (((((actL l m).getD li1 (0,zOv)).2).kind)==1) then (bif (kind2 (((actL l m).getD li1 (0,zOv)).2) (⟨telescope,programme,tile⟩:OvC)) then .rt 18 else .nx ()) else (bif (((((actL l m).getD li1 (0,zOv)).2).kind)==2) then (bif (kind4 (((actL l m).getD li1 (0,zOv)).2) (⟨telescope,programme,tile⟩:OvC)) then .rt 22 else .nx ()) else (bif (((((actL l m).getD li1 (0,zOv)).2).kind)==3) then (bif (kind6 (((actL l m).getD li1 (0,zOv)).2) (⟨telescope,programme,tile⟩:OvC)) then .rt 22 else .nx ()) else (bif (((((actL l m).getD li1 (0,zOv)).2).kind)==4) then (bif (kind7 (((actL l m).getD li1 (0,zOv)).2) (⟨telescope,programme,tile⟩:OvC)) then .rt 0 else .nx ()) else .rt 0))))
def Judge_b1_s(l:List Ov)(telescope:Int)(programme:Int)(tile:Int)(m:Int)(lx1:Unit):S:=mkS 48 [(10,.b (.v (.c (.ptr 10 0)))),(11,.b (.v (.c (.ptr 11 0))))] [(10,.cells [cI 0]),(11,.cells [cI telescope,cI programme,cI tile])]
def Judge(l:List Ov)(telescope:Int)(programme:Int)(tile:Int)(m:Int):Int:=
 (bif (((!(Valid l))||(!(moment m)))||(!(cvalid (⟨telescope,programme,tile⟩:OvC)))) then 1 else (runL (Judge_b1 l telescope programme tile m) ((actL l m).length) 0 ()).fin (Judge_b1_r l telescope programme tile m))
theorem Judge_c(l:List Ov)(telescope:Int)(programme:Int)(tile:Int)(m:Int):FCall Tryz.prog 25 [.c (.lst 7 l.length (elM encOv zOv l)),vI telescope,vI programme,vI tile,vI m] (.v (vI (Judge l telescope programme tile m))):=by
 have ee0:=Judge.eq_1 l telescope programme tile m
 refine ul Tryz.func25 rfl (fun B hB=>?_)
 refine u0 (u0 ?_)
 have cc1:=Valid_c l
 have cc2:=moment_c m
 have cc3:=cvalid_c (⟨telescope,programme,tile⟩:OvC)
 refine uq [(1,hcon cc1),(5,hcon cc2),(10,hcon cc3)] [pu cc1,pu cc2,pu cc3] ?_
 refine ud ee0 (fun hh1 ee1=>?_) (fun hh1 ee2=>?_)
 ·refine u0 ?_
  exact run_ret (ut _ (by rw [ee1]<;>rfl))
 ·have hV:Valid l=true:=by revert hh1;cases Valid l<;>simp
  have cc4:=active_c l m
  refine us 2 cc4 ?_
  refine rBlock ?_
  refine rRangeX hB kr (actL l m) (0,zOv) (fun a:Int×Ov=>[vI a.1,.agg (encOv a.2)]) (active_it l m) (fun _=>rfl) (Judge_b1_s l telescope programme tile m) (Judge_b1 l telescope programme tile m) (fun _ _=>True) () (wkTo [10,11] [] kr) trivial (fun i x y hi hJ hb=>trivial) (fun _=>by kernel_rfl) (fun li1 lx1 hi1 hJ1 hr1 B1=>?_) (fun lx1 hJ1 hr1=>?_)
  ·have ee4:=Judge_b1.eq_1 l telescope programme tile m li1 lx1
   refine u0 ?_
   refine run_nil ⟨rfl,kr,fun B2=>?_⟩
   refine rBlock ?_
   rcases Bool.eq_false_or_eq_true (((((actL l m).getD li1 (0,zOv)).2).kind)==1) with hs1 | hs1
   ·have ee5:=ee4.trans (bT hs1)
    have cc6:=kinds_c
    refine uq [(0,hcon cc6),(3,.look true [.clo 172 [],.clo 173 [],cI 18])] [pu cc6,uk 3 false [.int .i64],@pu (Look [([cI 1],[.clo 172 [],.clo 173 [],cI 18]),([cI 2],[.clo 174 [],.clo 175 [],cI 22]),([cI 3],[.clo 176 [],.clo 177 [],cI 22]),([cI 4],[.clo 172 [],.clo 178 [],cI 0])] [cI ((((actL l m).getD li1 (0,zOv)).2).kind)] [.lit .nilFunc,.lit .nilFunc,cI 0] true [.clo 172 [],.clo 173 [],cI 18]) ((lookI0 hs1))] ?_
    have cc7:=kind2_c (((actL l m).getD li1 (0,zOv)).2) (⟨telescope,programme,tile⟩:OvC)
    refine us 4 cc7 ?_
    refine ud ee5 (fun hh2 ee7=>?_) (fun hh2 ee9=>?_)
    ·refine u0 ?_
     have ee8:=fin_rt ee2 hr1 hi1 ee7
     exact run_ret (blockR_ret (rng_ret kr ee7 (blockR_ret (ut _ (by rw [ee8]<;>rfl)))))
    ·refine run_nil (blockR_normal ?_)
     exact run_nil (⟨kr,(),wkTo [10,11] [13,14] kr,ee9⟩)
   ·have ee6:=ee4.trans (bF hs1)
    rcases Bool.eq_false_or_eq_true (((((actL l m).getD li1 (0,zOv)).2).kind)==2) with hs2 | hs2
    ·have ee10:=ee6.trans (bT hs2)
     have cc8:=kinds_c
     refine uq [(0,hcon cc8),(3,.look true [.clo 174 [],.clo 175 [],cI 22])] [pu cc8,uk 3 false [.int .i64],@pu (Look [([cI 1],[.clo 172 [],.clo 173 [],cI 18]),([cI 2],[.clo 174 [],.clo 175 [],cI 22]),([cI 3],[.clo 176 [],.clo 177 [],cI 22]),([cI 4],[.clo 172 [],.clo 178 [],cI 0])] [cI ((((actL l m).getD li1 (0,zOv)).2).kind)] [.lit .nilFunc,.lit .nilFunc,cI 0] true [.clo 174 [],.clo 175 [],cI 22]) ((lookIS hs1 (lookI0 hs2)))] ?_
     have cc9:=kind4_c (((actL l m).getD li1 (0,zOv)).2) (⟨telescope,programme,tile⟩:OvC)
     refine us 4 cc9 ?_
     refine ud ee10 (fun hh3 ee12=>?_) (fun hh3 ee14=>?_)
     ·refine u0 ?_
      have ee13:=fin_rt ee2 hr1 hi1 ee12
      exact run_ret (blockR_ret (rng_ret kr ee12 (blockR_ret (ut _ (by rw [ee13]<;>rfl)))))
     ·refine run_nil (blockR_normal ?_)
      exact run_nil (⟨kr,(),wkTo [10,11] [13,14] kr,ee14⟩)
    ·have ee11:=ee6.trans (bF hs2)
     rcases Bool.eq_false_or_eq_true (((((actL l m).getD li1 (0,zOv)).2).kind)==3) with hs3 | hs3
     ·have ee15:=ee11.trans (bT hs3)
      have cc10:=kinds_c
      refine uq [(0,hcon cc10),(3,.look true [.clo 176 [],.clo 177 [],cI 22])] [pu cc10,uk 3 false [.int .i64],@pu (Look [([cI 1],[.clo 172 [],.clo 173 [],cI 18]),([cI 2],[.clo 174 [],.clo 175 [],cI 22]),([cI 3],[.clo 176 [],.clo 177 [],cI 22]),([cI 4],[.clo 172 [],.clo 178 [],cI 0])] [cI ((((actL l m).getD li1 (0,zOv)).2).kind)] [.lit .nilFunc,.lit .nilFunc,cI 0] true [.clo 176 [],.clo 177 [],cI 22]) ((lookIS hs1 (lookIS hs2 (lookI0 hs3))))] ?_
      have cc11:=kind6_c (((actL l m).getD li1 (0,zOv)).2) (⟨telescope,programme,tile⟩:OvC)
      refine us 4 cc11 ?_
      refine ud ee15 (fun hh4 ee17=>?_) (fun hh4 ee19=>?_)
      ·refine u0 ?_
       have ee18:=fin_rt ee2 hr1 hi1 ee17
       exact run_ret (blockR_ret (rng_ret kr ee17 (blockR_ret (ut _ (by rw [ee18]<;>rfl)))))
      ·refine run_nil (blockR_normal ?_)
       exact run_nil (⟨kr,(),wkTo [10,11] [13,14] kr,ee19⟩)
     ·have ee16:=ee11.trans (bF hs3)
      rcases Bool.eq_false_or_eq_true (((((actL l m).getD li1 (0,zOv)).2).kind)==4) with hs4 | hs4
      ·have ee20:=ee16.trans (bT hs4)
       have cc12:=kinds_c
       refine uq [(0,hcon cc12),(3,.look true [.clo 172 [],.clo 178 [],cI 0])] [pu cc12,uk 3 false [.int .i64],@pu (Look [([cI 1],[.clo 172 [],.clo 173 [],cI 18]),([cI 2],[.clo 174 [],.clo 175 [],cI 22]),([cI 3],[.clo 176 [],.clo 177 [],cI 22]),([cI 4],[.clo 172 [],.clo 178 [],cI 0])] [cI ((((actL l m).getD li1 (0,zOv)).2).kind)] [.lit .nilFunc,.lit .nilFunc,cI 0] true [.clo 172 [],.clo 178 [],cI 0]) ((lookIS hs1 (lookIS hs2 (lookIS hs3 (lookI0 hs4)))))] ?_
       have cc13:=kind7_c (((actL l m).getD li1 (0,zOv)).2) (⟨telescope,programme,tile⟩:OvC)
       refine us 4 cc13 ?_
       refine ud ee20 (fun hh5 ee22=>?_) (fun hh5 ee24=>?_)
       ·refine u0 ?_
        have ee23:=fin_rt ee2 hr1 hi1 ee22
        exact run_ret (blockR_ret (rng_ret kr ee22 (blockR_ret (ut _ (by rw [ee23]<;>rfl)))))
       ·refine run_nil (blockR_normal ?_)
        exact run_nil (⟨kr,(),wkTo [10,11] [13,14] kr,ee24⟩)
      ·have ee21:=ee16.trans (bF hs4)
       exact False.elim (by have hk:=act_kind hV hi1;simp only [beq_eq_false_iff_ne,ne_eq] at *;omega)
  ·have ee3:=(fin_nx ee2 hr1).trans (Judge_b1_r.eq_1 l telescope programme tile m lx1)
   refine run_nil (blockR_normal ?_)
   refine u0 ?_
   exact run_ret (ut _ (by rw [ee3]<;>rfl))
def Stuck_b1_r(l:List Ov)(telescope:Int)(m:Int)(lx1:Unit):Bool×Int:=
 (false,0)
def Stuck_b1(l:List Ov)(telescope:Int)(m:Int)(li1:Nat)(lx1:Unit):Fl Unit (Bool×Int):=
 (bif ((((((actL l m).getD li1 (0,zOv)).2).kind)==4)&&(((((actL l m).getD li1 (0,zOv)).2).tel)==telescope)) then .rt (true,0) else .nx ())
def Stuck_b1_s(l:List Ov)(telescope:Int)(m:Int)(lx1:Unit):S:=mkS 37 [(4,.b (.v (.c (.kptr [cI telescope] 0)))),(6,.b (.v (.c (.ptr 6 0)))),(7,.b (.v (.c (.ptr 7 0))))] [(6,.cells [.bool false]),(7,.cells [cI 0])]
def Stuck(l:List Ov)(telescope:Int)(m:Int):Bool×Int:=
 (bif (((!(Valid l))||(!(moment m)))||(!(within telescope 6))) then (false,1) else (runL (Stuck_b1 l telescope m) ((actL l m).length) 0 ()).fin (Stuck_b1_r l telescope m))
theorem Stuck_c(l:List Ov)(telescope:Int)(m:Int):FCall Tryz.prog 23 [.c (.lst 7 l.length (elM encOv zOv l)),vI telescope,vI m] (.tup [vB ((Stuck l telescope m).1),vI ((Stuck l telescope m).2)]):=by
 have ee0:=Stuck.eq_1 l telescope m
 refine ul Tryz.func23 rfl (fun B hB=>?_)
 refine uq [(0,.imm)] [] ?_
 have cc1:=Valid_c l
 have cc2:=moment_c m
 have cc3:=within_c telescope 6
 refine uq [(1,hcon cc1),(5,hcon cc2),(10,hcon cc3)] [pu cc1,pu cc2,pu cc3] ?_
 refine ud ee0 (fun hh1 ee1=>?_) (fun hh1 ee2=>?_)
 ·refine u0 ?_
  exact run_ret (ut _ (by rw [ee1]<;>rfl))
 ·have cc4:=active_c l m
  refine us 2 cc4 ?_
  refine rBlock ?_
  refine rRangeX hB kr (actL l m) (0,zOv) (fun a:Int×Ov=>[vI a.1,.agg (encOv a.2)]) (active_it l m) (fun _=>rfl) (Stuck_b1_s l telescope m) (Stuck_b1 l telescope m) (fun _ _=>True) () (wkTo [4,6,7] [] kr) trivial (fun i x y hi hJ hb=>trivial) (fun _=>by kernel_rfl) (fun li1 lx1 hi1 hJ1 hr1 B1=>?_) (fun lx1 hJ1 hr1=>?_)
  ·have ee4:=Stuck_b1.eq_1 l telescope m li1 lx1
   refine u0 ?_
   refine run_nil ⟨rfl,kr,fun B2=>?_⟩
   refine rBlock ?_
   refine u0 ?_
   refine ud ee4 (fun hh2 ee5=>?_) (fun hh2 ee7=>?_)
   ·refine u0 ?_
    have ee6:=fin_rt ee2 hr1 hi1 ee5
    exact run_ret (blockR_ret (rng_ret kr ee5 (blockR_ret (ut _ (by rw [ee6]<;>rfl)))))
   ·refine run_nil (blockR_normal ?_)
    exact run_nil (⟨kr,(),wkTo [4,6,7] [9] kr,ee7⟩)
  ·have ee3:=(fin_nx ee2 hr1).trans (Stuck_b1_r.eq_1 l telescope m lx1)
   refine run_nil (blockR_normal ?_)
   refine u0 ?_
   exact run_ret (ut _ (by rw [ee3]<;>rfl))
end Go.Proofs.YtidbmbpeblmliaaGreatDoor.Ovr
namespace Go.Proofs.YtidbmbpeblmliaaGreatDoor.Wea
open Go.Sym Go.Proofs.YtidbmbpeblmliaaGreatDoor
def within(n:Int)(low:Int)(high:Int):Bool:=
 ((decide (low≤n))&&(decide (n≤high)))
theorem within_c(n:Int)(low:Int)(high:Int):FCall Tryz.prog 76 [vI n,vI low,vI high] (.v (vB (within n low high))):=by
 have ee0:=within.eq_1 n low high
 refine ul Tryz.func76 rfl (fun B hB=>?_)
 refine u0 (u0 ?_)
 exact run_ret (ut _ (by rw [ee0]<;>rfl))
def moment(m:Int):Bool:=
 (within m 0 38399)
theorem moment_c(m:Int):FCall Tryz.prog 75 [vI m] (.v (vB (moment m))):=by
 have ee0:=moment.eq_1 m
 refine ul Tryz.func75 rfl (fun B hB=>?_)
 refine u0 ?_
 have cc1:=within_c m 0 38399
 refine us 1 cc1 ?_
 exact run_ret (ut _ (by rw [ee0]<;>rfl))
def kind2(s:Spl):Bool:=
 ((within s.quarter 0 3)&&(within s.num 0 1000))
theorem kind2_c(s:Spl):FCall Tryz.prog 306 [.agg (encSpl s)] (.v (vB (kind2 s))):=by
 have ee0:=kind2.eq_1 s
 refine ul Tryz.func306 rfl (fun B hB=>?_)
 refine uq [(0,.imm)] [] ?_
 have cc1:=within_c s.quarter 0 3
 have cc2:=within_c s.num 0 1000
 refine uq [(2,hcon cc1),(6,hcon cc2)] [pu cc1,pu cc2] ?_
 exact run_ret (ut _ (by rw [ee0]<;>rfl))
def kind4(s:Spl):Bool:=
 ((s.quarter==0)&&(within s.num 1 100))
theorem kind4_c(s:Spl):FCall Tryz.prog 308 [.agg (encSpl s)] (.v (vB (kind4 s))):=by
 have ee0:=kind4.eq_1 s
 refine ul Tryz.func308 rfl (fun B hB=>?_)
 refine uq [(0,.imm)] [] ?_
 have cc1:=within_c s.num 1 100
 refine us 6 cc1 ?_
 exact run_ret (ut _ (by rw [ee0]<;>rfl))
def kind6(s:Spl):Bool:=
 ((s.quarter==0)&&(s.num==0))
theorem kind6_c(s:Spl):FCall Tryz.prog 310 [.agg (encSpl s)] (.v (vB (kind6 s))):=by
 have ee0:=kind6.eq_1 s
 refine ul Tryz.func310 rfl (fun B hB=>?_)
 refine uq [(0,.imm)] [] ?_
 refine u0 ?_
 exact run_ret (ut _ (by rw [ee0]<;>rfl))
theorem kinds_c:FCall Tryz.prog 246 [] (.v (.c (.kmap false true [([cI 1],[.str (⟨#[99,108,111,117,100]⟩:BA),.clo 305 [],.clo 306 []]),([cI 2],[.str (⟨#[115,101,101,105,110,103]⟩:BA),.clo 307 [],.clo 308 []]),([cI 3],[.str (⟨#[99,108,111,115,101,100]⟩:BA),.clo 309 [],.clo 310 []])]))):=by
 refine ul Tryz.func246 rfl (fun B hB=>?_)
 refine u0 ?_
 refine uq [] [@pu (true=true) (rfl),@pu (true=true) (rfl),@pu (true=true) (rfl)] ?_
 refine frzMap hB 0 1 false true [([cI 1],[.str (⟨#[99,108,111,117,100]⟩:BA),.clo 305 [],.clo 306 []]),([cI 2],[.str (⟨#[115,101,101,105,110,103]⟩:BA),.clo 307 [],.clo 308 []]),([cI 3],[.str (⟨#[99,108,111,115,101,100]⟩:BA),.clo 309 [],.clo 310 []])] [] [] kr kr kr ?_ nofun
 exact run_ret (ut (.v (.c (.kmap false true [([cI 1],[.str (⟨#[99,108,111,117,100]⟩:BA),.clo 305 [],.clo 306 []]),([cI 2],[.str (⟨#[115,101,101,105,110,103]⟩:BA),.clo 307 [],.clo 308 []]),([cI 3],[.str (⟨#[99,108,111,115,101,100]⟩:BA),.clo 309 [],.clo 310 []])]))) rfl)
def formed(s:Spl):Bool:=
 (bif (s.kind==1) then ((((moment s.frm)&&(moment s.til))&&(decide (s.frm≤s.til)))&&(kind2 s)) else (bif (s.kind==2) then ((((moment s.frm)&&(moment s.til))&&(decide (s.frm≤s.til)))&&(kind4 s)) else (bif (s.kind==3) then ((((moment s.frm)&&(moment s.til))&&(decide (s.frm≤s.til)))&&(kind6 s)) else false)))
theorem formed_c(s:Spl):FCall Tryz.prog 169 [.agg (encSpl s)] (.v (vB (formed s))):=by
 have ee0:=formed.eq_1 s
 refine ul Tryz.func169 rfl (fun B hB=>?_)
 refine uq [(0,.imm)] [] ?_
 rcases Bool.eq_false_or_eq_true (s.kind==1) with hs1 | hs1
 ·have ee1:=ee0.trans (bT hs1)
  have cc2:=kinds_c
  refine uq [(0,hcon cc2),(3,.look true [.str (⟨#[99,108,111,117,100]⟩:BA),.clo 305 [],.clo 306 []])] [pu cc2,uk 3 false [.int .i64],@pu (Look [([cI 1],[.str (⟨#[99,108,111,117,100]⟩:BA),.clo 305 [],.clo 306 []]),([cI 2],[.str (⟨#[115,101,101,105,110,103]⟩:BA),.clo 307 [],.clo 308 []]),([cI 3],[.str (⟨#[99,108,111,115,101,100]⟩:BA),.clo 309 [],.clo 310 []])] [cI s.kind] [.str ByteArray.empty,.lit .nilFunc,.lit .nilFunc] true [.str (⟨#[99,108,111,117,100]⟩:BA),.clo 305 [],.clo 306 []]) ((lookI0 hs1))] ?_
  have cc3:=moment_c s.frm
  have cc4:=moment_c s.til
  have cc5:=kind2_c s
  refine uq [(4,hcon cc3),(9,hcon cc4),(22,hcon cc5)] [pu cc3,pu cc4,pu cc5] ?_
  exact run_ret (ut _ (by rw [ee1]<;>rfl))
 ·have ee2:=ee0.trans (bF hs1)
  rcases Bool.eq_false_or_eq_true (s.kind==2) with hs2 | hs2
  ·have ee3:=ee2.trans (bT hs2)
   have cc6:=kinds_c
   refine uq [(0,hcon cc6),(3,.look true [.str (⟨#[115,101,101,105,110,103]⟩:BA),.clo 307 [],.clo 308 []])] [pu cc6,uk 3 false [.int .i64],@pu (Look [([cI 1],[.str (⟨#[99,108,111,117,100]⟩:BA),.clo 305 [],.clo 306 []]),([cI 2],[.str (⟨#[115,101,101,105,110,103]⟩:BA),.clo 307 [],.clo 308 []]),([cI 3],[.str (⟨#[99,108,111,115,101,100]⟩:BA),.clo 309 [],.clo 310 []])] [cI s.kind] [.str ByteArray.empty,.lit .nilFunc,.lit .nilFunc] true [.str (⟨#[115,101,101,105,110,103]⟩:BA),.clo 307 [],.clo 308 []]) ((lookIS hs1 (lookI0 hs2)))] ?_
   have cc7:=moment_c s.frm
   have cc8:=moment_c s.til
   have cc9:=kind4_c s
   refine uq [(4,hcon cc7),(9,hcon cc8),(22,hcon cc9)] [pu cc7,pu cc8,pu cc9] ?_
   exact run_ret (ut _ (by rw [ee3]<;>rfl))
  ·have ee4:=ee2.trans (bF hs2)
   rcases Bool.eq_false_or_eq_true (s.kind==3) with hs3 | hs3
   ·have ee5:=ee4.trans (bT hs3)
    have cc10:=kinds_c
    refine uq [(0,hcon cc10),(3,.look true [.str (⟨#[99,108,111,115,101,100]⟩:BA),.clo 309 [],.clo 310 []])] [pu cc10,uk 3 false [.int .i64],@pu (Look [([cI 1],[.str (⟨#[99,108,111,117,100]⟩:BA),.clo 305 [],.clo 306 []]),([cI 2],[.str (⟨#[115,101,101,105,110,103]⟩:BA),.clo 307 [],.clo 308 []]),([cI 3],[.str (⟨#[99,108,111,115,101,100]⟩:BA),.clo 309 [],.clo 310 []])] [cI s.kind] [.str ByteArray.empty,.lit .nilFunc,.lit .nilFunc] true [.str (⟨#[99,108,111,115,101,100]⟩:BA),.clo 309 [],.clo 310 []]) ((lookIS hs1 (lookIS hs2 (lookI0 hs3))))] ?_
    have cc11:=moment_c s.frm
    have cc12:=moment_c s.til
    have cc13:=kind6_c s
    refine uq [(4,hcon cc11),(9,hcon cc12),(22,hcon cc13)] [pu cc11,pu cc12,pu cc13] ?_
    exact run_ret (ut _ (by rw [ee5]<;>rfl))
   ·have ee6:=ee4.trans (bF hs3)
    have cc14:=kinds_c
    refine uq [(0,hcon cc14),(3,.look false [.str ByteArray.empty,.lit .nilFunc,.lit .nilFunc])] [pu cc14,uk 3 false [.int .i64],@pu (Look [([cI 1],[.str (⟨#[99,108,111,117,100]⟩:BA),.clo 305 [],.clo 306 []]),([cI 2],[.str (⟨#[115,101,101,105,110,103]⟩:BA),.clo 307 [],.clo 308 []]),([cI 3],[.str (⟨#[99,108,111,115,101,100]⟩:BA),.clo 309 [],.clo 310 []])] [cI s.kind] [.str ByteArray.empty,.lit .nilFunc,.lit .nilFunc] false [.str ByteArray.empty,.lit .nilFunc,.lit .nilFunc]) ((lookIS hs1 (lookIS hs2 (lookIS hs3 lookIN))))] ?_
    have cc15:=moment_c s.frm
    have cc16:=moment_c s.til
    refine uq [(4,hcon cc15),(9,hcon cc16),(22,.call (.v (vB false)))] [pu cc15,pu cc16,@pg false (False) (fun hg=>by simp at hg)] ?_
    exact run_ret (ut _ (by rw [ee6]<;>rfl))
def all_b1_r(l:List Spl)(lx1:Unit):Bool:=
 true
def all_b1(l:List Spl)(li1:Nat)(lx1:Unit):Fl Unit Bool:=
 (bif (!(formed (l.getD li1 zSpl))) then .rt false else .nx ())
def all_b1_s(l:List Spl)(li1:Nat)(qv:Int)(lx1:Unit):S:=mkS 18 [(8,.b (.v (.c (.lst 5 l.length (elM encSpl zSpl l))))),(9,.b (.v (vI (l.length:Int)))),(10,.b (.v (vI qv)))] []
def all(l:List Spl):Bool:=
 (bif (decide ((l.length:Int)>200)) then false else (runL (all_b1 l) l.length 0 ()).fin (all_b1_r l))
theorem all_c(l:List Spl):FCall Tryz.prog 74 [.c (.lst 5 l.length (elM encSpl zSpl l))] (.v (vB (all l))):=by
 have ee0:=all.eq_1 l
 refine ul Tryz.func74 rfl (fun B hB=>?_)
 refine u0 (u0 ?_)
 refine ud ee0 (fun hh1 ee1=>?_) (fun hh1 ee2=>?_)
 ·refine u0 ?_
  exact run_ret (ut _ (by rw [ee1]<;>rfl))
 ·refine u0 ?_
  refine uS 0 5 l.length (elM encSpl zSpl l) (fun hL1=>?_)
  refine uF l.length (all_b1_s l) (all_b1 l) (fun _ _=>True) () rfl [8,9,10] [] trivial (fun li1 lx1 hi1 hJ1 hr1=>?_) (fun lx1 hJ1 hr1=>?_)
  ·have ee4:=all_b1.eq_1 l li1 lx1
   refine uq [] [ub (li1:Int) l.length] ?_
   have cc1:=formed_c (l.getD li1 zSpl)
   refine us 1 cc1 ?_
   refine ud ee4 (fun hh2 ee5=>?_) (fun hh2 ee7=>?_)
   ·refine u0 ?_
    have ee6:=fin_rt ee2 hr1 hi1 ee5
    exact run_ret (ut _ (by rw [ee6]<;>rfl))
   ·exact run_nil (uN (all_b1_s l) () hi1 [8,9,10] [4] (trivial) ee7)
  ·have ee3:=(fin_nx ee2 hr1).trans (all_b1_r.eq_1 l lx1)
   refine u0 ?_
   exact run_ret (ut _ (by rw [ee3]<;>rfl))
theorem all_formed{l:List Spl}(h:all l=true){i:Nat}(hi:i<l.length):formed (l.getD i zSpl)=true:=by
 have h2:=(bif_f (by rwa [all] at h)).2
 have:=bool_nx (runL_true (fun j=>bool_or _) _ _ h2 i (Nat.zero_le _) om)
 simpa using this
theorem all_q{l:List Spl}(h:all l=true){i:Nat}(hi:i<l.length)(hk:((l.getD i zSpl).kind==1)=true):0≤(l.getD i zSpl).quarter∧(l.getD i zSpl).quarter<4:=by
 have:=all_formed h hi
 rw [formed,hk] at this
 simp only [cond_true,Bool.and_eq_true,kind2,within,decide_eq_true_eq] at this
 omega
def At_b2_r(l:List Spl)(m:Int)(lx1:Cnd)(lx2:Cnd):Cnd×Int:=
 (lx2,0)
def At_b2(l:List Spl)(m:Int)(lx1:Cnd)(li2:Nat)(lx2:Cnd):Fl Cnd (Cnd×Int):=
 (bif (!(within m ((l.getD li2 zSpl).frm) ((l.getD li2 zSpl).til))) then .nx lx2 else (bif (((l.getD li2 zSpl).kind)==1) then .nx (⟨(lx2.clear.set (((l.getD li2 zSpl).quarter).toNat) ((l.getD li2 zSpl).num)),lx2.seeing,lx2.opn⟩:Cnd) else (bif (((l.getD li2 zSpl).kind)==2) then .nx (⟨lx2.clear,(l.getD li2 zSpl).num,lx2.opn⟩:Cnd) else (bif (((l.getD li2 zSpl).kind)==3) then .nx (⟨lx2.clear,lx2.seeing,false⟩:Cnd) else .nx lx2))))
def At_b2_s(l:List Spl)(m:Int)(lx1:Cnd)(li2:Nat)(qv:Int)(lx2:Cnd):S:=mkS 60 [(1,.b (.v (vI m))),(4,.b (.v (.c (.ptr 4 0)))),(6,.b (.v (.c (.ptr 6 0)))),(27,.b (.v (.c (.lst 5 l.length (elM encSpl zSpl l))))),(28,.b (.v (vI (l.length:Int)))),(29,.b (.v (vI qv)))] [(4,.cells [cI 0,cI 0,cI 0,cI 0,cI 0,.bool false]),(6,.cells (encCnd lx2))]
def At_b1_r(l:List Spl)(m:Int)(lx1:Cnd):Cnd×Int:=
 (runL (At_b2 l m lx1) l.length 0 lx1).fin (At_b2_r l m lx1)
def At_b1(l:List Spl)(m:Int)(li1:Nat)(lx1:Cnd):Fl Cnd (Cnd×Int):=
 .nx (⟨(lx1.clear.set li1 1000),lx1.seeing,lx1.opn⟩:Cnd)
def At_b1_s(l:List Spl)(m:Int)(li1:Nat)(qv:Int)(lx1:Cnd):S:=mkS 60 [(0,.b (.v (.c (.lst 5 l.length (elM encSpl zSpl l))))),(1,.b (.v (vI m))),(4,.b (.v (.c (.ptr 4 0)))),(6,.b (.v (.c (.ptr 6 0)))),(20,.b (.v (vI qv)))] [(4,.cells [cI 0,cI 0,cI 0,cI 0,cI 0,.bool false]),(6,.cells (encCnd lx1))]
def At(l:List Spl)(m:Int):Cnd×Int:=
 (bif ((!(all l))||(!(moment m))) then ((⟨(⟨0,0,0,0⟩:Px),0,false⟩:Cnd),1) else (runL (At_b1 l m) 4 0 (⟨(⟨0,0,0,0⟩:Px),10,true⟩:Cnd)).fin (At_b1_r l m))
theorem At_c(l:List Spl)(m:Int):FCall Tryz.prog 22 [.c (.lst 5 l.length (elM encSpl zSpl l)),vI m] (.tup [.agg (encCnd ((At l m).1)),vI ((At l m).2)]):=by
 have ee0:=At.eq_1 l m
 refine ul Tryz.func22 rfl (fun B hB=>?_)
 refine u0 ?_
 have cc1:=all_c l
 have cc2:=moment_c m
 refine uq [(1,hcon cc1),(5,hcon cc2)] [pu cc1,pu cc2] ?_
 refine ud ee0 (fun hh1 ee1=>?_) (fun hh1 ee2=>?_)
 ·refine u0 ?_
  exact run_ret (ut _ (by rw [ee1]<;>rfl))
 ·refine u0 (u0 ?_)
  refine uF 4 (At_b1_s l m) (At_b1 l m) (fun _ _=>True) (⟨(⟨0,0,0,0⟩:Px),10,true⟩:Cnd) rfl [0,1,4,6,20] [] trivial (fun li1 lx1 hi1 hJ1 hr1=>?_) (fun lx1 hJ1 hr1=>?_)
  ·have ee14:=At_b1.eq_1 l m li1 lx1
   refine u0 ?_
   refine uq [(3,.frz 0 (fun _=>(encCnd (⟨(lx1.clear.set li1 1000),lx1.seeing,lx1.opn⟩:Cnd))))] [ub (li1:Int) 4,@pu ((0+li1*1)+[cI 1000].length≤(encCnd lx1).length∧splice (encCnd lx1) (0+li1*1) [cI 1000]=(encCnd (⟨(lx1.clear.set li1 1000),lx1.seeing,lx1.opn⟩:Cnd))) (fin4 (fun j=>0+j*1+[cI 1000].length≤(encCnd lx1).length∧splice (encCnd lx1) (0+j*1) [cI 1000]=(encCnd (⟨(lx1.clear.set j 1000),lx1.seeing,lx1.opn⟩:Cnd))) ⟨Nat.le_of_ble_eq_true rfl,rfl⟩ ⟨Nat.le_of_ble_eq_true rfl,rfl⟩ ⟨Nat.le_of_ble_eq_true rfl,rfl⟩ ⟨Nat.le_of_ble_eq_true rfl,rfl⟩ _ vo)] ?_
   exact run_nil (uN (At_b1_s l m) (⟨(lx1.clear.set li1 1000),lx1.seeing,lx1.opn⟩:Cnd) hi1 [0,1,4,6,20] [] (trivial) ee14)
  ·have ee3:=(fin_nx ee2 hr1).trans (At_b1_r.eq_1 l m lx1)
   refine u0 ?_
   refine uS 0 5 l.length (elM encSpl zSpl l) (fun hL1=>?_)
   refine uF l.length (At_b2_s l m lx1) (At_b2 l m lx1) (fun _ _=>True) lx1 rfl [1,4,6,27,28,29] [] trivial (fun li2 lx2 hi2 hJ2 hr2=>?_) (fun lx2 hJ2 hr2=>?_)
   ·have ee5:=At_b2.eq_1 l m lx1 li2 lx2
    refine uq [] [ub (li2:Int) l.length] ?_
    have cc3:=within_c m ((l.getD li2 zSpl).frm) ((l.getD li2 zSpl).til)
    refine us 5 cc3 ?_
    refine ud ee5 (fun hh2 ee6=>?_) (fun hh2 ee7=>?_)
    ·exact run_exit (uN (At_b2_s l m lx1) lx2 hi2 [1,4,6,27,28,29] [9] (trivial) ee6)
    ·refine u0 ?_
     refine rBlock ?_
     refine u0 ?_
     refine ud ee7 (fun hh3 ee8=>?_) (fun hh3 ee9=>?_)
     ·have hq:=all_q (l:=l) (i:=li2) (by revert hh1;cases all l<;>simp) hi2 (by assumption)
      refine uq [(6,.frz 0 (fun _=>(encCnd (⟨(lx2.clear.set (((l.getD li2 zSpl).quarter).toNat) ((l.getD li2 zSpl).num)),lx2.seeing,lx2.opn⟩:Cnd))))] [ub (l.getD li2 zSpl).quarter 4,@pu ((0+(((l.getD li2 zSpl).quarter).toNat)*1)+[cI ((l.getD li2 zSpl).num)].length≤(encCnd lx2).length∧splice (encCnd lx2) (0+(((l.getD li2 zSpl).quarter).toNat)*1) [cI ((l.getD li2 zSpl).num)]=(encCnd (⟨(lx2.clear.set (((l.getD li2 zSpl).quarter).toNat) ((l.getD li2 zSpl).num)),lx2.seeing,lx2.opn⟩:Cnd))) (fin4 (fun j=>0+j*1+[cI ((l.getD li2 zSpl).num)].length≤(encCnd lx2).length∧splice (encCnd lx2) (0+j*1) [cI ((l.getD li2 zSpl).num)]=(encCnd (⟨(lx2.clear.set j ((l.getD li2 zSpl).num)),lx2.seeing,lx2.opn⟩:Cnd))) ⟨Nat.le_of_ble_eq_true rfl,rfl⟩ ⟨Nat.le_of_ble_eq_true rfl,rfl⟩ ⟨Nat.le_of_ble_eq_true rfl,rfl⟩ ⟨Nat.le_of_ble_eq_true rfl,rfl⟩ _ vo)] ?_
      refine run_nil (blockR_normal ?_)
      exact run_nil (uN (At_b2_s l m lx1) (⟨(lx2.clear.set (((l.getD li2 zSpl).quarter).toNat) ((l.getD li2 zSpl).num)),lx2.seeing,lx2.opn⟩:Cnd) hi2 [1,4,6,27,28,29] [9] (trivial) ee8)
     ·refine u0 ?_
      refine ud ee9 (fun hh4 ee10=>?_) (fun hh4 ee11=>?_)
      ·refine u0 ?_
       refine run_nil (blockR_normal ?_)
       exact run_nil (uN (At_b2_s l m lx1) (⟨lx2.clear,(l.getD li2 zSpl).num,lx2.opn⟩:Cnd) hi2 [1,4,6,27,28,29] [9] (trivial) ee10)
      ·refine u0 ?_
       refine ud ee11 (fun hh5 ee12=>?_) (fun hh5 ee13=>?_)
       ·refine u0 ?_
        refine run_nil (blockR_normal ?_)
        exact run_nil (uN (At_b2_s l m lx1) (⟨lx2.clear,lx2.seeing,false⟩:Cnd) hi2 [1,4,6,27,28,29] [9] (trivial) ee12)
       ·refine run_nil (blockR_normal ?_)
        exact run_nil (uN (At_b2_s l m lx1) lx2 hi2 [1,4,6,27,28,29] [9] (trivial) ee13)
   ·have ee4:=(fin_nx ee3 hr2).trans (At_b2_r.eq_1 l m lx1 lx2)
    refine u0 ?_
    exact run_ret (ut _ (by rw [ee4]<;>rfl))
end Go.Proofs.YtidbmbpeblmliaaGreatDoor.Wea
namespace Go.Proofs.YtidbmbpeblmliaaGreatDoor.Flt
open Go.Sym Go.Proofs.YtidbmbpeblmliaaGreatDoor
def ranges:(List Rng):=
 [(⟨(⟨#[118,97,108,117,101]⟩:BA),0,65535⟩:Rng),(⟨(⟨#[99,101,108,108]⟩:BA),0,3⟩:Rng),(⟨(⟨#[116,105,108,101]⟩:BA),0,511⟩:Rng),(⟨(⟨#[102,105,108,116,101,114]⟩:BA),0,7⟩:Rng)]
theorem ranges_c:FCall Tryz.prog 150 [] (.v (.c (.lst 3 ranges.length (elM encRng zRng ranges)))):=by
 have ee0:=ranges.eq_1
 refine ul Tryz.func150 rfl (fun B hB=>?_)
 refine u0 ?_
 refine uq [(4,.frz 4 (elM encRng zRng [(⟨(⟨#[118,97,108,117,101]⟩:BA),0,65535⟩:Rng),(⟨(⟨#[99,101,108,108]⟩:BA),0,3⟩:Rng),(⟨(⟨#[116,105,108,101]⟩:BA),0,511⟩:Rng),(⟨(⟨#[102,105,108,116,101,114]⟩:BA),0,7⟩:Rng)]))] [@pu (4=4∧∀ i,i<4→(elM encRng zRng [(⟨(⟨#[118,97,108,117,101]⟩:BA),0,65535⟩:Rng),(⟨(⟨#[99,101,108,108]⟩:BA),0,3⟩:Rng),(⟨(⟨#[116,105,108,101]⟩:BA),0,511⟩:Rng),(⟨(⟨#[102,105,108,116,101,114]⟩:BA),0,7⟩:Rng)]) i=[[.str (⟨#[118,97,108,117,101]⟩:BA),cI 0,cI 65535],[.str (⟨#[99,101,108,108]⟩:BA),cI 0,cI 3],[.str (⟨#[116,105,108,101]⟩:BA),cI 0,cI 511],[.str (⟨#[102,105,108,116,101,114]⟩:BA),cI 0,cI 7]].getD i []) (⟨rfl,fun i hi=>match i,hi with | 0,_=>rfl | 1,_=>rfl | 2,_=>rfl | 3,_=>rfl⟩)] ?_
 exact run_ret (ut _ (by rw [ee0]<;>rfl))
def in'(n:Int)(low:Int)(high:Int):Bool:=
 ((decide (n≥low))&&(decide (n≤high)))
theorem in'_c(n:Int)(low:Int)(high:Int):FCall Tryz.prog 151 [vI n,vI low,vI high] (.v (vB (in' n low high))):=by
 have ee0:=in'.eq_1 n low high
 refine ul Tryz.func151 rfl (fun B hB=>?_)
 refine u0 (u0 ?_)
 exact run_ret (ut _ (by rw [ee0]<;>rfl))
def Valid(s:Sub):Bool:=
 ((((((Bns.Bounds s.when ranges).2.2)==0)&&(in' s.prog 0 63))&&(in' s.tile (-1) 511))&&(in' s.filter (-1) 7))
theorem Valid_c(s:Sub):FCall Tryz.prog 55 [.agg (encSub s)] (.v (vB (Valid s))):=by
 have ee0:=Valid.eq_1 s
 refine ul Tryz.func55 rfl (fun B hB=>?_)
 refine uq [(0,.imm)] [] ?_
 have cc1:=ranges_c
 have cc2:=Bns.Bounds_c s.when ranges
 refine uq [(2,hcon cc1),(3,hcon cc2)] [pu cc1,pu cc2] ?_
 have cc3:=in'_c s.prog 0 63
 have cc4:=in'_c s.tile (-1) 511
 have cc5:=in'_c s.filter (-1) 7
 refine uq [(5,hcon cc3),(10,hcon cc4),(15,hcon cc5)] [pu cc3,pu cc4,pu cc5] ?_
 exact run_ret (ut _ (by rw [ee0]<;>rfl))
end Go.Proofs.YtidbmbpeblmliaaGreatDoor.Flt
namespace Go.Proofs.YtidbmbpeblmliaaGreatDoor.Slc
open Go.Sym Go.Proofs.YtidbmbpeblmliaaGreatDoor
abbrev lC(l:List Int):C:=.lst 1 l.length (elM Sym.encI 0 l)
def vlX(l:List Int):List (List CV):=l.map fun x=>[vI x]
theorem vlX_len(l:List Int):(vlX l).length=l.length:=by simp [vlX]
def vlS(l:List Int)(k:Nat)(x:Int×Nat):S:=
 mkI 16 [(0,.b (.v (.c (.yld 0)))),(1,.b (.v (.c (.kptr [lC l] 0)))),(5,.b (.v (.c (lC l)))),(6,.b (.v (vI l.length))),(7,.b (.v (vI x.1)))] [(0,.cnt x.2 (vlX l) k)]
theorem values_it(l:List Int)(hl:l.length≤1000000):FIter Tryz.prog 183 [.kptr [lC l] 0] (vlX l):=by
 refine fiter_of Tryz.func183 rfl kr rfl (fun k B hk hB=>?_)
 rw [vlX_len] at hk
 refine u0 ?_
 refine rBlock ?_
 refine rLoop (vlS l k) (fun x=>0≤x.1∧x.1≤l.length∧(x.2:Int)=x.1∧x.2≤k) (fun x=>(l.length - x.1).toNat) (0,0) (wkTo [0,1,5,6,7] [] kr) ⟨om,om,rfl,Nat.zero_le _⟩ ?_
 rintro ⟨i,j⟩ ⟨h0,h1,h2,h3⟩
 simp only at h0 h1 h2 h3
 refine u0 ?_
 refine uc (decide (i<(l.length:Int))) (fun hc=>?_) (fun hc=>?_)
 ·have hc:i<l.length:=of_decide_eq_true hc
  refine rBlock ?_
  refine uq [] [@pu (0≤i∧i<(l.length:Int)) ⟨h0,hc⟩] ?_
  have hask:j<(vlX l).length∧j≤k∧(vlX l).getD j []=[vI (l.getD i.toNat 0)]:=by
   have hj:j<l.length:=by omega
   refine ⟨by rw [vlX_len];omega,h3,?_⟩
   rw [show i.toNat=j by omega]
   simp [vlX,gE,hj]
  refine uq [] [pu hask] ?_
  refine uc (!decide (j<k)) (fun h=>?_) (fun h=>?_)
  ·simp only [Bool.not_eq_true',decide_eq_false_iff_not] at h
   refine run_ret (blockR_ret (loopR_ret (blockR_ret ⟨.inl rfl,?_⟩)))
   refine Eq.trans (b:=some (some (.cnt (j+1) (vlX l) k))) kr ?_
   rw [stopN_lt (show k<(vlX l).length by have:=hask.1;omega),show j=k by omega]
  ·refine run_nil (blockR_normal ?_)
   refine u0 ?_
   have e:IntKind.i64.wrap (i+1)=i+1:=w64 _ om om
   refine run_nil (loopR_next (IntKind.i64.wrap (i+1),j+1) (wkTo [0,1,5,6,7] [] kr) ?_ ?_)
   ·simp only [e]
    simp only [Bool.not_eq_false',decide_eq_true_iff] at h
    refine ⟨om,om,om,om⟩
   ·simp only [e];omega
 ·have hc:¬ i<l.length:=of_decide_eq_false hc
  refine run_exit (loopR_exit (blockR_exit ?_))
  refine run_nil ⟨.inr rfl,?_⟩
  refine Eq.trans (b:=some (some (.cnt j (vlX l) k))) kr ?_
  have e:j=(vlX l).length:=by rw [vlX_len];omega
  have e2:k=(vlX l).length:=by omega
  rw [e2,stopN_eq,e]
theorem vlX_get{l:List Int}{i:Nat}(h:i<(vlX l).length):(vlX l).getD i []=[vI (l.getD i 0)]:=by
 rw [vlX_len] at h
 simp [vlX,gE,h]
theorem rowI_succ{l:List Int}{i:Nat}(h:i<l.length):rowI (l.take (i+1))=rowI (l.take i)++[[cI (l.getD i 0)]]:=by
 rw [List.take_succ_eq_append_getElem h,rowI,rowI,List.map_append]
 simp [gE,h]
def coI(n:Nat)(css:List (List C)):S:=mkO 13 14 [(2,.b (.v (.c (.ptr 2 0))))] [(2,.pcells [.row 0 n]),(0,.row 3 1 css)]
def coP(n:Nat)(css:List (List C)):S:=mkO 13 14 [(2,.pin 2 (.v (.c (.ptr 2 0))))] [(2,.pcells [.row 0 n]),(0,.row 3 1 css)]
theorem appendSeq_o(l:List Int)(g:FuncId)(caps:List C)(hg:FIter Tryz.prog g caps (vlX l))(hl:l.length≤1000000):
  FOwn Tryz.prog 253 [0] [.c .nil,.c (.clo g caps)] [(0,.row 3 1 [])] (.v (.c (.row 0 l.length))) [(0,.row 3 1 (rowI l))]:=by
 refine fown_of 14 Tryz.func253 rfl kr ⟨kr,kr,kr,kr,kr,kr,kr⟩ (fun n o hh h=>?_) kr (fun B hB hBf=>?_)
 ·simp only [List.mem_singleton,Prod.mk.injEq] at h
  rw [h.2];rfl
 refine run_weaken (wkSlim [0,1] [0] kr) ?_ nofun
 refine u0 (u0 ?_)
 refine run_weaken (wk_nilCell 2 0 0 3 1 [.nil] kr kr kr om) ?_ nofun
 refine rBlock ?_
 refine rRange hB hBf kr hg (fun i hi=>by rw [vlX_get hi];rfl) (vlX l).length (Nat.le_refl _) (fun i=>coI i (rowI (l.take i))) (wkTo [2] [] kr) (fun i _=>by kernel_rfl) ?_ ?_
 ·intro i hi hik B1
  have hi':i<l.length:=by rwa [vlX_len] at hi
  rw [vlX_get hi]
  refine u0 ?_
  refine run_nil ⟨rfl,kr,fun B2=>?_⟩
  refine rBlock ?_
  refine uq [] [@pu (i=(rowI (l.take i)).length) (by rw [rowI_len,List.length_take];omega),uo ((i+1)*9≤140737488355328),@pu (1=[[cI (l.getD i 0)]].length) rfl] ?_
  refine run_nil (blockR_normal (run_nil ⟨hi,coP (i+1) (rowI (l.take i)++[[cI (l.getD i 0)]]),wkTo [2] [10] kr,kr,?_⟩))
  rw [← rowI_succ hi']
  exact Wk.refl _
 ·intro _
  refine run_nil (blockR_normal ?_)
  refine u0 ?_
  rw [vlX_len,List.take_of_length_le (Nat.le_refl _)]
  exact run_ret (ownEndsO 4 _ (.inl rfl) kr kr ⟨kr,.inl rfl,trivial⟩)
theorem collect_o(l:List Int)(g:FuncId)(caps:List C)(hg:FIter Tryz.prog g caps (vlX l))(hl:l.length≤1000000):
  FOwn Tryz.prog 181 [0] [.c (.clo g caps)] [(0,.row 3 1 [])] (.v (.c (.row 0 l.length))) [(0,.row 3 1 (rowI l))]:=by
 refine fown_of 8 Tryz.func181 rfl kr ⟨kr,kr,kr,kr,kr,kr,kr⟩ (fun n o hh h=>?_) kr (fun B hB hBf=>?_)
 ·simp only [List.mem_singleton,Prod.mk.injEq] at h
  rw [h.2];rfl
 refine u0 ?_
 have c0:=appendSeq_o l g caps hg hl
 refine uq [(1,.own [0] [0] (.v (.c (.row 0 l.length))) [(0,.row 3 1 (rowI l))])] [pu c0] ?_
 exact run_ret (ownEndsO 2 _ (.inl rfl) kr kr ⟨kr,.inl rfl,trivial⟩)
theorem sort_o(zs:List Int)(h:zs.length≤1000000):FOwn Tryz.prog 182 [] [.c (.row 0 zs.length)] [(0,.row 3 1 (rowI zs))] (.tup []) [(0,.row 3 1 (rowI (sortI zs)))]:=
 fown_sortI ⟨_,Tryz.func182,kr,kr⟩ om (fun blk off cap w h1 h2=>Tryz.slices_Sort_int blk off cap zs w h1 h2 om) (fun p cap w=>Tryz.slices_Sort_int_none p cap w)
theorem sorted_o(l:List Int)(g:FuncId)(caps:List C)(hg:FIter Tryz.prog g caps (vlX l))(hl:l.length≤1000000):
  FOwn Tryz.prog 98 [0] [.c (.clo g caps)] [(0,.row 3 1 [])] (.v (.c (.row 0 l.length))) [(0,.row 3 1 (rowI (sortI l)))]:=by
 refine fown_of 12 Tryz.func98 rfl kr ⟨kr,kr,kr,kr,kr,kr,kr⟩ (fun n o hh h=>?_) kr (fun B hB hBf=>?_)
 ·simp only [List.mem_singleton,Prod.mk.injEq] at h
  rw [h.2];rfl
 refine u0 ?_
 have c0:=collect_o l g caps hg hl
 have c1:=sort_o l hl
 refine uq [(1,.own [0] [0] (.v (.c (.row 0 l.length))) [(0,.row 3 1 (rowI l))])] [pu c0] ?_
 refine uq [(1,.own [0] [] (.tup []) [(0,.row 3 1 (rowI (sortI l)))])] [pu c1] ?_
 refine u0 ?_
 exact run_ret (ownEndsO 2 _ (.inl rfl) kr kr ⟨kr,.inl rfl,trivial⟩)
theorem compact_o(zs:List Int)(h:zs.length≤1000000):FOwn Tryz.prog 100 [0] [.c (.row 0 zs.length)] [(0,.row 3 1 (rowI (sortI zs)))] (.v (.c (.row 0 (srt zs).length))) [(0,.row 3 1 (rowI (srt zs)))]:=by
 have:=fown_compactI (P:=Tryz.prog) (f:=100) (r:=0) (e:=3) (zs:=sortI zs) ⟨_,Tryz.func100,kr,kr⟩ (by rw [sortI_len];omega)
  (fun blk off cap w h1 h2=>Tryz.slices_Compact_int blk off cap (sortI zs) w h1 (by rw [sortI_len];omega) h2) (fun p cap w=>Tryz.slices_Compact_int_empty p cap w) (Lib.compact_length_le _)
 rw [sortI_len] at this
 exact this
theorem sorted_eq:∀ {a b:List Int},a.Perm b→a.Pairwise (fun x y=>x≤y)→b.Pairwise (fun x y=>x≤y)→a=b
 | [],b,hp,_,_=>(List.Perm.nil_eq hp)
 | x :: a,b,hp,ha,hb=>by
  cases b with
  | nil=>exact absurd hp.length_eq (by simp)
  | cons y b =>
   have h1:y≤x:=by
    rcases List.mem_cons.1 (hp.mem_iff.1 List.mem_cons_self:x∈y :: b) with h | h
    ·rw [h];exact Int.le_refl _
    ·exact List.rel_of_pairwise_cons hb h
   have h2:x≤y:=by
    rcases List.mem_cons.1 (hp.mem_iff.2 List.mem_cons_self:y∈x :: a) with h | h
    ·rw [h];exact Int.le_refl _
    ·exact List.rel_of_pairwise_cons ha h
   obtain rfl:x=y:=by omega
   rw [sorted_eq hp.cons_inv (List.Pairwise.of_cons ha) (List.Pairwise.of_cons hb)]
def insK(x:Int):List Int→List Int
 | []=>[x]
 | y :: ys=>if x≤y then x :: y :: ys else y :: insK x ys
def sortK:List Int→List Int
 | []=>[]
 | x :: xs=>insK x (sortK xs)
theorem insK_perm(x:Int):∀ l:List Int,(insK x l).Perm (x :: l)
 | []=>List.Perm.refl _
 | y :: ys=>by
  unfold insK
  split
  ·exact List.Perm.refl _
  ·exact ((insK_perm x ys).cons y).trans (List.Perm.swap _ _ _)
theorem sortK_perm:∀ l:List Int,(sortK l).Perm l
 | []=>List.Perm.refl _
 | x :: xs=>(insK_perm x _).trans ((sortK_perm xs).cons x)
theorem insK_sorted(x:Int):∀ l:List Int,l.Pairwise (fun a b=>a≤b)→(insK x l).Pairwise (fun a b=>a≤b)
 | [],_=>List.pairwise_singleton _ _
 | y :: ys,h=>by
  unfold insK
  split
  ·rename_i hxy
   refine List.pairwise_cons.2 ⟨fun z hz=>?_,h⟩
   rcases List.mem_cons.1 hz with e | hz
   ·rw [e];exact hxy
   ·exact Int.le_trans hxy (List.rel_of_pairwise_cons h hz)
  ·rename_i hxy
   refine List.pairwise_cons.2 ⟨fun z hz=>?_,insK_sorted x ys (List.Pairwise.of_cons h)⟩
   rcases List.mem_cons.1 ((insK_perm x ys).mem_iff.1 hz) with e | hz
   ·rw [e];omega
   ·exact List.rel_of_pairwise_cons h hz
theorem sortK_sorted:∀ l:List Int,(sortK l).Pairwise (fun a b=>a≤b)
 | []=>List.Pairwise.nil
 | x :: xs=>insK_sorted x _ (sortK_sorted xs)
theorem sortI_sortK(l:List Int):sortI l=sortK l:=by
 refine sorted_eq ((List.mergeSort_perm l _).trans (sortK_perm l).symm) ?_ (sortK_sorted l)
 have:=List.pairwise_mergeSort (le:=fun x y:Int=>decide (x≤y)) (fun a b c h1 h2=>by simp only [decide_eq_true_eq] at *;omega) (fun a b=>by simp only [Bool.or_eq_true,decide_eq_true_eq];omega) l
 exact this.imp fun h=>by simpa using h
def srtK(l:List Int):List Int:=Lib.compact (sortK l)
theorem srtK_eq(l:List Int):srt l=srtK l:=by rw [srt,srtK,sortI_sortK]
theorem compact_k(zs:List Int)(h:zs.length≤1000000):FOwn Tryz.prog 100 [0] [.c (.row 0 zs.length)] [(0,.row 3 1 (rowI (sortI zs)))] (.v (.c (.row 0 (srtK zs).length))) [(0,.row 3 1 (rowI (srtK zs)))]:=by
 rw [← srtK_eq]
 exact compact_o zs h
theorem values_c(s:List Int):FCall Tryz.prog 99 [.c (.lst 1 s.length (elM Sym.encI 0 s))] (.v (.c (.clo 183 [.kptr [.lst 1 s.length (elM Sym.encI 0 s)] 0]))):=by
 refine ul Tryz.func99 rfl (fun B hB=>?_)
 refine uq [(0,.imm)] [] ?_
 refine u0 ?_
 exact run_ret (ut (.v (.c (.clo 183 [.kptr [.lst 1 s.length (elM Sym.encI 0 s)] 0]))) rfl)
end Go.Proofs.YtidbmbpeblmliaaGreatDoor.Slc
