/- Part of the proof of the statement that the claim's last text names: contracts of functions and laws of the symbolic layer. -/
import Derived.Test.YtidbmbpeblmliaaGreatDoorU14
import Derived.Test.YtidbmbpeblmliaaGreatDoorU27
import Derived.Test.YtidbmbpeblmliaaGreatDoorU31
import Derived.Test.YtidbmbpeblmliaaGreatDoorU13
set_option linter.unusedVariables false
set_option linter.unusedSimpArgs false
namespace Go.Proofs.YtidbmbpeblmliaaGreatDoor.LwC
open Go.Sym Go.Proofs.YtidbmbpeblmliaaGreatDoor
theorem clds_few{w:Wd}{c:Scr}{s:Sta}(h:(!(Lw.few w c s))=false):w.programmes.length≤4∧c.spells.length≤8:=by
 rw [Bool.not_eq_false',Lw.few,Bool.and_eq_true,Bool.and_eq_true,Lw.FewScript,Lw.FewWorld] at h
 have h1:=h.1.2
 obtain ⟨h3,_⟩:=bif_f h.1.1
 simp only [Bool.or_eq_false_iff,decide_eq_false_iff_not] at h3
 simp only [Bool.and_eq_true,decide_eq_true_eq] at h1
 omega
def Clds_b2_r(w:Wd)(c:Scr)(s:Sta)(t:Int)(lx1:Unit)(lx2:(List Spl)):Bool:=
 (((Hd.head&&(((Req.Requests w (⟨c.frm,c.til,lx2,c.overrides,c.defects,c.payments,c.foreign⟩:Scr) s t).2.2)==0))&&(Hd.SameRequests ((Req.Requests w c s t).1) ((Req.Requests w (⟨c.frm,c.til,lx2,c.overrides,c.defects,c.payments,c.foreign⟩:Scr) s t).1)))&&(Hd.SameExclusions ((Req.Requests w c s t).2.1) ((Req.Requests w (⟨c.frm,c.til,lx2,c.overrides,c.defects,c.payments,c.foreign⟩:Scr) s t).2.1)))
def Clds_b2(w:Wd)(c:Scr)(s:Sta)(t:Int)(lx1:Unit)(li2:Nat)(lx2:(List Spl)):Fl (List Spl) Bool:=
 (bif (((c.spells.getD li2 zSpl).kind)==3) then .nx (lx2++[(c.spells.getD li2 zSpl)]) else .nx lx2)
def Clds_b2_s(w:Wd)(c:Scr)(s:Sta)(t:Int)(lx1:Unit)(li2:Nat)(qv:Int)(lx2:(List Spl))(n18:Nat)(r18:List (List C)):S:=mkS 127 [(3,.b (.v (vI t))),(4,.b (.v (.c (.kptr (encWd w) 0)))),(5,.b (.v (.c (.kptr (encScr c) 0)))),(6,.b (.v (.c (.kptr (encSta s) 0)))),(9,.b (.v (vB Hd.head))),(14,.b (.v (.c (.lst 5 (((Req.Requests w c s t).1).length) (elM encRq zRq ((Req.Requests w c s t).1)))))),(15,.b (.v (.c (.lst 5 (((Req.Requests w c s t).2.1).length) (elM encExc zExc ((Req.Requests w c s t).2.1)))))),(17,.b (.v (.c (.ptr 17 0)))),(18,.b (.v (vI qv)))] [(17,.pcells [cI c.frm,cI c.til,.row 18 n18,.lst 7 c.overrides.length (elM encOv zOv c.overrides),.lst 5 c.defects.length (elM encDfc zDfc c.defects),.lst 4 c.payments.length (elM encPay zPay c.payments),.lst 6 c.foreign.length (elM encFrn zFrn c.foreign)]),(18,.row 98 5 r18)]
def Clds_b1_r(w:Wd)(c:Scr)(s:Sta)(t:Int)(lx1:Unit):Bool:=
 (bif (((Req.Requests w c s t).2.2) != 0) then Hd.head else (runL (Clds_b2 w c s t lx1) c.spells.length 0 ([]:List Spl)).fin (Clds_b2_r w c s t lx1))
def Clds_b3_r(w:Wd)(c:Scr)(s:Sta)(t:Int)(li1:Nat)(lx1:Unit)(lx3:Unit):Fl Unit Bool:=
 .nx ()
def Clds_b3(w:Wd)(c:Scr)(s:Sta)(t:Int)(li1:Nat)(lx1:Unit)(li3:Nat)(lx3:Unit):Fl Unit (Fl Unit Bool):=
 (bif (((((Nms.Names ((w.programmes.getD li1 zPrg).merit)).1).getD li3 ByteArray.empty).toList==(⟨#[99,108,101,97,114]⟩:BA).toList)||((((Nms.Names ((w.programmes.getD li1 zPrg).merit)).1).getD li3 ByteArray.empty).toList==(⟨#[115,101,101,105,110,103]⟩:BA).toList)) then .rt (.rt Hd.head) else .nx ())
def Clds_b3_s(w:Wd)(c:Scr)(s:Sta)(t:Int)(li1:Nat)(lx1:Unit)(li3:Nat)(qv:Int)(lx3:Unit):S:=mkS 127 [(3,.b (.v (vI t))),(4,.b (.v (.c (.kptr (encWd w) 0)))),(5,.b (.v (.c (.kptr (encScr c) 0)))),(6,.b (.v (.c (.kptr (encSta s) 0)))),(9,.b (.v (vB Hd.head))),(10,.b (.v (vI (li1:Int)))),(11,.b (.v (.c (.lst 1 (((Nms.Names ((w.programmes.getD li1 zPrg).merit)).1).length) (elM Sym.encS ByteArray.empty ((Nms.Names ((w.programmes.getD li1 zPrg).merit)).1)))))),(13,.b (.v (vI qv)))] []
def Clds_b1(w:Wd)(c:Scr)(s:Sta)(t:Int)(li1:Nat)(lx1:Unit):Fl Unit Bool:=
 (runL (Clds_b3 w c s t li1 lx1) (((Nms.Names ((w.programmes.getD li1 zPrg).merit)).1).length) 0 ()).fin (Clds_b3_r w c s t li1 lx1)
def Clds_b1_s(w:Wd)(c:Scr)(s:Sta)(t:Int)(li1:Nat)(qv:Int)(lx1:Unit):S:=mkS 127 [(3,.b (.v (vI t))),(4,.b (.v (.c (.kptr (encWd w) 0)))),(5,.b (.v (.c (.kptr (encScr c) 0)))),(6,.b (.v (.c (.kptr (encSta s) 0)))),(9,.b (.v (vB Hd.head))),(10,.b (.v (vI qv)))] []
def Clds(w:Wd)(c:Scr)(s:Sta)(t:Int):Bool:=
 (bif (!(Lw.few w c s)) then Hd.head else (runL (Clds_b1 w c s t) w.programmes.length 0 ()).fin (Clds_b1_r w c s t))
theorem Clds_c(w:Wd)(c:Scr)(s:Sta)(t:Int):FCall Tryz.prog 9 [.agg (encWd w),.agg (encScr c),.agg (encSta s),vI t] (.v (vB (Clds w c s t))):=by
 have ee0:=Clds.eq_1 w c s t
 refine ul Tryz.func9 rfl (fun B hB=>?_)
 refine uq [(0,.imm),(1,.imm),(2,.imm)] [] ?_
 have cc1:=Hd.head_c
 refine us 0 cc1 ?_
 have cc2:=Lw.few_c w c s
 refine us 3 cc2 ?_
 refine ud ee0 (fun hh1 ee1=>?_) (fun hh1 ee2=>?_)
 ·refine u0 ?_
  exact run_ret (ut _ (by rw [ee1]<;>rfl))
 ·have hof:=clds_few hh1
  refine u0 ?_
  refine uR 0 (.agg (encWd w)) (fun hR=>?_)
  have hL3:w.programmes.length≤9223372036854775807:=Real.len (hR 2 (Nat.le_of_ble_eq_true rfl))
  refine uF w.programmes.length (Clds_b1_s w c s t) (Clds_b1 w c s t) (fun _ _=>True) () rfl [3,4,5,6,9,10] [] trivial (fun li1 lx1 hi1 hJ1 hr1=>?_) (fun lx1 hJ1 hr1=>?_)
  ·have ee10:=Clds_b1.eq_1 w c s t li1 lx1
   have cc7:=Nms.Names_c ((w.programmes.getD li1 zPrg).merit)
   refine uq [(6,hcon cc7)] [ub (li1:Int) w.programmes.length,pu cc7] ?_
   refine u0 ?_
   refine uS 11 1 (((Nms.Names ((w.programmes.getD li1 zPrg).merit)).1).length) (elM Sym.encS ByteArray.empty ((Nms.Names ((w.programmes.getD li1 zPrg).merit)).1)) (fun hL2=>?_)
   refine uF (((Nms.Names ((w.programmes.getD li1 zPrg).merit)).1).length) (Clds_b3_s w c s t li1 lx1) (Clds_b3 w c s t li1 lx1) (fun _ _=>True) () rfl [3,4,5,6,9,10,11,13] [] trivial (fun li3 lx3 hi3 hJ3 hr3=>?_) (fun lx3 hJ3 hr3=>?_)
   ·have ee12:=Clds_b3.eq_1 w c s t li1 lx1 li3 lx3
    refine uq [] [ub (li3:Int) ((Nms.Names ((w.programmes.getD li1 zPrg).merit)).1).length,uh (!((((Nms.Names ((w.programmes.getD li1 zPrg).merit)).1).getD li3 ByteArray.empty).toList==(⟨#[99,108,101,97,114]⟩:BA).toList)) (li3:Int) ((Nms.Names ((w.programmes.getD li1 zPrg).merit)).1).length] ?_
    refine ud ee12 (fun hh4 ee13=>?_) (fun hh4 ee16=>?_)
    ·refine u0 ?_
     have ee14:=fin_rt ee10 hr3 hi3 ee13
     have ee15:=fin_rt ee2 hr1 hi1 ee14
     exact run_ret (ut _ (by rw [ee15]<;>rfl))
    ·exact run_nil (uN (Clds_b3_s w c s t li1 lx1) () hi3 [3,4,5,6,9,10,11,13] [] (trivial) ee16)
   ·have ee11:=(fin_nx ee10 hr3).trans (Clds_b3_r.eq_1 w c s t li1 lx1 lx3)
    exact run_nil (uN (Clds_b1_s w c s t) () hi1 [3,4,5,6,9,10] [] (trivial) ee11)
  ·have ee3:=(fin_nx ee2 hr1).trans (Clds_b1_r.eq_1 w c s t lx1)
   have cc3:=Req.Requests_c w c s t
   refine us 4 cc3 ?_
   refine u0 ?_
   refine ud ee3 (fun hh2 ee4=>?_) (fun hh2 ee5=>?_)
   ·refine u0 ?_
    exact run_ret (ut _ (by rw [ee4]<;>rfl))
   ·refine u0 (u0 ?_)
    refine run_weaken (wk_nilCell 17 2 18 98 5 [cI c.frm,cI c.til,.nil,.lst 7 c.overrides.length (elM encOv zOv c.overrides),.lst 5 c.defects.length (elM encDfc zDfc c.defects),.lst 4 c.payments.length (elM encPay zPay c.payments),.lst 6 c.foreign.length (elM encFrn zFrn c.foreign)] kr kr kr om) ?_ nofun
    refine u0 ?_
    refine uR 5 (.c (.kptr (encScr c) 0)) (fun hR=>?_)
    have hL1:c.spells.length≤9223372036854775807:=Real.len (Real.at hR 2 (Nat.le_of_ble_eq_true rfl))
    refine rForX c.spells.length (fun qi qv qz=>Clds_b2_s w c s t lx1 qi qv qz qz.length (qz.map encSpl)) (Clds_b2 w c s t lx1) (fun li2 lx2=>lx2.length≤li2) ([]:List Spl) rfl mix (rowW (fun qn qr=>Clds_b2_s w c s t lx1 0 0 ([]:List Spl) qn qr) 0 [] ([]:List Spl) (rfl) (rfl) (wkTo [3,4,5,6,9,14,15,17,18] [] kr)) (by simp) (fun qi qz=>⟨kr,kr⟩) (fun li2 lx2 hi2 hJ2 hr2=>?_) (fun lx2 hJ2 hr2=>?_)
    ·have ee7:=Clds_b2.eq_1 w c s t lx1 li2 lx2
     refine uq [] [ub (li2:Int) c.spells.length] ?_
     refine ud ee7 (fun hh3 ee8=>?_) (fun hh3 ee9=>?_)
     ·refine uq [(7,.frz 1 (elM encSpl zSpl [(c.spells.getD li2 zSpl)]))] [ub (li2:Int) c.spells.length,@pu (1=1∧∀ i,i<1→(elM encSpl zSpl [(c.spells.getD li2 zSpl)]) i=[(encSpl (c.spells.getD li2 zSpl))].getD i []) (⟨rfl,fun i hi=>match i,hi with | 0,_=>rfl⟩),@pu (lx2.length=(lx2.map encSpl).length) (rowN rfl rfl),uo ((lx2.length+1)*(40+1)≤140737488355328)] ?_
      exact run_nil (forX_nx (fun qi qv qz=>Clds_b2_s w c s t lx1 qi qv qz qz.length (qz.map encSpl)) (lx2++[(c.spells.getD li2 zSpl)]) hi2 om kr (rowW (fun qn qr=>Clds_b2_s w c s t lx1 (li2+1) (IntKind.i64.wrap ((li2:Int)+1)) (lx2++[(c.spells.getD li2 zSpl)]) qn qr) (lx2.length+1) ((lx2.map encSpl)++((List.range 1).map (elM encSpl zSpl [(c.spells.getD li2 zSpl)]))) (lx2++[(c.spells.getD li2 zSpl)]) (rowAn rfl [(c.spells.getD li2 zSpl)]) (rowA rfl [(c.spells.getD li2 zSpl)]) (wkTo [3,4,5,6,9,14,15,17,18] [] kr)) ((by first | omega | (simp;omega) | (simp only [List.length_append,List.length_cons,List.length_nil] at *;omega))) ee8)
     ·exact run_nil (forX_nx (fun qi qv qz=>Clds_b2_s w c s t lx1 qi qv qz qz.length (qz.map encSpl)) lx2 hi2 om kr (rowW (fun qn qr=>Clds_b2_s w c s t lx1 (li2+1) (IntKind.i64.wrap ((li2:Int)+1)) lx2 qn qr) lx2.length (lx2.map encSpl) lx2 (rfl) (rfl) (wkTo [3,4,5,6,9,14,15,17,18] [] kr)) ((by first | omega | (simp;omega) | (simp only [List.length_append,List.length_cons,List.length_nil] at *;omega))) ee9)
    ·have ee6:=(fin_nx ee5 hr2).trans (Clds_b2_r.eq_1 w c s t lx1 lx2)
     refine frzCell hB 17 2 18 lx2.length 98 5 [cI c.frm,cI c.til,.row 18 lx2.length,.lst 7 c.overrides.length (elM encOv zOv c.overrides),.lst 5 c.defects.length (elM encDfc zDfc c.defects),.lst 4 c.payments.length (elM encPay zPay c.payments),.lst 6 c.foreign.length (elM encFrn zFrn c.foreign)] (lx2.map encSpl) (elM encSpl zSpl lx2) [3,4,6,9,14,15,17] [] kr kr kr (len_row _ _) (elM_row _ _ _) kr ?_ nofun
     have cc4:=Req.Requests_c w (⟨c.frm,c.til,lx2,c.overrides,c.defects,c.payments,c.foreign⟩:Scr) s t
     refine us 4 cc4 ?_
     have cc5:=Hd.SameRequests_c ((Req.Requests w c s t).1) ((Req.Requests w (⟨c.frm,c.til,lx2,c.overrides,c.defects,c.payments,c.foreign⟩:Scr) s t).1)
     have cc6:=Hd.SameExclusions_c ((Req.Requests w c s t).2.1) ((Req.Requests w (⟨c.frm,c.til,lx2,c.overrides,c.defects,c.payments,c.foreign⟩:Scr) s t).2.1)
     refine uq [(8,hcon cc5),(13,hcon cc6)] [pu cc5,pu cc6] ?_
     exact run_ret (ut _ (by rw [ee6]<;>rfl))
end Go.Proofs.YtidbmbpeblmliaaGreatDoor.LwC
