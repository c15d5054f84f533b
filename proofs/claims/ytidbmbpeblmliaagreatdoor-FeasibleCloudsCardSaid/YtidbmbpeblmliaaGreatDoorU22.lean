/- Part of the proof of the statement that the claim's last text names: contracts of functions and laws of the symbolic layer. -/
import Derived.Test.YtidbmbpeblmliaaGreatDoorU14
import Derived.Test.YtidbmbpeblmliaaGreatDoorU15
import Derived.Test.YtidbmbpeblmliaaGreatDoorU16
set_option linter.unusedVariables false
set_option linter.unusedSimpArgs false
namespace Go.Proofs.YtidbmbpeblmliaaGreatDoor.Flw
open Go.Sym Go.Proofs.YtidbmbpeblmliaaGreatDoor
def identifier(s:BA):Bool:=
 ((((((LexS.lex s).2.1)==0)&&((((LexS.lex s).1).length:Int)==1))&&(((((LexS.lex s).1).getD 0 zTok).kind)==1))&&(((((LexS.lex s).1).getD 0 zTok).text).toList==s.toList))
theorem identifier_c(s:BA):FCall Tryz.prog 152 [.c (.str s)] (.v (vB (identifier s))):=by
 have ee0:=identifier.eq_1 s
 refine ul Tryz.func152 rfl (fun B hB=>?_)
 refine u0 ?_
 have cc1:=LexS.lex_c s
 refine us 1 cc1 ?_
 refine uq [] [uh ((((LexS.lex s).2.1)==0)&&((((LexS.lex s).1).length:Int)==1)) 0 ((LexS.lex s).1).length,uh (((((LexS.lex s).2.1)==0)&&((((LexS.lex s).1).length:Int)==1))&&(((((LexS.lex s).1).getD 0 zTok).kind)==1)) 0 ((LexS.lex s).1).length] ?_
 exact run_ret (ut _ (by rw [ee0]<;>rfl))
abbrev operatorsQ1:=mput Sym.eqI ([]:List (Int×Fop)) 1 (⟨(⟨#[105,110]⟩:BA),ByteArray.empty,0,false,false,3⟩:Fop)
abbrev operatorsQ2:=mput Sym.eqI operatorsQ1 2 (⟨ByteArray.empty,(⟨#[43]⟩:BA),2,false,false,0⟩:Fop)
abbrev operatorsQ3:=mput Sym.eqI operatorsQ2 3 (⟨ByteArray.empty,(⟨#[45]⟩:BA),2,false,false,0⟩:Fop)
abbrev operatorsQ4:=mput Sym.eqI operatorsQ3 4 (⟨ByteArray.empty,(⟨#[42]⟩:BA),2,false,false,0⟩:Fop)
abbrev operatorsQ5:=mput Sym.eqI operatorsQ4 5 (⟨(⟨#[115,99,97,108,101]⟩:BA),ByteArray.empty,1,false,false,1000000⟩:Fop)
abbrev operatorsQ6:=mput Sym.eqI operatorsQ5 6 (⟨(⟨#[109,97,120]⟩:BA),ByteArray.empty,2,false,false,0⟩:Fop)
abbrev operatorsQ7:=mput Sym.eqI operatorsQ6 7 (⟨(⟨#[97,116,108,101,97,115,116]⟩:BA),ByteArray.empty,1,false,true,1000000⟩:Fop)
abbrev operatorsQ8:=mput Sym.eqI operatorsQ7 8 (⟨(⟨#[97,110,100]⟩:BA),ByteArray.empty,2,true,true,0⟩:Fop)
abbrev operatorsQ9:=mput Sym.eqI operatorsQ8 9 (⟨(⟨#[111,114]⟩:BA),ByteArray.empty,2,true,true,0⟩:Fop)
abbrev operatorsQ10:=mput Sym.eqI operatorsQ9 10 (⟨(⟨#[110,111,116]⟩:BA),ByteArray.empty,1,true,true,0⟩:Fop)
def operators:(List (Int×Fop)):=
 operatorsQ10
abbrev operators_cQ1:=mput Sym.eqI ([]:List (Int×Fop)) 1 (⟨(⟨#[105,110]⟩:BA),ByteArray.empty,0,false,false,3⟩:Fop)
abbrev operators_cQ2:=mput Sym.eqI operators_cQ1 2 (⟨ByteArray.empty,(⟨#[43]⟩:BA),2,false,false,0⟩:Fop)
abbrev operators_cQ3:=mput Sym.eqI operators_cQ2 3 (⟨ByteArray.empty,(⟨#[45]⟩:BA),2,false,false,0⟩:Fop)
abbrev operators_cQ4:=mput Sym.eqI operators_cQ3 4 (⟨ByteArray.empty,(⟨#[42]⟩:BA),2,false,false,0⟩:Fop)
abbrev operators_cQ5:=mput Sym.eqI operators_cQ4 5 (⟨(⟨#[115,99,97,108,101]⟩:BA),ByteArray.empty,1,false,false,1000000⟩:Fop)
abbrev operators_cQ6:=mput Sym.eqI operators_cQ5 6 (⟨(⟨#[109,97,120]⟩:BA),ByteArray.empty,2,false,false,0⟩:Fop)
abbrev operators_cQ7:=mput Sym.eqI operators_cQ6 7 (⟨(⟨#[97,116,108,101,97,115,116]⟩:BA),ByteArray.empty,1,false,true,1000000⟩:Fop)
abbrev operators_cQ8:=mput Sym.eqI operators_cQ7 8 (⟨(⟨#[97,110,100]⟩:BA),ByteArray.empty,2,true,true,0⟩:Fop)
abbrev operators_cQ9:=mput Sym.eqI operators_cQ8 9 (⟨(⟨#[111,114]⟩:BA),ByteArray.empty,2,true,true,0⟩:Fop)
abbrev operators_cQ10:=mput Sym.eqI operators_cQ9 10 (⟨(⟨#[110,111,116]⟩:BA),ByteArray.empty,1,true,true,0⟩:Fop)
theorem operators_c:FCall Tryz.prog 153 [] (.v (.c (.kmap false true (Sym.encM Sym.encI encFop operators)))):=by
 have ee0:=operators.eq_1
 refine ul Tryz.func153 rfl (fun B hB=>?_)
 refine u0 ?_
 refine uq [(2,.put (Sym.encM Sym.encI encFop operators_cQ1)),(4,.put (Sym.encM Sym.encI encFop operators_cQ2)),(6,.put (Sym.encM Sym.encI encFop operators_cQ3)),(8,.put (Sym.encM Sym.encI encFop operators_cQ4)),(10,.put (Sym.encM Sym.encI encFop operators_cQ5)),(12,.put (Sym.encM Sym.encI encFop operators_cQ6)),(14,.put (Sym.encM Sym.encI encFop operators_cQ7)),(16,.put (Sym.encM Sym.encI encFop operators_cQ8)),(18,.put (Sym.encM Sym.encI encFop operators_cQ9)),(20,.put (Sym.encM Sym.encI encFop operators_cQ10))] [uk 3 false [.int .i64],@pu (Put (Sym.encM Sym.encI encFop ([]:List (Int×Fop))) (Sym.encI 1) (encFop (⟨(⟨#[105,110]⟩:BA),ByteArray.empty,0,false,false,3⟩:Fop)) (Sym.encM Sym.encI encFop operators_cQ1)) (put_of Sym.keyI _ _ _),uk 3 false [.int .i64],@pu (Put (Sym.encM Sym.encI encFop operators_cQ1) (Sym.encI 2) (encFop (⟨ByteArray.empty,(⟨#[43]⟩:BA),2,false,false,0⟩:Fop)) (Sym.encM Sym.encI encFop operators_cQ2)) (put_of Sym.keyI _ _ _),uk 3 false [.int .i64],@pu (Put (Sym.encM Sym.encI encFop operators_cQ2) (Sym.encI 3) (encFop (⟨ByteArray.empty,(⟨#[45]⟩:BA),2,false,false,0⟩:Fop)) (Sym.encM Sym.encI encFop operators_cQ3)) (put_of Sym.keyI _ _ _),uk 3 false [.int .i64],@pu (Put (Sym.encM Sym.encI encFop operators_cQ3) (Sym.encI 4) (encFop (⟨ByteArray.empty,(⟨#[42]⟩:BA),2,false,false,0⟩:Fop)) (Sym.encM Sym.encI encFop operators_cQ4)) (put_of Sym.keyI _ _ _),uk 3 false [.int .i64],@pu (Put (Sym.encM Sym.encI encFop operators_cQ4) (Sym.encI 5) (encFop (⟨(⟨#[115,99,97,108,101]⟩:BA),ByteArray.empty,1,false,false,1000000⟩:Fop)) (Sym.encM Sym.encI encFop operators_cQ5)) (put_of Sym.keyI _ _ _),uk 3 false [.int .i64],@pu (Put (Sym.encM Sym.encI encFop operators_cQ5) (Sym.encI 6) (encFop (⟨(⟨#[109,97,120]⟩:BA),ByteArray.empty,2,false,false,0⟩:Fop)) (Sym.encM Sym.encI encFop operators_cQ6)) (put_of Sym.keyI _ _ _),uk 3 false [.int .i64],@pu (Put (Sym.encM Sym.encI encFop operators_cQ6) (Sym.encI 7) (encFop (⟨(⟨#[97,116,108,101,97,115,116]⟩:BA),ByteArray.empty,1,false,true,1000000⟩:Fop)) (Sym.encM Sym.encI encFop operators_cQ7)) (put_of Sym.keyI _ _ _),uk 3 false [.int .i64],@pu (Put (Sym.encM Sym.encI encFop operators_cQ7) (Sym.encI 8) (encFop (⟨(⟨#[97,110,100]⟩:BA),ByteArray.empty,2,true,true,0⟩:Fop)) (Sym.encM Sym.encI encFop operators_cQ8)) (put_of Sym.keyI _ _ _),uk 3 false [.int .i64],@pu (Put (Sym.encM Sym.encI encFop operators_cQ8) (Sym.encI 9) (encFop (⟨(⟨#[111,114]⟩:BA),ByteArray.empty,2,true,true,0⟩:Fop)) (Sym.encM Sym.encI encFop operators_cQ9)) (put_of Sym.keyI _ _ _),uk 3 false [.int .i64],@pu (Put (Sym.encM Sym.encI encFop operators_cQ9) (Sym.encI 10) (encFop (⟨(⟨#[110,111,116]⟩:BA),ByteArray.empty,1,true,true,0⟩:Fop)) (Sym.encM Sym.encI encFop operators_cQ10)) (put_of Sym.keyI _ _ _)] ?_
 refine frzMap hB 0 1 false true (Sym.encM Sym.encI encFop operators_cQ10) [] [] kr kr kr ?_ nofun
 exact run_ret (ut _ (by rw [ee0]<;>rfl))
def Valid_b1_r(f:Flw)(lx1:(List Bool)):Bool:=
 (lx1.getD ((IntKind.i64.wrap ((lx1.length:Int) - 1)).toNat) false)
def Valid_b2_r(f:Flw)(li1:Nat)(lx1:(List Bool))(lx2:Unit):Fl (List Bool) Bool:=
 .nx (lx1++[(mgetD Sym.eqI zFop operators ((f.steps.getD li1 zFst).op)).makes])
def Valid_b2(f:Flw)(li1:Nat)(lx1:(List Bool))(li2:Nat)(lx2:Unit):Fl Unit (Fl (List Bool) Bool):=
 (bif (((decide ((li2:Int)≥((mgetD Sym.eqI zFop operators ((f.steps.getD li1 zFst).op)).operands)))&&(([(f.steps.getD li1 zFst).a,(f.steps.getD li1 zFst).b].getD li2 0) != 0))||((decide ((li2:Int)<((mgetD Sym.eqI zFop operators ((f.steps.getD li1 zFst).op)).operands)))&&(((decide (([(f.steps.getD li1 zFst).a,(f.steps.getD li1 zFst).b].getD li2 0)<0))||(decide (([(f.steps.getD li1 zFst).a,(f.steps.getD li1 zFst).b].getD li2 0)≥(lx1.length:Int))))||(!((lx1.getD (([(f.steps.getD li1 zFst).a,(f.steps.getD li1 zFst).b].getD li2 0).toNat) false)==((mgetD Sym.eqI zFop operators ((f.steps.getD li1 zFst).op)).takes)))))) then .rt (.rt false) else .nx ())
def Valid_b2_s(f:Flw)(li1:Nat)(lx1:(List Bool))(li2:Nat)(qv:Int)(lx2:Unit):S:=mkS 121 [(3,.b (.v (.c (.row 3 lx1.length)))),(6,.b (.v (.c (.ptr 6 0)))),(37,.b (.v (.c (.lst 4 f.steps.length (elM encFst zFst f.steps))))),(38,.b (.v (vI (f.steps.length:Int)))),(39,.b (.v (vI (li1:Int)))),(68,.b (.v (.c (.lst 1 2 (elM Sym.encI 0 [(f.steps.getD li1 zFst).a,(f.steps.getD li1 zFst).b]))))),(69,.b (.v (vI (2:Int)))),(70,.b (.v (vI qv)))] [(3,.row 4 1 (lx1.map Sym.encB)),(6,.cells (encFop (mgetD Sym.eqI zFop operators ((f.steps.getD li1 zFst).op))))]
def Valid_b1(f:Flw)(li1:Nat)(lx1:(List Bool)):Fl (List Bool) Bool:=
 (bif (((!(mgetB Sym.eqI operators ((f.steps.getD li1 zFst).op)))||(decide (((f.steps.getD li1 zFst).num)<0)))||(decide (((f.steps.getD li1 zFst).num)>((mgetD Sym.eqI zFop operators ((f.steps.getD li1 zFst).op)).most)))) then .rt false else (runL (Valid_b2 f li1 lx1) 2 0 ()).fin (Valid_b2_r f li1 lx1))
def Valid_b1_s(f:Flw)(li1:Nat)(qv:Int)(lx1:(List Bool))(n3:Nat)(r3:List (List C)):S:=mkS 121 [(3,.b (.v (.c (.row 3 n3)))),(37,.b (.v (.c (.lst 4 f.steps.length (elM encFst zFst f.steps))))),(38,.b (.v (vI (f.steps.length:Int)))),(39,.b (.v (vI qv)))] [(3,.row 4 1 r3)]
def Valid(f:Flw):Bool:=
 (bif (((((!(identifier f.name))||(decide (f.version<1)))||(decide (f.version>99)))||(decide ((f.steps.length:Int)<1)))||(decide ((f.steps.length:Int)>40))) then false else (runL (Valid_b1 f) f.steps.length 0 ([]:List Bool)).fin (Valid_b1_r f))
theorem Valid_c(f:Flw):FCall Tryz.prog 62 [.agg (encFlw f)] (.v (vB (Valid f))):=by
 have ee0:=Valid.eq_1 f
 refine ul Tryz.func62 rfl (fun B hB=>?_)
 refine uq [(0,.imm)] [] ?_
 have cc1:=identifier_c f.name
 refine us 2 cc1 ?_
 refine ud ee0 (fun hh1 ee1=>?_) (fun hh1 ee2=>?_)
 ·refine u0 ?_
  exact run_ret (ut _ (by rw [ee1]<;>rfl))
 ·refine u0 (u0 ?_)
  refine run_weaken (wk_nilRow 3 3 4 1 kr kr om) ?_ nofun
  refine uR 0 (.agg (encFlw f)) (fun hR=>?_)
  have hL1:f.steps.length≤9223372036854775807:=Real.len (hR 2 (Nat.le_of_ble_eq_true rfl))
  refine rForX f.steps.length (fun qi qv qz=>Valid_b1_s f qi qv qz qz.length (qz.map Sym.encB)) (Valid_b1 f) (fun li1 lx1=>lx1.length=li1) ([]:List Bool) rfl mix (rowW (fun qn qr=>Valid_b1_s f 0 0 ([]:List Bool) qn qr) 0 [] ([]:List Bool) (rfl) (rfl) (wkTo [3,37,38,39] [] kr)) (by simp) (fun qi qz=>⟨kr,kr⟩) (fun li1 lx1 hi1 hJ1 hr1=>?_) (fun lx1 hJ1 hr1=>?_)
  ·have ee4:=Valid_b1.eq_1 f li1 lx1
   refine uq [] [ub (li1:Int) f.steps.length] ?_
   have cc2:=operators_c
   refine uq [(0,hcon cc2),(3,.look (mgetB Sym.eqI operators ((f.steps.getD li1 zFst).op)) (encFop (mgetD Sym.eqI zFop operators ((f.steps.getD li1 zFst).op))))] [pu cc2,uk 3 false [.int .i64],@pu (Look (Sym.encM Sym.encI encFop operators) (Sym.encI ((f.steps.getD li1 zFst).op)) (encFop zFop) (mgetB Sym.eqI operators ((f.steps.getD li1 zFst).op)) (encFop (mgetD Sym.eqI zFop operators ((f.steps.getD li1 zFst).op)))) (look_of Sym.keyI _ _ _)] ?_
   refine u0 ?_
   refine ud ee4 (fun hh2 ee5=>?_) (fun hh2 ee7=>?_)
   ·refine u0 ?_
    have ee6:=fin_rt ee2 hr1 hi1 ee5
    exact run_ret (ut _ (by rw [ee6]<;>rfl))
   ·refine uq [(4,.frz 2 (elM Sym.encI 0 [(f.steps.getD li1 zFst).a,(f.steps.getD li1 zFst).b]))] [@pu (2=2∧∀ i,i<2→(elM Sym.encI 0 [(f.steps.getD li1 zFst).a,(f.steps.getD li1 zFst).b]) i=[[cI ((f.steps.getD li1 zFst).a)],[cI ((f.steps.getD li1 zFst).b)]].getD i []) (⟨rfl,fun i hi=>match i,hi with | 0,_=>rfl | 1,_=>rfl⟩)] ?_
    refine uF 2 (Valid_b2_s f li1 lx1) (Valid_b2 f li1 lx1) (fun _ _=>True) () rfl [3,6,37,38,39,68,69,70] [5] trivial (fun li2 lx2 hi2 hJ2 hr2=>?_) (fun lx2 hJ2 hr2=>?_)
    ·have ee9:=Valid_b2.eq_1 f li1 lx1 li2 lx2
     refine uq [] [ub (li2:Int) 2] ?_
     refine uq [(26,.frz 0 (fun _=>(Sym.encB (lx1.getD (([(f.steps.getD li1 zFst).a,(f.steps.getD li1 zFst).b].getD li2 0).toNat) false))))] [@pg (((!((decide ((li2:Int)≥((mgetD Sym.eqI zFop operators ((f.steps.getD li1 zFst).op)).operands)))&&(([(f.steps.getD li1 zFst).a,(f.steps.getD li1 zFst).b].getD li2 0) != 0)))&&(decide ((li2:Int)<((mgetD Sym.eqI zFop operators ((f.steps.getD li1 zFst).op)).operands))))&&(!(decide (([(f.steps.getD li1 zFst).a,(f.steps.getD li1 zFst).b].getD li2 0)<0)))) (lx1.length=(lx1.map Sym.encB).length) (fun hg=>rowN rfl rfl),@pg (((!((decide ((li2:Int)≥((mgetD Sym.eqI zFop operators ((f.steps.getD li1 zFst).op)).operands)))&&(([(f.steps.getD li1 zFst).a,(f.steps.getD li1 zFst).b].getD li2 0) != 0)))&&(decide ((li2:Int)<((mgetD Sym.eqI zFop operators ((f.steps.getD li1 zFst).op)).operands))))&&(!((decide (([(f.steps.getD li1 zFst).a,(f.steps.getD li1 zFst).b].getD li2 0)<0))||(decide (([(f.steps.getD li1 zFst).a,(f.steps.getD li1 zFst).b].getD li2 0)≥(lx1.length:Int)))))) ((0≤[(f.steps.getD li1 zFst).a,(f.steps.getD li1 zFst).b].getD li2 0∧[(f.steps.getD li1 zFst).a,(f.steps.getD li1 zFst).b].getD li2 0<(lx1.length:Int))∧lx1.length=(lx1.map Sym.encB).length) (fun hg=>⟨vo,rowN rfl rfl⟩),@pg (((!((decide ((li2:Int)≥((mgetD Sym.eqI zFop operators ((f.steps.getD li1 zFst).op)).operands)))&&(([(f.steps.getD li1 zFst).a,(f.steps.getD li1 zFst).b].getD li2 0) != 0)))&&(decide ((li2:Int)<((mgetD Sym.eqI zFop operators ((f.steps.getD li1 zFst).op)).operands))))&&(!((decide (([(f.steps.getD li1 zFst).a,(f.steps.getD li1 zFst).b].getD li2 0)<0))||(decide (([(f.steps.getD li1 zFst).a,(f.steps.getD li1 zFst).b].getD li2 0)≥(lx1.length:Int)))))) ((lx1.length=(lx1.map Sym.encB).length∧(([(f.steps.getD li1 zFst).a,(f.steps.getD li1 zFst).b].getD li2 0).toNat)<lx1.length)∧(lx1.map Sym.encB).getD (([(f.steps.getD li1 zFst).a,(f.steps.getD li1 zFst).b].getD li2 0).toNat) []=(Sym.encB (lx1.getD (([(f.steps.getD li1 zFst).a,(f.steps.getD li1 zFst).b].getD li2 0).toNat) false))) (fun hg=>rowGet rfl rfl vo)] ?_
     refine ud ee9 (fun hh3 ee10=>?_) (fun hh3 ee13=>?_)
     ·refine u0 ?_
      have ee11:=fin_rt ee7 hr2 hi2 ee10
      have ee12:=fin_rt ee2 hr1 hi1 ee11
      exact run_ret (ut _ (by rw [ee12]<;>rfl))
     ·exact run_nil (uN (Valid_b2_s f li1 lx1) () hi2 [3,6,37,38,39,68,69,70] [] (trivial) ee13)
    ·have ee8:=(fin_nx ee7 hr2).trans (Valid_b2_r.eq_1 f li1 lx1 lx2)
     refine uq [(3,.frz 1 (elM Sym.encB false [(mgetD Sym.eqI zFop operators ((f.steps.getD li1 zFst).op)).makes]))] [@pu (1=1∧∀ i,i<1→(elM Sym.encB false [(mgetD Sym.eqI zFop operators ((f.steps.getD li1 zFst).op)).makes]) i=[[.bool ((mgetD Sym.eqI zFop operators ((f.steps.getD li1 zFst).op)).makes)]].getD i []) (⟨rfl,fun i hi=>match i,hi with | 0,_=>rfl⟩),@pu (lx1.length=(lx1.map Sym.encB).length) (rowN rfl rfl),uo ((lx1.length+1)*(1+1)≤140737488355328)] ?_
     exact run_nil (forX_nx (fun qi qv qz=>Valid_b1_s f qi qv qz qz.length (qz.map Sym.encB)) (lx1++[(mgetD Sym.eqI zFop operators ((f.steps.getD li1 zFst).op)).makes]) hi1 om kr (rowW (fun qn qr=>Valid_b1_s f (li1+1) (IntKind.i64.wrap ((li1:Int)+1)) (lx1++[(mgetD Sym.eqI zFop operators ((f.steps.getD li1 zFst).op)).makes]) qn qr) (lx1.length+1) ((lx1.map Sym.encB)++((List.range 1).map (elM Sym.encB false [(mgetD Sym.eqI zFop operators ((f.steps.getD li1 zFst).op)).makes]))) (lx1++[(mgetD Sym.eqI zFop operators ((f.steps.getD li1 zFst).op)).makes]) (rowAn rfl [(mgetD Sym.eqI zFop operators ((f.steps.getD li1 zFst).op)).makes]) (rowA rfl [(mgetD Sym.eqI zFop operators ((f.steps.getD li1 zFst).op)).makes]) (wkTo [3,37,38,39] [6] kr)) ((by simp only [List.length_append,List.length_singleton];omega)) ee8)
  ·have ee3:=(fin_nx ee2 hr1).trans (Valid_b1_r.eq_1 f lx1)
   refine uq [(5,.frz 0 (fun _=>(Sym.encB (lx1.getD ((IntKind.i64.wrap ((lx1.length:Int) - 1)).toNat) false))))] [@pu (lx1.length=(lx1.map Sym.encB).length) (rowN rfl rfl),@pu ((0≤(IntKind.i64.wrap ((lx1.length:Int) - 1))∧(IntKind.i64.wrap ((lx1.length:Int) - 1))<(lx1.length:Int))∧lx1.length=(lx1.map Sym.encB).length) (⟨vo,rowN rfl rfl⟩),@pu ((lx1.length=(lx1.map Sym.encB).length∧((IntKind.i64.wrap ((lx1.length:Int) - 1)).toNat)<lx1.length)∧(lx1.map Sym.encB).getD ((IntKind.i64.wrap ((lx1.length:Int) - 1)).toNat) []=(Sym.encB (lx1.getD ((IntKind.i64.wrap ((lx1.length:Int) - 1)).toNat) false))) (rowGet rfl rfl vo)] ?_
   exact run_ret (ut _ (by rw [ee3]<;>rfl))
end Go.Proofs.YtidbmbpeblmliaaGreatDoor.Flw
namespace Go.Proofs.YtidbmbpeblmliaaGreatDoor.Mnt
open Go.Sym Go.Proofs.YtidbmbpeblmliaaGreatDoor
def is(at':Int):Bool:=
 ((decide (at'≥(-48)))&&(decide (at'≤48)))
theorem is_c(at':Int):FCall Tryz.prog 247 [vI at'] (.v (vB (is at'))):=by
 have ee0:=is.eq_1 at'
 refine ul Tryz.func247 rfl (fun B hB=>?_)
 refine u0 (u0 ?_)
 exact run_ret (ut _ (by rw [ee0]<;>rfl))
def column(n:Int):Bool:=
 ((decide (n≥0))&&(decide (n<32)))
theorem column_c(n:Int):FCall Tryz.prog 248 [vI n] (.v (vB (column n))):=by
 have ee0:=column.eq_1 n
 refine ul Tryz.func248 rfl (fun B hB=>?_)
 refine u0 (u0 ?_)
 exact run_ret (ut _ (by rw [ee0]<;>rfl))
def dist(a:Int)(b:Int):Int:=
 (imax (IntKind.i64.wrap (a - b)) (IntKind.i64.wrap (b - a)))
theorem dist_c(a:Int)(b:Int):FCall Tryz.prog 252 [vI a,vI b] (.v (vI (dist a b))):=by
 have ee0:=dist.eq_1 a b
 refine ul Tryz.func252 rfl (fun B hB=>?_)
 refine u0 (u0 ?_)
 exact run_ret (ut _ (by rw [ee0]<;>rfl))
theorem column_iff{c:Int}:column c=true↔0≤c∧c<32:=by simp [column]
def Reach_b1(c:Int)(lx1:Int×(List Int)):Fl (Int×(List Int)) ((List Int)×Int):=
 (bif (decide (lx1.1≤48)) then (bif (is lx1.1) then .nx ((IntKind.i64.wrap (lx1.1+32)),lx1.2++[lx1.1]) else .nx ((IntKind.i64.wrap (lx1.1+32)),lx1.2)) else .rt (lx1.2,0))
def Reach_b1_s(c:Int)(lx1:Int×(List Int))(n4:Nat)(r4:List (List C)):S:=mkS 22 [(4,.b (.v (.c (.row 4 n4)))),(5,.b (.v (vI lx1.1)))] [(4,.row 3 1 r4)]
def Reach(c:Int):(List Int)×Int:=
 (bif (!(column c)) then ([],1) else (runW (Reach_b1 c) (((81 - ((IntKind.i64.wrap (c - 64)),([]:List Int)).1).toNat)+1) ((IntKind.i64.wrap (c - 64)),([]:List Int))).fin (fun _=>([],0)))
theorem Reach_c(c:Int):FCall Tryz.prog 251 [vI c] (.tup [.c (.lst 1 (((Reach c).1).length) (elM Sym.encI 0 ((Reach c).1))),vI ((Reach c).2)]):=by
 have ee0:=Reach.eq_1 c
 refine ul Tryz.func251 rfl (fun B hB=>?_)
 refine u0 ?_
 have cc1:=column_c c
 refine us 1 cc1 ?_
 refine ud ee0 (fun hh1 ee1=>?_) (fun hh1 ee2=>?_)
 ·refine u0 ?_
  refine run_weaken (wk_nilLst 2 1 (elM Sym.encI 0 []) kr) ?_ nofun
  exact run_ret (ut _ (by rw [ee1]<;>rfl))
 ·have hcc:=column_iff.1 (by simpa using hh1)
  refine u0 (u0 ?_)
  refine run_weaken (wk_nilRow 4 4 3 1 kr kr om) ?_ nofun
  refine rWhile (((81 - ((IntKind.i64.wrap (c - 64)),([]:List Int)).1).toNat)+1) (fun qz=>Reach_b1_s c qz qz.2.length (qz.2.map Sym.encI)) (Reach_b1 c) (fun lx1=>-64≤lx1.1∧lx1.1≤80∧32*(lx1.2.length:Int)≤lx1.1+64) (fun lx1=>(81 - lx1.1).toNat) ((IntKind.i64.wrap (c - 64)),([]:List Int)) (rowW (fun qn qr=>Reach_b1_s c ((IntKind.i64.wrap (c - 64)),([]:List Int)) qn qr) 0 [] ([]:List Int) (rfl) (rfl) (wkTo [4,5] [] kr)) (by rw [w64 _ om om];simp;omega) (Nat.lt_succ_self _) (fun k1 lx1 hJ1 hr1=>?_)
  have ee3:=Reach_b1.eq_1 c lx1
  refine u0 ?_
  refine ud ee3 (fun hh2 ee4=>?_) (fun hh2 ee7=>?_)
  ·refine rBlock ?_
   have cc2:=is_c lx1.1
   refine us 1 cc2 ?_
   refine ud ee4 (fun hh3 ee5=>?_) (fun hh3 ee6=>?_)
   ·refine uq [(2,.frz 1 (elM Sym.encI 0 [lx1.1]))] [@pu (1=1∧∀ i,i<1→(elM Sym.encI 0 [lx1.1]) i=[[cI lx1.1]].getD i []) (⟨rfl,fun i hi=>match i,hi with | 0,_=>rfl⟩),@pu (lx1.2.length=(lx1.2.map Sym.encI).length) (rowN rfl rfl),uo ((lx1.2.length+1)*(8+1)≤140737488355328)] ?_
    refine run_nil (blockR_normal ?_)
    refine u0 ?_
    exact run_nil (⟨((IntKind.i64.wrap (lx1.1+32)),lx1.2++[lx1.1]),rowW (fun qn qr=>Reach_b1_s c ((IntKind.i64.wrap (lx1.1+32)),lx1.2++[lx1.1]) qn qr) (lx1.2.length+1) ((lx1.2.map Sym.encI)++((List.range 1).map (elM Sym.encI 0 [lx1.1]))) (lx1.2++[lx1.1]) (rowAn rfl [lx1.1]) (rowA rfl [lx1.1]) (wkTo [4,5] [] kr),(by simp only [q7,q8] at *;simp (disch:=omega) only [w64,List.length_append,List.length_singleton];omega),ee5,by first | omega | (simp (disch:=omega) only [w64];omega) | (simp only [q1,q2,q3,q4,q5,q6,q7,q8,q9,q10,q11,q12] at *;first | omega | (simp (disch:=omega) only [w64];omega))⟩)
   ·refine run_nil (blockR_normal ?_)
    refine u0 ?_
    exact run_nil (⟨((IntKind.i64.wrap (lx1.1+32)),lx1.2),rowW (fun qn qr=>Reach_b1_s c ((IntKind.i64.wrap (lx1.1+32)),lx1.2) qn qr) lx1.2.length (lx1.2.map Sym.encI) lx1.2 (rfl) (rfl) (wkTo [4,5] [] kr),(by simp only [q7,q8] at *;simp (disch:=omega) only [w64,List.length_append,List.length_singleton];omega),ee6,by first | omega | (simp (disch:=omega) only [w64];omega) | (simp only [q1,q2,q3,q4,q5,q6,q7,q8,q9,q10,q11,q12] at *;first | omega | (simp (disch:=omega) only [w64];omega))⟩)
  ·refine run_exit ?_
   have ee8:=finw_rt ee2 hr1 ee7
   refine u0 ?_
   refine frzRow hB 2 4 lx1.2.length 3 1 (lx1.2.map Sym.encI) (elM Sym.encI 0 lx1.2) [3] [] kr kr (len_row _ _) (elM_row _ _ _) kr ?_ nofun
   exact run_ret (ut _ (by rw [ee8]<;>rfl))
theorem col_cases{p:Int→Prop}(h:∀ n:Nat,n<32→p n){c:Int}(hc:column c=true):p c:=by
 have:=column_iff.1 hc
 have h2:=h c.toNat om
 rwa [show (c.toNat:Int)=c by omega] at h2
theorem reach_chk:((List.range 32).all fun n=>decide ((Reach (n:Int)).2=0)&&(decide (1≤(Reach (n:Int)).1.length)&&(Reach (n:Int)).1.all fun p=>decide (-48≤p)&&decide (p≤48)))=true:=by kernel_rfl
theorem Reach_no{c:Int}(h:column c=false):Reach c=([],1):=by rw [Reach,h];rfl
theorem Reach_bd(c:Int)(j:Nat)(hj:j<(Reach c).1.length): -48≤(Reach c).1.getD j 0∧(Reach c).1.getD j (0 :Int)≤48:=by
 cases h:column c with
 | false=>rw [Reach_no h] at hj;simp at hj
 | true =>
  revert j
  exact col_cases (p:=fun c=>∀ j,j<(Reach c).1.length→-48≤(Reach c).1.getD j 0∧(Reach c).1.getD j (0 :Int)≤48) (fun n hn j hj=>by
   have:=List.all_eq_true.1 reach_chk n (by simpa using hn)
   simp only [Bool.and_eq_true,decide_eq_true_eq] at this
   have h2:=List.all_eq_true.1 this.2.2 _ (List.getElem_mem hj)
   simp only [Bool.and_eq_true,decide_eq_true_eq] at h2
   simpa [gE,hj] using h2) h
def before_b1_r(c:Int)(on:FA)(lx1:FA):FA:=
 lx1
def before_b2_r(c:Int)(on:FA)(li1:Nat)(lx1:FA)(lx2:FA):Fl FA FA:=
 .nx lx2
def before_b2(c:Int)(on:FA)(li1:Nat)(lx1:FA)(li2:Nat)(lx2:FA):Fl FA (Fl FA FA):=
 .nx (lx2.set li1 (imin (lx2.at li1) (IntKind.i64.wrap ((dist (IntKind.i64.wrap ((li1:Int) - 48)) (((Reach c).1).getD li2 0))+(on.at ((IntKind.i64.wrap ((((Reach c).1).getD li2 0)+48)).toNat))))))
def before_b2_s(c:Int)(on:FA)(li1:Nat)(lx1:FA)(li2:Nat)(qv:Int)(lx2:FA):S:=mkS 46 [(1,.b (.v (.c (.kptr ((encFA 97) on) 0)))),(5,.b (.v (.c (.ptr 5 0)))),(6,.b (.v (.c (.lst 1 (((Reach c).1).length) (elM Sym.encI 0 ((Reach c).1)))))),(8,.b (.v (vI (li1:Int)))),(16,.b (.v (vI (li1:Int)))),(21,.b (.v (.c (.lst 1 (((Reach c).1).length) (elM Sym.encI 0 ((Reach c).1)))))),(22,.b (.v (vI (((Reach c).1).length:Int)))),(23,.b (.v (vI qv)))] [(5,.cells ((encFA 97) lx2))]
def before_b1(c:Int)(on:FA)(li1:Nat)(lx1:FA):Fl FA FA:=
 (runL (before_b2 c on li1 lx1) (((Reach c).1).length) 0 (lx1.set li1 1073741824)).fin (before_b2_r c on li1 lx1)
def before_b1_s(c:Int)(on:FA)(li1:Nat)(qv:Int)(lx1:FA):S:=mkS 46 [(1,.b (.v (.c (.kptr ((encFA 97) on) 0)))),(5,.b (.v (.c (.ptr 5 0)))),(6,.b (.v (.c (.lst 1 (((Reach c).1).length) (elM Sym.encI 0 ((Reach c).1)))))),(16,.b (.v (vI qv)))] [(5,.cells ((encFA 97) lx1))]
def before(c:Int)(on:FA):FA:=
 (runL (before_b1 c on) 97 0 zFA).fin (before_b1_r c on)
theorem before_c(c:Int)(on:FA):FCall Tryz.prog 249 [vI c,.c (.kptr ((encFA 97) on) 0)] (.v (.c (.kptr ((encFA 97) (before c on)) 0))):=by
 have ee0:=before.eq_1 c on
 refine ul Tryz.func249 rfl (fun B hB=>?_)
 refine u0 (u0 ?_)
 have cc1:=Reach_c c
 refine us 1 cc1 ?_
 refine u0 ?_
 refine uF 97 (before_b1_s c on) (before_b1 c on) (fun _ _=>True) zFA rfl [1,5,6,16] [] trivial (fun li1 lx1 hi1 hJ1 hr1=>?_) (fun lx1 hJ1 hr1=>?_)
 ·have ee2:=before_b1.eq_1 c on li1 lx1
  refine u0 ?_
  refine uq [(2,.frz 0 (fun _=>((encFA 97) (lx1.set li1 1073741824))))] [ub (li1:Int) 97,@pu ((0+li1*1)+[cI 1073741824].length≤((encFA 97) lx1).length∧splice ((encFA 97) lx1) (0+li1*1) [cI 1073741824]=((encFA 97) (lx1.set li1 1073741824))) (fa_set 97 lx1 _ _ vo)] ?_
  refine u0 ?_
  refine uS 6 1 (((Reach c).1).length) (elM Sym.encI 0 ((Reach c).1)) (fun hL1=>?_)
  refine uF (((Reach c).1).length) (before_b2_s c on li1 lx1) (before_b2 c on li1 lx1) (fun _ _=>True) (lx1.set li1 1073741824) rfl [1,5,6,8,16,21,22,23] [] trivial (fun li2 lx2 hi2 hJ2 hr2=>?_) (fun lx2 hJ2 hr2=>?_)
  ·have ee4:=before_b2.eq_1 c on li1 lx1 li2 lx2
   refine uq [] [ub (li2:Int) ((Reach c).1).length] ?_
   have hp:=Reach_bd c li2 hi2
   have cc2:=dist_c (IntKind.i64.wrap ((li1:Int) - 48)) (((Reach c).1).getD li2 0)
   refine uq [(3,.frz 0 (fun _=>[cI (lx2.at li1)])),(7,hcon cc2),(13,.frz 0 (fun _=>[cI (on.at ((IntKind.i64.wrap ((((Reach c).1).getD li2 0)+48)).toNat))])),(17,.frz 0 (fun _=>((encFA 97) (lx2.set li1 (imin (lx2.at li1) (IntKind.i64.wrap ((dist (IntKind.i64.wrap ((li1:Int) - 48)) (((Reach c).1).getD li2 0))+(on.at ((IntKind.i64.wrap ((((Reach c).1).getD li2 0)+48)).toNat)))))))))] [ub (li1:Int) 97,@pu ((0+li1*1)+1≤((encFA 97) lx2).length∧sub ((encFA 97) lx2) (0+li1*1) 1=[cI (lx2.at li1)]) (fa_at 97 lx2 _ vo),pu cc2,ub (IntKind.i64.wrap ((((Reach c).1).getD li2 0)+48)) 97,@pu ((0+((IntKind.i64.wrap ((((Reach c).1).getD li2 0)+48)).toNat)*1)+1≤((encFA 97) on).length∧sub ((encFA 97) on) (0+((IntKind.i64.wrap ((((Reach c).1).getD li2 0)+48)).toNat)*1) 1=[cI (on.at ((IntKind.i64.wrap ((((Reach c).1).getD li2 0)+48)).toNat))]) (fa_at 97 on _ vo),ub (li1:Int) 97,@pu ((0+li1*1)+[cI (imin (lx2.at li1) (IntKind.i64.wrap ((dist (IntKind.i64.wrap ((li1:Int) - 48)) (((Reach c).1).getD li2 0))+(on.at ((IntKind.i64.wrap ((((Reach c).1).getD li2 0)+48)).toNat)))))].length≤((encFA 97) lx2).length∧splice ((encFA 97) lx2) (0+li1*1) [cI (imin (lx2.at li1) (IntKind.i64.wrap ((dist (IntKind.i64.wrap ((li1:Int) - 48)) (((Reach c).1).getD li2 0))+(on.at ((IntKind.i64.wrap ((((Reach c).1).getD li2 0)+48)).toNat)))))]=((encFA 97) (lx2.set li1 (imin (lx2.at li1) (IntKind.i64.wrap ((dist (IntKind.i64.wrap ((li1:Int) - 48)) (((Reach c).1).getD li2 0))+(on.at ((IntKind.i64.wrap ((((Reach c).1).getD li2 0)+48)).toNat)))))))) (fa_set 97 lx2 _ _ vo)] ?_
   exact run_nil (uN (before_b2_s c on li1 lx1) (lx2.set li1 (imin (lx2.at li1) (IntKind.i64.wrap ((dist (IntKind.i64.wrap ((li1:Int) - 48)) (((Reach c).1).getD li2 0))+(on.at ((IntKind.i64.wrap ((((Reach c).1).getD li2 0)+48)).toNat)))))) hi2 [1,5,6,8,16,21,22,23] [] (trivial) ee4)
  ·have ee3:=(fin_nx ee2 hr2).trans (before_b2_r.eq_1 c on li1 lx1 lx2)
   exact run_nil (uN (before_b1_s c on) lx2 hi1 [1,5,6,16] [] (trivial) ee3)
 ·have ee1:=(fin_nx ee0 hr1).trans (before_b1_r.eq_1 c on lx1)
  refine u0 ?_
  refine frzBox hB 4 5 0 ((encFA 97) lx1) [] [] kr kr kr ?_ nofun
  exact run_ret (ut _ (by rw [ee1]<;>rfl))
end Go.Proofs.YtidbmbpeblmliaaGreatDoor.Mnt
namespace Go.Proofs.YtidbmbpeblmliaaGreatDoor.Pln
open Go.Sym Go.Proofs.YtidbmbpeblmliaaGreatDoor
theorem step_c(p x:Int):FOwn Tryz.prog 250 [119] [vI p,.c (.ptr 10 0),.c (.ptr 2 0)] [(10,.pcells [.row 119 0]),(2,.cells [cI x]),(119,.row 3 1 [])] (.tup []) [(10,.pcells [.row 119 1]),(2,.cells [cI p]),(119,.row 3 1 [[cI p]])]:=by
 refine fown_of 120 Tryz.func250 rfl kr ⟨kr,kr,kr,kr,kr,kr,kr⟩ (fun n o hh h=>by
  simp only [List.mem_cons,Prod.mk.injEq,List.not_mem_nil,or_false] at h
  rcases h with ⟨rfl,rfl⟩ | ⟨rfl,rfl⟩ | ⟨rfl,rfl⟩<;>first | rfl | exact absurd hh (by decide)) kr (fun B hB hBf=>?_)
 refine uq [] [@pu (0=([]:List (List C)).length) rfl,uo ((0+1)*(8+1)≤140737488355328),@pu (1=[[cI p]].length) rfl] ?_
 refine u0 ?_
 exact run_nil (ownEnds (.inr rfl) kr ⟨kr,.inr ⟨1,wit_box 1 0 0 kr kr kr⟩,kr,.inr ⟨2,wit_box 2 0 0 kr kr kr⟩,kr,.inl rfl,trivial⟩)
theorem is_bd{x:Int}(h:Mnt.is x=true): -48≤x∧x≤48:=by
 simp [Mnt.is] at h;omega
def plan1_b3_r(at_:Int)(c:Int)(lx3:Unit):(List Int)×Int×Int:=
 (([]:List Int),((Mnt.before c zFA).at ((IntKind.i64.wrap (at_+48)).toNat)),0)
def plan1_b3(at_:Int)(c:Int)(li3:Nat)(lx3:Unit):Fl Unit ((List Int)×Int×Int):=
 (bif ((IntKind.i64.wrap ((Mnt.dist at_ (((Mnt.Reach c).1).getD li3 0))+(zFA.at ((IntKind.i64.wrap ((((Mnt.Reach c).1).getD li3 0)+48)).toNat))))==((Mnt.before c zFA).at ((IntKind.i64.wrap (at_+48)).toNat))) then .rt ([((Mnt.Reach c).1).getD li3 0],((Mnt.before c zFA).at ((IntKind.i64.wrap (at_+48)).toNat)),0) else .nx ())
def plan1_b3_s(at_:Int)(c:Int)(li3:Nat)(qv:Int)(lx3:Unit):S:=mkS 120 [(2,.b (.v (.c (.ptr 2 0)))),(7,.b (.v (.c (.row 29 2)))),(9,.b (.v (vI ((Mnt.before c zFA).at ((IntKind.i64.wrap (at_+48)).toNat))))),(10,.b (.v (.c (.ptr 10 0)))),(11,.b (.v (.c (.oclo false 250 [(10,0),(2,0)])))),(12,.b (.v (vI 0))),(71,.b (.v (.c (.lst 1 1 (fun i=>sub [cI c] (0+i*1) 1))))),(72,.b (.v (vI 1))),(73,.b (.v (vI 0))),(83,.b (.v (.c (.lst 1 (((Mnt.Reach c).1).length) (elM Sym.encI 0 ((Mnt.Reach c).1)))))),(84,.b (.v (vI (((Mnt.Reach c).1).length:Int)))),(85,.b (.v (vI qv)))] [(2,.cells [cI at_]),(10,.pcells [.row 119 0]),(29,.row 312 1 ([[.kptr ((encFA 97) (Mnt.before c zFA)) 0],[.kptr ((encFA 97) zFA) 0]]:List (List C))),(119,.row 3 1 [])]
def plan1(at_:Int)(c:Int):(List Int)×Int×Int:=
 (bif ((!(Mnt.is at_))||false) then ([],0,1) else (bif (!(Mnt.column c)) then ([],0,1) else (runL (plan1_b3 at_ c) (((Mnt.Reach c).1).length) 0 ()).fin (plan1_b3_r at_ c)))
theorem plan1_c(at_:Int)(c:Int):FCall Tryz.prog 171 [vI at_,.c (.lst 1 1 (fun i=>sub [cI c] (0+i*1) 1))] (.tup [.c (.lst 1 (((plan1 at_ c).1).length) (elM Sym.encI 0 ((plan1 at_ c).1))),vI ((plan1 at_ c).2.1),vI ((plan1 at_ c).2.2)]):=by
 have ee0:=plan1.eq_1 at_ c
 refine ul Tryz.func171 rfl (fun B hB=>?_)
 refine u0 ?_
 refine rScope ?_
 have cc1:=Mnt.is_c at_
 refine us 1 cc1 ?_
 refine ud ee0 (fun hh1 ee1=>?_) (fun hh1 ee2=>?_)
 ·refine u0 ?_
  refine run_weaken (wk_nilLst 4 1 (elM Sym.encI 0 []) kr) ?_ nofun
  exact run_ret (ut _ (by rw [ee1]<;>rfl))
 ·refine uq [] [uo ((0 :Int)≤2∧(2 :Int)≤2∧2*((8:Int)+1)≤140737488355328)] ?_
  refine uq [(4,.imm)] [@pu (((0 :Int)≤1∧1<(2:Int))∧2=([[.lit (Value.pointer none)],[.lit (Value.pointer none)]]:List (List C)).length) (⟨om,rfl⟩),@pu (2=([[.lit (Value.pointer none)],[.lit (Value.pointer none)]]:List (List C)).length∧1<2) (⟨rfl,om⟩)] ?_
  refine u0 ?_
  refine rBlock ?_
  refine rUnroll 2 ?_
  refine unrollS ?_
  refine u0 ?_
  refine rCondT true kr rfl ?_
  refine rBlock ?_
  have cc2:=Mnt.column_c c
  refine uq [(4,hcon cc2)] [ub 0 1,pu cc2] ?_
  refine ud ee2 (fun hh2 ee3=>?_) (fun hh2 ee4=>?_)
  ·refine u0 ?_
   refine run_weaken (wk_nilLst 4 1 (elM Sym.encI 0 []) kr) ?_ nofun
   exact run_ret (blockR_ret (blockR_ret (ut _ (by rw [ee3]<;>rfl))))
  ·have cc3:=Mnt.before_c c zFA
   refine uq [(11,hcon cc3)] [ub 0 1,@pu (((0 :Int)≤1∧1<(2:Int))∧2=([[.lit (Value.pointer none)],[.kptr ((encFA 97) zFA) 0]]:List (List C)).length) (⟨om,rfl⟩),@pu (2=([[.lit (Value.pointer none)],[.kptr ((encFA 97) zFA) 0]]:List (List C)).length∧1<2) (⟨rfl,om⟩),pu cc3,@pu (((0 :Int)≤0∧0<(2:Int))∧2=([[.lit (Value.pointer none)],[.kptr ((encFA 97) zFA) 0]]:List (List C)).length) (⟨om,rfl⟩),@pu (2=([[.lit (Value.pointer none)],[.kptr ((encFA 97) zFA) 0]]:List (List C)).length∧0<2) (⟨rfl,om⟩)] ?_
   refine run_nil (blockR_normal ?_)
   refine u0 ?_
   refine run_nil ?_
   refine unrollS ?_
   refine rTold (mkS 120 [(1,.b (.v (.c (.lst 1 1 (fun i=>sub [cI c] (0+i*1) 1))))),(2,.b (.v (.c (.ptr 2 0)))),(7,.b (.v (.c (.row 29 2)))),(8,.b (.v (vI (-1))))] [(2,.cells [cI at_]),(29,.row 312 1 ([[.kptr ((encFA 97) (Mnt.before c zFA)) 0],[.kptr ((encFA 97) zFA) 0]]:List (List C)))]) [1,2,7,8] [] kr ?_ nofun
   refine u0 ?_
   refine rCondF false kr rfl ?_
   refine run_exit (blockR_exit ?_)
   have hat : -48≤at_∧at_≤48:=is_bd (by simpa using hh1)
   have hw48:IntKind.i64.wrap (at_+48)=at_+48:=w64 _ om om
   refine uq [(7,.frz 0 (fun _=>[cI ((Mnt.before c zFA).at ((IntKind.i64.wrap (at_+48)).toNat))]))] [@pu (((0 :Int)≤0∧0<(2:Int))∧2=([[.kptr ((encFA 97) (Mnt.before c zFA)) 0],[.kptr ((encFA 97) zFA) 0]]:List (List C)).length) (⟨om,rfl⟩),@pu (2=([[.kptr ((encFA 97) (Mnt.before c zFA)) 0],[.kptr ((encFA 97) zFA) 0]]:List (List C)).length∧0<2) (⟨rfl,om⟩),ub (IntKind.i64.wrap (at_+48)) 97,@pu ((0+((IntKind.i64.wrap (at_+48)).toNat)*1)+1≤((encFA 97) (Mnt.before c zFA)).length∧sub ((encFA 97) (Mnt.before c zFA)) (0+((IntKind.i64.wrap (at_+48)).toNat)*1) 1=[cI ((Mnt.before c zFA).at ((IntKind.i64.wrap (at_+48)).toNat))]) (fa_at 97 (Mnt.before c zFA) _ vo)] ?_
   refine u0 (u0 ?_)
   refine run_weaken (wk_nilCell 10 0 119 3 1 [.nil] kr kr kr om) ?_ nofun
   refine u0 ?_
   refine rBlock ?_
   refine rUnroll 2 ?_
   refine unrollS ?_
   refine u0 ?_
   refine rCondT true kr rfl ?_
   refine rBlock ?_
   refine uq [] [ub 0 1] ?_
   have cc4:=Mnt.Reach_c c
   refine us 1 cc4 ?_
   refine u0 ?_
   refine uS 14 1 (((Mnt.Reach c).1).length) (elM Sym.encI 0 ((Mnt.Reach c).1)) (fun hL1=>?_)
   refine uF (((Mnt.Reach c).1).length) (plan1_b3_s at_ c) (plan1_b3 at_ c) (fun _ _=>True) () rfl [2,7,9,10,11,12,71,72,73,83,84,85] [] trivial (fun li3 lx3 hi3 hJ3 hr3=>?_) (fun lx3 hJ3 hr3=>?_)
   ·have ee6:=plan1_b3.eq_1 at_ c li3 lx3
    refine uq [] [ub (li3:Int) ((Mnt.Reach c).1).length] ?_
    have hp:=Mnt.Reach_bd c li3 hi3
    have hwp:IntKind.i64.wrap ((((Mnt.Reach c).1).getD li3 0)+48)=((Mnt.Reach c).1).getD li3 0+48:=w64 _ om om
    have cc5:=Mnt.dist_c at_ (((Mnt.Reach c).1).getD li3 0)
    refine uq [(2,hcon cc5),(12,.frz 0 (fun _=>[cI (zFA.at ((IntKind.i64.wrap ((((Mnt.Reach c).1).getD li3 0)+48)).toNat))])),(22,.frz 0 (fun _=>[cI ((Mnt.before c zFA).at ((IntKind.i64.wrap (at_+48)).toNat))]))] [pu cc5,@pu (((0 :Int)≤1∧1<(2:Int))∧2=([[.kptr ((encFA 97) (Mnt.before c zFA)) 0],[.kptr ((encFA 97) zFA) 0]]:List (List C)).length) (⟨om,rfl⟩),@pu (2=([[.kptr ((encFA 97) (Mnt.before c zFA)) 0],[.kptr ((encFA 97) zFA) 0]]:List (List C)).length∧1<2) (⟨rfl,om⟩),ub (IntKind.i64.wrap ((((Mnt.Reach c).1).getD li3 0)+48)) 97,@pu ((0+((IntKind.i64.wrap ((((Mnt.Reach c).1).getD li3 0)+48)).toNat)*1)+1≤((encFA 97) zFA).length∧sub ((encFA 97) zFA) (0+((IntKind.i64.wrap ((((Mnt.Reach c).1).getD li3 0)+48)).toNat)*1) 1=[cI (zFA.at ((IntKind.i64.wrap ((((Mnt.Reach c).1).getD li3 0)+48)).toNat))]) (fa_at 97 zFA _ vo),@pu (((0 :Int)≤0∧0<(2:Int))∧2=([[.kptr ((encFA 97) (Mnt.before c zFA)) 0],[.kptr ((encFA 97) zFA) 0]]:List (List C)).length) (⟨om,rfl⟩),@pu (2=([[.kptr ((encFA 97) (Mnt.before c zFA)) 0],[.kptr ((encFA 97) zFA) 0]]:List (List C)).length∧0<2) (⟨rfl,om⟩),ub (IntKind.i64.wrap (at_+48)) 97,@pu ((0+((IntKind.i64.wrap (at_+48)).toNat)*1)+1≤((encFA 97) (Mnt.before c zFA)).length∧sub ((encFA 97) (Mnt.before c zFA)) (0+((IntKind.i64.wrap (at_+48)).toNat)*1) 1=[cI ((Mnt.before c zFA).at ((IntKind.i64.wrap (at_+48)).toNat))]) (fa_at 97 (Mnt.before c zFA) _ vo)] ?_
    refine ud ee6 (fun hh3 ee7=>?_) (fun hh3 ee9=>?_)
    ·refine uq [(2,.own [10,2,119] [119] (.tup []) [(10,.pcells [.row 119 1]),(2,.cells [cI (((Mnt.Reach c).1).getD li3 0)]),(119,.row 3 1 [[cI (((Mnt.Reach c).1).getD li3 0)]])])] [pu (step_c (((Mnt.Reach c).1).getD li3 0) at_)] ?_
     have ee8:=fin_rt ee4 hr3 hi3 ee7
     refine run_exit (blockR_exit ?_)
     refine u0 ?_
     refine run_nil ?_
     refine unrollS ?_
     refine rTold (mkS 120 [(2,.b (.v (.c (.ptr 2 0)))),(7,.b (.v (.c (.row 29 2)))),(9,.b (.v (vI ((Mnt.before c zFA).at ((IntKind.i64.wrap (at_+48)).toNat))))),(10,.b (.v (.c (.ptr 10 0)))),(11,.b (.v (.c (.oclo false 250 [(10,0),(2,0)])))),(71,.b (.v (.c (.lst 1 1 (fun i=>sub [cI c] (0+i*1) 1))))),(72,.b (.v (vI 1))),(73,.b (.v (vI 1)))] [(2,.cells [cI (((Mnt.Reach c).1).getD li3 0)]),(10,.pcells [.row 119 ([((Mnt.Reach c).1).getD li3 0].length)]),(29,.row 312 1 ([[.kptr ((encFA 97) (Mnt.before c zFA)) 0],[.kptr ((encFA 97) zFA) 0]]:List (List C))),(119,.row 3 1 ([((Mnt.Reach c).1).getD li3 0].map Sym.encI))]) [2,7,9,10,11,71,72,73] [] kr ?_ nofun
     refine u0 ?_
     refine rCondF false kr rfl ?_
     refine run_exit (blockR_exit ?_)
     refine u0 ?_
     refine frzRow hB 4 119 ([((Mnt.Reach c).1).getD li3 0].length) 3 1 ([((Mnt.Reach c).1).getD li3 0].map Sym.encI) (elM Sym.encI 0 [((Mnt.Reach c).1).getD li3 0]) [5,6] [2,10,29] kr kr (len_row _ _) (elM_row _ _ _) kr ?_ nofun
     exact run_ret (ut _ (by rw [ee8]<;>rfl))
    ·exact run_nil (uN (plan1_b3_s at_ c) () hi3 [2,7,9,10,11,12,71,72,73,83,84,85] [] (trivial) ee9)
   ·have ee5:=(fin_nx ee4 hr3).trans (plan1_b3_r.eq_1 at_ c lx3)
    refine run_nil (blockR_normal ?_)
    refine u0 ?_
    refine run_nil ?_
    refine unrollS ?_
    refine rTold (mkS 120 [(2,.b (.v (.c (.ptr 2 0)))),(7,.b (.v (.c (.row 29 2)))),(9,.b (.v (vI ((Mnt.before c zFA).at ((IntKind.i64.wrap (at_+48)).toNat))))),(10,.b (.v (.c (.ptr 10 0)))),(11,.b (.v (.c (.oclo false 250 [(10,0),(2,0)])))),(71,.b (.v (.c (.lst 1 1 (fun i=>sub [cI c] (0+i*1) 1))))),(72,.b (.v (vI 1))),(73,.b (.v (vI 1)))] [(2,.cells [cI at_]),(10,.pcells [.row 119 0]),(29,.row 312 1 ([[.kptr ((encFA 97) (Mnt.before c zFA)) 0],[.kptr ((encFA 97) zFA) 0]]:List (List C))),(119,.row 3 1 [])]) [2,7,9,10,11,71,72,73] [] kr ?_ nofun
    refine u0 ?_
    refine rCondF false kr rfl ?_
    refine run_exit (blockR_exit ?_)
    refine u0 ?_
    refine frzRow hB 4 119 (([]:List Int).length) 3 1 [] (elM Sym.encI 0 ([]:List Int)) [5,6] [2,10,29] kr kr (len_row Sym.encI ([]:List Int)) (elM_row Sym.encI 0 ([]:List Int)) kr ?_ nofun
    exact run_ret (ut _ (by rw [ee5]<;>rfl))
theorem plan1_chk:((List.range 97).all fun a=>(List.range 32).all fun c=>Nat.ble 1 (plan1 ((a:Int) - 48) (c:Int)).1.length)=true:=by kernel_rfl
theorem plan1_one{at_ c:Int}(h:(plan1 at_ c).2.2=0):1≤(plan1 at_ c).1.length:=by
 cases ha:Mnt.is at_ with
 | false=>rw [plan1,ha] at h;cases h
 | true =>
  cases hc:Mnt.column c with
  | false=>rw [plan1,ha,hc] at h;cases h
  | true =>
   have h1:=is_bd ha
   have h2:=Mnt.column_iff.1 hc
   have h3:=List.all_eq_true.1 (List.all_eq_true.1 plan1_chk (at_+48).toNat (by simp;omega)) c.toNat (by simp;omega)
   rw [show (((at_+48).toNat:Nat):Int) - 48=at_ by omega,show (c.toNat:Int)=c by omega] at h3
   exact Nat.le_of_ble_eq_true h3
def move(at_:Int)(c:Int):Int×Int×Int:=
 (bif (((plan1 at_ c).2.2) != 0) then (0,0,((plan1 at_ c).2.2)) else (((plan1 at_ c).1).getD 0 0,((plan1 at_ c).2.1),0))
theorem move_c(at_:Int)(c:Int):FCall Tryz.prog 81 [vI at_,vI c] (.tup [vI ((move at_ c).1),vI ((move at_ c).2.1),vI ((move at_ c).2.2)]):=by
 have ee0:=move.eq_1 at_ c
 refine ul Tryz.func81 rfl (fun B hB=>?_)
 refine u0 ?_
 have ccP:FCall Tryz.prog 171 [vI at_,.c (.lst 1 1 (elM Sym.encI 0 [c]))] _:=(plan1_c at_ c).of_le ⟨CVle.refl _,CVle.lst (fun i hi=>by match i,hi with | 0,_=>rfl),trivial⟩
 refine uq [(2,.frz 1 (elM Sym.encI 0 [c])),(3,hcon ccP)] [@pu (1=1∧∀ i,i<1→(elM Sym.encI 0 [c]) i=[[cI c]].getD i []) (⟨rfl,fun i hi=>match i,hi with | 0,_=>rfl⟩),pu ccP] ?_
 refine u0 ?_
 refine ud ee0 (fun hh1 ee1=>?_) (fun hh1 ee2=>?_)
 ·refine u0 ?_
  exact run_ret (ut _ (by rw [ee1]<;>rfl))
 ·have hq1:=plan1_one (by simpa using hh1)
  refine uq [] [ub 0 ((plan1 at_ c).1).length] ?_
  exact run_ret (ut _ (by rw [ee2]<;>rfl))
end Go.Proofs.YtidbmbpeblmliaaGreatDoor.Pln
namespace Go.Proofs.YtidbmbpeblmliaaGreatDoor.Noi
open Go.Sym Go.Proofs.YtidbmbpeblmliaaGreatDoor
def sMin_b1(x:List Int)(lx1:Int×Int):Fl (Int×Int) Int:=
 (bif (decide (lx1.2<(x.length:Int))) then .nx ((imin lx1.1 (x.getD lx1.2.toNat 0)),(IntKind.i64.wrap (lx1.2+1))) else .rt lx1.1)
def sMin_b1_s(x:List Int)(lx1:Int×Int):S:=mkS 25 [(0,.b (.v (.c (.lst 1 x.length (elM Sym.encI 0 x))))),(3,.b (.v (vI lx1.1))),(4,.b (.v (vI lx1.2)))] []
def sMin(x:List Int):Int:=
 (runW (sMin_b1 x) ((((x.length:Int) - (x.getD 0 0,1).2).toNat)+1) (x.getD 0 0,1)).fin (fun _=>0)
theorem sMin_c(x:List Int)(hl:1≤x.length):FCall Tryz.prog 110 [.c (.lst 1 x.length (elM Sym.encI 0 x))] (.v (vI (sMin x))):=by
 have ee0:=sMin.eq_1 x
 refine ul Tryz.func110 rfl (fun B hB=>?_)
 refine u0 (u0 ?_)
 refine rCondF (decide ((x.length:Int)<1)) kr (by first | exact decide_eq_false om | (simp;omega)) ?_
 refine uq [] [ub 0 x.length] ?_
 refine u0 ?_
 refine uS 0 1 x.length (elM Sym.encI 0 x) (fun hL1=>?_)
 refine rWhile ((((x.length:Int) - (x.getD 0 0,1).2).toNat)+1) (sMin_b1_s x) (sMin_b1 x) (fun lx1=>0≤lx1.2∧(lx1.2≤(x.length:Int)∨(x.length:Int)≤0)) (fun lx1=>((x.length:Int) - lx1.2).toNat) (x.getD 0 0,1) (wkTo [0,3,4] [] kr) (by first | omega | simp;omega) (Nat.lt_succ_self _) (fun k1 lx1 hJ1 hr1=>?_)
 have ee1:=sMin_b1.eq_1 x lx1
 refine u0 ?_
 refine ud ee1 (fun hh1 ee2=>?_) (fun hh1 ee3=>?_)
 ·refine rBlock ?_
  refine uq [] [ub lx1.2 x.length] ?_
  refine run_nil (blockR_normal ?_)
  refine u0 ?_
  exact run_nil (⟨((imin lx1.1 (x.getD lx1.2.toNat 0)),(IntKind.i64.wrap (lx1.2+1))),wkTo [0,3,4] [] kr,(by first | omega | (simp (disch:=omega) only [w64];omega) | (simp only [q1,q2,q3,q4,q5,q6,q7,q8,q9,q10,q11,q12] at *;first | omega | (simp (disch:=omega) only [w64];omega))),ee2,by first | omega | (simp (disch:=omega) only [w64];omega) | (simp only [q1,q2,q3,q4,q5,q6,q7,q8,q9,q10,q11,q12] at *;first | omega | (simp (disch:=omega) only [w64];omega))⟩)
 ·refine run_exit ?_
  have ee4:=finw_rt ee0 hr1 ee3
  refine u0 ?_
  exact run_ret (ut _ (by rw [ee4]<;>rfl))
def sMax_b1(x:List Int)(lx1:Int×Int):Fl (Int×Int) Int:=
 (bif (decide (lx1.2<(x.length:Int))) then .nx ((imax lx1.1 (x.getD lx1.2.toNat 0)),(IntKind.i64.wrap (lx1.2+1))) else .rt lx1.1)
def sMax_b1_s(x:List Int)(lx1:Int×Int):S:=mkS 25 [(0,.b (.v (.c (.lst 1 x.length (elM Sym.encI 0 x))))),(3,.b (.v (vI lx1.1))),(4,.b (.v (vI lx1.2)))] []
def sMax(x:List Int):Int:=
 (runW (sMax_b1 x) ((((x.length:Int) - (x.getD 0 0,1).2).toNat)+1) (x.getD 0 0,1)).fin (fun _=>0)
theorem sMax_c(x:List Int)(hl:1≤x.length):FCall Tryz.prog 83 [.c (.lst 1 x.length (elM Sym.encI 0 x))] (.v (vI (sMax x))):=by
 have ee0:=sMax.eq_1 x
 refine ul Tryz.func83 rfl (fun B hB=>?_)
 refine u0 (u0 ?_)
 refine rCondF (decide ((x.length:Int)<1)) kr (by first | exact decide_eq_false om | (simp;omega)) ?_
 refine uq [] [ub 0 x.length] ?_
 refine u0 ?_
 refine uS 0 1 x.length (elM Sym.encI 0 x) (fun hL1=>?_)
 refine rWhile ((((x.length:Int) - (x.getD 0 0,1).2).toNat)+1) (sMax_b1_s x) (sMax_b1 x) (fun lx1=>0≤lx1.2∧(lx1.2≤(x.length:Int)∨(x.length:Int)≤0)) (fun lx1=>((x.length:Int) - lx1.2).toNat) (x.getD 0 0,1) (wkTo [0,3,4] [] kr) (by first | omega | simp;omega) (Nat.lt_succ_self _) (fun k1 lx1 hJ1 hr1=>?_)
 have ee1:=sMax_b1.eq_1 x lx1
 refine u0 ?_
 refine ud ee1 (fun hh1 ee2=>?_) (fun hh1 ee3=>?_)
 ·refine rBlock ?_
  refine uq [] [ub lx1.2 x.length] ?_
  refine run_nil (blockR_normal ?_)
  refine u0 ?_
  exact run_nil (⟨((imax lx1.1 (x.getD lx1.2.toNat 0)),(IntKind.i64.wrap (lx1.2+1))),wkTo [0,3,4] [] kr,(by first | omega | (simp (disch:=omega) only [w64];omega) | (simp only [q1,q2,q3,q4,q5,q6,q7,q8,q9,q10,q11,q12] at *;first | omega | (simp (disch:=omega) only [w64];omega))),ee2,by first | omega | (simp (disch:=omega) only [w64];omega) | (simp only [q1,q2,q3,q4,q5,q6,q7,q8,q9,q10,q11,q12] at *;first | omega | (simp (disch:=omega) only [w64];omega))⟩)
 ·refine run_exit ?_
  have ee4:=finw_rt ee0 hr1 ee3
  refine u0 ?_
  exact run_ret (ut _ (by rw [ee4]<;>rfl))
def Valid(tape:List Int):Bool:=
 (bif ((decide ((tape.length:Int)<1))||(decide ((tape.length:Int)>9))) then false else ((decide ((sMin tape)≥(-50)))&&(decide ((sMax tape)≤50))))
theorem Valid_c(tape:List Int):FCall Tryz.prog 63 [.c (.lst 1 tape.length (elM Sym.encI 0 tape))] (.v (vB (Valid tape))):=by
 have ee0:=Valid.eq_1 tape
 refine ul Tryz.func63 rfl (fun B hB=>?_)
 refine u0 (u0 ?_)
 refine ud ee0 (fun hh1 ee1=>?_) (fun hh1 ee2=>?_)
 ·refine u0 ?_
  exact run_ret (ut _ (by rw [ee1]<;>rfl))
 ·have cc1:=sMin_c tape vo
  refine uq [(1,hcon cc1),(5,.call (.v (vI (sMax tape))))] [pu cc1,@pg (decide ((sMin tape)≥(-50))) (_) (fun hg=>by exact sMax_c tape vo)] ?_
  exact run_ret (ut _ (by rw [ee2]<;>rfl))
end Go.Proofs.YtidbmbpeblmliaaGreatDoor.Noi
namespace Go.Proofs.YtidbmbpeblmliaaGreatDoor.Rig
open Go.Sym Go.Proofs.YtidbmbpeblmliaaGreatDoor
def identifier(s:BA):Bool:=
 ((((((LexS.lex s).2.1)==0)&&((((LexS.lex s).1).length:Int)==1))&&(((((LexS.lex s).1).getD 0 zTok).kind)==1))&&(((((LexS.lex s).1).getD 0 zTok).text).toList==s.toList))
theorem identifier_c(s:BA):FCall Tryz.prog 204 [.c (.str s)] (.v (vB (identifier s))):=by
 have ee0:=identifier.eq_1 s
 refine ul Tryz.func204 rfl (fun B hB=>?_)
 refine u0 ?_
 have cc1:=LexS.lex_c s
 refine us 1 cc1 ?_
 refine uq [] [uh ((((LexS.lex s).2.1)==0)&&((((LexS.lex s).1).length:Int)==1)) 0 ((LexS.lex s).1).length,uh (((((LexS.lex s).2.1)==0)&&((((LexS.lex s).1).length:Int)==1))&&(((((LexS.lex s).1).getD 0 zTok).kind)==1)) 0 ((LexS.lex s).1).length] ?_
 exact run_ret (ut _ (by rw [ee0]<;>rfl))
def within(n:Int)(lo:Int)(hi:Int):Bool:=
 ((decide (n≥lo))&&(decide (n≤hi)))
theorem within_c(n:Int)(lo:Int)(hi:Int):FCall Tryz.prog 80 [vI n,vI lo,vI hi] (.v (vB (within n lo hi))):=by
 have ee0:=within.eq_1 n lo hi
 refine ul Tryz.func80 rfl (fun B hB=>?_)
 refine u0 (u0 ?_)
 exact run_ret (ut _ (by rw [ee0]<;>rfl))
def telescope(t:Tel):Bool:=
 ((((identifier t.id)&&(within t.site 0 15))&&(within t.speed 1 20))&&(within t.filters 1 8))
theorem telescope_c(t:Tel):FCall Tryz.prog 105 [.agg (encTel t)] (.v (vB (telescope t))):=by
 have ee0:=telescope.eq_1 t
 refine ul Tryz.func105 rfl (fun B hB=>?_)
 refine uq [(0,.imm)] [] ?_
 have cc1:=identifier_c t.id
 have cc2:=within_c t.site 0 15
 have cc3:=within_c t.speed 1 20
 have cc4:=within_c t.filters 1 8
 refine uq [(2,hcon cc1),(6,hcon cc2),(11,hcon cc3),(16,hcon cc4)] [pu cc1,pu cc2,pu cc3,pu cc4] ?_
 exact run_ret (ut _ (by rw [ee0]<;>rfl))
def Valid(t:Tel)(r:Rg):Bool:=
 (((telescope t)&&(within r.pos (-48) 48))&&(within r.filter 0 (IntKind.i64.wrap (t.filters - 1))))
theorem Valid_c(t:Tel)(r:Rg):FCall Tryz.prog 31 [.agg (encTel t),.agg (encRg r)] (.v (vB (Valid t r))):=by
 have ee0:=Valid.eq_1 t r
 refine ul Tryz.func31 rfl (fun B hB=>?_)
 refine uq [(0,.imm),(1,.imm)] [] ?_
 have cc1:=telescope_c t
 have cc2:=within_c r.pos (-48) 48
 have cc3:=within_c r.filter 0 (IntKind.i64.wrap (t.filters - 1))
 refine uq [(1,hcon cc1),(5,hcon cc2),(13,hcon cc3)] [pu cc1,pu cc2,pu cc3] ?_
 exact run_ret (ut _ (by rw [ee0]<;>rfl))
def Turn(t:Tel)(from':Int)(to':Int):Int×Int:=
 (bif (((!(telescope t))||(!(within from' 0 (IntKind.i64.wrap (t.filters - 1)))))||(!(within to' 0 (IntKind.i64.wrap (t.filters - 1))))) then (0,1) else ((IntKind.i64.wrap (2*(imin (imax (IntKind.i64.wrap (from' - to')) (IntKind.i64.wrap (to' - from'))) (IntKind.i64.wrap (t.filters - (imax (IntKind.i64.wrap (from' - to')) (IntKind.i64.wrap (to' - from')))))))),0))
theorem Turn_c(t:Tel)(from':Int)(to':Int):FCall Tryz.prog 82 [.agg (encTel t),vI from',vI to'] (.tup [vI ((Turn t from' to').1),vI ((Turn t from' to').2)]):=by
 have ee0:=Turn.eq_1 t from' to'
 refine ul Tryz.func82 rfl (fun B hB=>?_)
 refine uq [(0,.imm)] [] ?_
 have cc1:=telescope_c t
 have cc2:=within_c from' 0 (IntKind.i64.wrap (t.filters - 1))
 have cc3:=within_c to' 0 (IntKind.i64.wrap (t.filters - 1))
 refine uq [(1,hcon cc1),(8,hcon cc2),(16,hcon cc3)] [pu cc1,pu cc2,pu cc3] ?_
 refine ud ee0 (fun hh1 ee1=>?_) (fun hh1 ee2=>?_)
 ·refine u0 ?_
  exact run_ret (ut _ (by rw [ee1]<;>rfl))
 ·refine u0 (u0 ?_)
  exact run_ret (ut _ (by rw [ee2]<;>rfl))
def Prepare(t:Tel)(r:Rg)(column:Int)(filter:Int):Rg×Int×Int:=
 (bif ((!(Valid t r))||(!(within filter 0 (IntKind.i64.wrap (t.filters - 1))))) then ((⟨0,0,false⟩:Rg),0,1) else (bif (((Pln.move r.pos column).2.2) != 0) then ((⟨0,0,false⟩:Rg),0,1) else (bif (((Pln.move r.pos column).1)==r.pos&&(filter==r.filter&&(r.stuck==r.stuck&&true))) then ((⟨(Pln.move r.pos column).1,filter,r.stuck⟩:Rg),0,0) else (bif (r.stuck&&(filter != r.filter)) then ((⟨0,0,false⟩:Rg),0,20) else (bif (decide ((Noi.sMax [(IntKind.i64.wrap (t.speed*((Pln.move r.pos column).2.1))),(Turn t r.filter filter).1])>60)) then ((⟨0,0,false⟩:Rg),0,21) else ((⟨(Pln.move r.pos column).1,filter,r.stuck⟩:Rg),(Noi.sMax [(IntKind.i64.wrap (t.speed*((Pln.move r.pos column).2.1))),(Turn t r.filter filter).1]),0))))))
theorem Prepare_c(t:Tel)(r:Rg)(column:Int)(filter:Int):FCall Tryz.prog 24 [.agg (encTel t),.agg (encRg r),vI column,vI filter] (.tup [.agg (encRg ((Prepare t r column filter).1)),vI ((Prepare t r column filter).2.1),vI ((Prepare t r column filter).2.2)]):=by
 have ee0:=Prepare.eq_1 t r column filter
 refine ul Tryz.func24 rfl (fun B hB=>?_)
 refine uq [(0,.imm),(1,.imm)] [] ?_
 have cc1:=Valid_c t r
 have cc2:=within_c filter 0 (IntKind.i64.wrap (t.filters - 1))
 refine uq [(2,hcon cc1),(9,hcon cc2)] [pu cc1,pu cc2] ?_
 refine ud ee0 (fun hh1 ee1=>?_) (fun hh1 ee2=>?_)
 ·refine u0 ?_
  exact run_ret (ut _ (by rw [ee1]<;>rfl))
 ·have cc3:=Pln.move_c r.pos column
  refine us 3 cc3 ?_
  refine u0 ?_
  refine ud ee2 (fun hh2 ee3=>?_) (fun hh2 ee4=>?_)
  ·refine u0 ?_
   exact run_ret (ut _ (by rw [ee3]<;>rfl))
  ·refine u0 ?_
   refine uq [] [ue 83 [.int .i64,.int .i64,.bool]] ?_
   refine ud ee4 (fun hh3 ee5=>?_) (fun hh3 ee6=>?_)
   ·refine u0 ?_
    exact run_ret (ut _ (by rw [ee5]<;>rfl))
   ·refine u0 ?_
    refine ud ee6 (fun hh4 ee7=>?_) (fun hh4 ee8=>?_)
    ·refine u0 ?_
     exact run_ret (ut _ (by rw [ee7]<;>rfl))
    ·refine u0 ?_
     have cc4:=Turn_c t r.filter filter
     refine uq [(4,hcon cc4)] [pu cc4,ub 1 2] ?_
     refine frzBox hB 15 15 0 [cI (IntKind.i64.wrap (t.speed*((Pln.move r.pos column).2.1))),cI ((Turn t r.filter filter).1)] [8,14] [] kr kr kr ?_ nofun
     have cc5:FCall Tryz.prog 83 [.c (.lst 1 2 (fun i=>sub [cI (IntKind.i64.wrap (t.speed*((Pln.move r.pos column).2.1))),cI ((Turn t r.filter filter).1)] (0+i*1) 1))] (.v (vI (Noi.sMax [(IntKind.i64.wrap (t.speed*((Pln.move r.pos column).2.1))),(Turn t r.filter filter).1]))):=(Noi.sMax_c [(IntKind.i64.wrap (t.speed*((Pln.move r.pos column).2.1))),(Turn t r.filter filter).1] vo).of_le ⟨CVle.lst (fun i hi=>by match i,hi with | 0,_=>rfl | 1,_=>rfl),trivial⟩
     refine us 1 cc5 ?_
     refine u0 ?_
     refine ud ee8 (fun hh5 ee9=>?_) (fun hh5 ee10=>?_)
     ·refine u0 ?_
      exact run_ret (ut _ (by rw [ee9]<;>rfl))
     ·refine u0 ?_
      exact run_ret (ut _ (by rw [ee10]<;>rfl))
end Go.Proofs.YtidbmbpeblmliaaGreatDoor.Rig
namespace Go.Proofs.YtidbmbpeblmliaaGreatDoor.Air
open Go.Sym Go.Proofs.YtidbmbpeblmliaaGreatDoor
def cWithin(x:Int)(n:Int):Bool:=
 ((decide (0≤x))&&(decide (x<n)))
theorem cWithin_c(x:Int)(n:Int):FCall Tryz.prog 304 [vI x,vI n] (.v (vB (cWithin x n))):=by
 have ee0:=cWithin.eq_1 x n
 refine ul Tryz.func304 rfl (fun B hB=>?_)
 refine u0 (u0 ?_)
 exact run_ret (ut _ (by rw [ee0]<;>rfl))
def cSplit(m:Int):Int×Int×Int:=
 (bif (!(cWithin m 38400)) then (0,0,1) else ((IntKind.i64.wrap (m.tdiv 96)),(m.tmod 96),0))
theorem cSplit_c(m:Int):FCall Tryz.prog 245 [vI m] (.tup [vI ((cSplit m).1),vI ((cSplit m).2.1),vI ((cSplit m).2.2)]):=by
 have ee0:=cSplit.eq_1 m
 refine ul Tryz.func245 rfl (fun B hB=>?_)
 refine u0 ?_
 have cc1:=cWithin_c m 38400
 refine us 1 cc1 ?_
 refine ud ee0 (fun hh1 ee1=>?_) (fun hh1 ee2=>?_)
 ·refine u0 ?_
  exact run_ret (ut _ (by rw [ee1]<;>rfl))
 ·refine uq [] [uo ((96 :Int)≠0),uo ((96 :Int)≠0)] ?_
  exact run_ret (ut _ (by rw [ee2]<;>rfl))
def cSidereal(m:Int):Int×Int:=
 (bif (((cSplit m).2.2) != 0) then (0,(cSplit m).2.2) else (((IntKind.i64.wrap ((IntKind.i64.wrap (60*((cSplit m).2.1)))+(IntKind.i64.wrap (16*((cSplit m).1))))).tmod 5760),0))
theorem cSidereal_c(m:Int):FCall Tryz.prog 168 [vI m] (.tup [vI ((cSidereal m).1),vI ((cSidereal m).2)]):=by
 have ee0:=cSidereal.eq_1 m
 refine ul Tryz.func168 rfl (fun B hB=>?_)
 refine u0 ?_
 have cc1:=cSplit_c m
 refine us 1 cc1 ?_
 refine u0 ?_
 refine ud ee0 (fun hh1 ee1=>?_) (fun hh1 ee2=>?_)
 ·refine u0 ?_
  exact run_ret (ut _ (by rw [ee1]<;>rfl))
 ·refine uq [] [uo ((5760 :Int)≠0)] ?_
  exact run_ret (ut _ (by rw [ee2]<;>rfl))
def abs(n:Int):Int:=
 (bif (decide (n<0)) then (IntKind.i64.wrap (0 - n)) else n)
theorem abs_c(n:Int):FCall Tryz.prog 73 [vI n] (.v (vI (abs n))):=by
 have ee0:=abs.eq_1 n
 refine ul Tryz.func73 rfl (fun B hB=>?_)
 refine u0 (u0 ?_)
 refine ud ee0 (fun hh1 ee1=>?_) (fun hh1 ee2=>?_)
 ·refine u0 ?_
  exact run_ret (ut _ (by rw [ee1]<;>rfl))
 ·refine u0 ?_
  exact run_ret (ut _ (by rw [ee2]<;>rfl))
def exists'(site:Int)(tile:Int):Bool:=
 ((((decide (site≥0))&&(decide (site<16)))&&(decide (tile≥0)))&&(decide (tile<512)))
theorem exists'_c(site:Int)(tile:Int):FCall Tryz.prog 71 [vI site,vI tile] (.v (vB (exists' site tile))):=by
 have ee0:=exists'.eq_1 site tile
 refine ul Tryz.func71 rfl (fun B hB=>?_)
 refine u0 (u0 ?_)
 exact run_ret (ut _ (by rw [ee0]<;>rfl))
def Hour(column:Int)(m:Int):Int×Int:=
 (bif (((((cSidereal m).2) != 0)||(decide (column<0)))||(decide (column≥32))) then (0,1) else ((IntKind.i64.wrap (((IntKind.i64.wrap ((IntKind.i64.wrap ((IntKind.i64.wrap ((IntKind.i64.wrap (((cSidereal m).1) - (IntKind.i64.wrap (180*column)))) - 90))+2880))+5760)).tmod 5760) - 2880)),0))
theorem Hour_c(column:Int)(m:Int):FCall Tryz.prog 72 [vI column,vI m] (.tup [vI ((Hour column m).1),vI ((Hour column m).2)]):=by
 have ee0:=Hour.eq_1 column m
 refine ul Tryz.func72 rfl (fun B hB=>?_)
 refine u0 ?_
 have cc1:=cSidereal_c m
 refine us 1 cc1 ?_
 refine u0 ?_
 refine ud ee0 (fun hh1 ee1=>?_) (fun hh1 ee2=>?_)
 ·refine u0 ?_
  exact run_ret (ut _ (by rw [ee1]<;>rfl))
 ·refine uq [] [uo ((5760 :Int)≠0)] ?_
  exact run_ret (ut _ (by rw [ee2]<;>rfl))
def Height(site:Int)(tile:Int)(m:Int):Int×Int:=
 (bif (!(exists' site tile)) then (0,1) else (bif (((Hour (tile.tmod 32) m).2) != 0) then (0,(Hour (tile.tmod 32) m).2) else ((IntKind.i64.wrap ((IntKind.i64.wrap (900 - (IntKind.i64.wrap (50*(abs (IntKind.i64.wrap ((IntKind.i64.wrap (tile.tdiv 32)) - site))))))) - (IntKind.i64.wrap ((IntKind.i64.wrap (5*(abs ((Hour (tile.tmod 32) m).1)))).tdiv 16)))),0)))
theorem Height_c(site:Int)(tile:Int)(m:Int):FCall Tryz.prog 21 [vI site,vI tile,vI m] (.tup [vI ((Height site tile m).1),vI ((Height site tile m).2)]):=by
 have ee0:=Height.eq_1 site tile m
 refine ul Tryz.func21 rfl (fun B hB=>?_)
 refine u0 ?_
 have cc1:=exists'_c site tile
 refine us 2 cc1 ?_
 refine ud ee0 (fun hh1 ee1=>?_) (fun hh1 ee2=>?_)
 ·refine u0 ?_
  exact run_ret (ut _ (by rw [ee1]<;>rfl))
 ·have cc2:=Hour_c (tile.tmod 32) m
  refine uq [(3,hcon cc2)] [uo ((32 :Int)≠0),pu cc2] ?_
  refine u0 ?_
  refine ud ee2 (fun hh2 ee3=>?_) (fun hh2 ee4=>?_)
  ·refine u0 ?_
   exact run_ret (ut _ (by rw [ee3]<;>rfl))
  ·have cc3:=abs_c (IntKind.i64.wrap ((IntKind.i64.wrap (tile.tdiv 32)) - site))
   have cc4:=abs_c ((Hour (tile.tmod 32) m).1)
   refine uq [(4,hcon cc3),(8,hcon cc4)] [uo ((32 :Int)≠0),pu cc3,pu cc4,uo ((16 :Int)≠0)] ?_
   exact run_ret (ut _ (by rw [ee4]<;>rfl))
def Airmass(height:Int):Int×Int:=
 (bif (decide (height>900)) then (0,1) else (bif (decide (height<100)) then (0,19) else ((IntKind.i64.wrap ((900000:Int).tdiv height)),0)))
theorem Airmass_c(height:Int):FCall Tryz.prog 131 [vI height] (.tup [vI ((Airmass height).1),vI ((Airmass height).2)]):=by
 have ee0:=Airmass.eq_1 height
 refine ul Tryz.func131 rfl (fun B hB=>?_)
 refine u0 ?_
 refine rBlock ?_
 refine u0 ?_
 refine ud ee0 (fun hh1 ee1=>?_) (fun hh1 ee2=>?_)
 ·refine u0 ?_
  exact run_ret (blockR_ret (ut _ (by rw [ee1]<;>rfl)))
 ·refine u0 ?_
  refine ud ee2 (fun hh2 ee3=>?_) (fun hh2 ee4=>?_)
  ·refine u0 ?_
   exact run_ret (blockR_ret (ut _ (by rw [ee3]<;>rfl)))
  ·refine run_nil (blockR_normal ?_)
   refine uq [] [uo (height≠0)] ?_
   exact run_ret (ut _ (by rw [ee4]<;>rfl))
end Go.Proofs.YtidbmbpeblmliaaGreatDoor.Air
namespace Go.Proofs.YtidbmbpeblmliaaGreatDoor.Det
open Go.Sym Go.Proofs.YtidbmbpeblmliaaGreatDoor
def within(n:Int)(low:Int)(high:Int):Bool:=
 ((decide (low≤n))&&(decide (n≤high)))
theorem within_c(n:Int)(low:Int)(high:Int):FCall Tryz.prog 148 [vI n,vI low,vI high] (.v (vB (within n low high))):=by
 have ee0:=within.eq_1 n low high
 refine ul Tryz.func148 rfl (fun B hB=>?_)
 refine u0 (u0 ?_)
 exact run_ret (ut _ (by rw [ee0]<;>rfl))
def Valid(d:Det):Bool:=
 (((((within d.gain 1 10000)&&(within d.bias 0 1000))&&(within d.dark 0 1000))&&(within d.full 1 65535))&&(within d.keep 0 1000))
theorem Valid_c(d:Det):FCall Tryz.prog 53 [.agg (encDet d)] (.v (vB (Valid d))):=by
 have ee0:=Valid.eq_1 d
 refine ul Tryz.func53 rfl (fun B hB=>?_)
 refine uq [(0,.imm)] [] ?_
 have cc1:=within_c d.gain 1 10000
 have cc2:=within_c d.bias 0 1000
 have cc3:=within_c d.dark 0 1000
 have cc4:=within_c d.full 1 65535
 have cc5:=within_c d.keep 0 1000
 refine uq [(2,hcon cc1),(6,hcon cc2),(11,hcon cc3),(16,hcon cc4),(21,hcon cc5)] [pu cc1,pu cc2,pu cc3,pu cc4,pu cc5] ?_
 exact run_ret (ut _ (by rw [ee0]<;>rfl))
end Go.Proofs.YtidbmbpeblmliaaGreatDoor.Det
