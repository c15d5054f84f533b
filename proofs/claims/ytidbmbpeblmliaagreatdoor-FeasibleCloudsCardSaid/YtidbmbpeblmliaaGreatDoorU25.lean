/- Part of the proof of the statement that the claim's last text names: contracts of functions and laws of the symbolic layer. -/
import Derived.Test.YtidbmbpeblmliaaGreatDoorU14
import Derived.Test.YtidbmbpeblmliaaGreatDoorU15
import Derived.Test.YtidbmbpeblmliaaGreatDoorU24
import Derived.Test.YtidbmbpeblmliaaGreatDoorU18
import Derived.Test.YtidbmbpeblmliaaGreatDoorU19
import Derived.Test.YtidbmbpeblmliaaGreatDoorU21
import Derived.Test.YtidbmbpeblmliaaGreatDoorU22
import Derived.Test.YtidbmbpeblmliaaGreatDoorU23
set_option linter.unusedVariables false
set_option linter.unusedSimpArgs false
namespace Go.Proofs.YtidbmbpeblmliaaGreatDoor.Prg
open Go.Sym Go.Proofs.YtidbmbpeblmliaaGreatDoor
def Variables:(List Rng):=
 [(⟨(⟨#[97,105,114,109,97,115,115]⟩:BA),1000,9000⟩:Rng),(⟨(⟨#[99,108,101,97,114]⟩:BA),0,1000⟩:Rng),(⟨(⟨#[115,101,101,105,110,103]⟩:BA),1,100⟩:Rng),(⟨(⟨#[97,103,101]⟩:BA),0,38399⟩:Rng),(⟨(⟨#[114,111,117,110,100]⟩:BA),0,100⟩:Rng),(⟨(⟨#[115,116,101,112]⟩:BA),0,39⟩:Rng),(⟨(⟨#[98,97,108,97,110,99,101]⟩:BA),(-1000000),1000000⟩:Rng)]
theorem Variables_c:FCall Tryz.prog 102 [] (.v (.c (.lst 3 Variables.length (elM encRng zRng Variables)))):=by
 have ee0:=Variables.eq_1
 refine ul Tryz.func102 rfl (fun B hB=>?_)
 refine u0 ?_
 refine uq [(7,.frz 7 (elM encRng zRng [(⟨(⟨#[97,105,114,109,97,115,115]⟩:BA),1000,9000⟩:Rng),(⟨(⟨#[99,108,101,97,114]⟩:BA),0,1000⟩:Rng),(⟨(⟨#[115,101,101,105,110,103]⟩:BA),1,100⟩:Rng),(⟨(⟨#[97,103,101]⟩:BA),0,38399⟩:Rng),(⟨(⟨#[114,111,117,110,100]⟩:BA),0,100⟩:Rng),(⟨(⟨#[115,116,101,112]⟩:BA),0,39⟩:Rng),(⟨(⟨#[98,97,108,97,110,99,101]⟩:BA),(-1000000),1000000⟩:Rng)]))] [@pu (7=7∧∀ i,i<7→(elM encRng zRng [(⟨(⟨#[97,105,114,109,97,115,115]⟩:BA),1000,9000⟩:Rng),(⟨(⟨#[99,108,101,97,114]⟩:BA),0,1000⟩:Rng),(⟨(⟨#[115,101,101,105,110,103]⟩:BA),1,100⟩:Rng),(⟨(⟨#[97,103,101]⟩:BA),0,38399⟩:Rng),(⟨(⟨#[114,111,117,110,100]⟩:BA),0,100⟩:Rng),(⟨(⟨#[115,116,101,112]⟩:BA),0,39⟩:Rng),(⟨(⟨#[98,97,108,97,110,99,101]⟩:BA),(-1000000),1000000⟩:Rng)]) i=[[.str (⟨#[97,105,114,109,97,115,115]⟩:BA),cI 1000,cI 9000],[.str (⟨#[99,108,101,97,114]⟩:BA),cI 0,cI 1000],[.str (⟨#[115,101,101,105,110,103]⟩:BA),cI 1,cI 100],[.str (⟨#[97,103,101]⟩:BA),cI 0,cI 38399],[.str (⟨#[114,111,117,110,100]⟩:BA),cI 0,cI 100],[.str (⟨#[115,116,101,112]⟩:BA),cI 0,cI 39],[.str (⟨#[98,97,108,97,110,99,101]⟩:BA),cI (-1000000),cI 1000000]].getD i []) (⟨rfl,fun i hi=>match i,hi with | 0,_=>rfl | 1,_=>rfl | 2,_=>rfl | 3,_=>rfl | 4,_=>rfl | 5,_=>rfl | 6,_=>rfl⟩)] ?_
 exact run_ret (ut _ (by rw [ee0]<;>rfl))
def in'_b1_r(most:Int)(l:List Int)(lx1:Unit):Bool:=
 true
def in'_b1(most:Int)(l:List Int)(li1:Nat)(lx1:Unit):Fl Unit Bool:=
 (bif ((decide ((l.getD li1 0)<0))||(decide ((l.getD li1 0)>most))) then .rt false else .nx ())
def in'_b1_s(most:Int)(l:List Int)(li1:Nat)(qv:Int)(lx1:Unit):S:=mkS 21 [(0,.b (.v (vI most))),(7,.b (.v (.c (.lst 1 l.length (elM Sym.encI 0 l))))),(8,.b (.v (vI (l.length:Int)))),(9,.b (.v (vI qv)))] []
def in'(most:Int)(l:List Int):Bool:=
 (runL (in'_b1 most l) l.length 0 ()).fin (in'_b1_r most l)
theorem in'_c(most:Int)(l:List Int):FCall Tryz.prog 97 [vI most,.c (.lst 1 l.length (elM Sym.encI 0 l))] (.v (vB (in' most l))):=by
 have ee0:=in'.eq_1 most l
 refine ul Tryz.func97 rfl (fun B hB=>?_)
 refine u0 (u0 ?_)
 refine uS 1 1 l.length (elM Sym.encI 0 l) (fun hL1=>?_)
 refine uF l.length (in'_b1_s most l) (in'_b1 most l) (fun _ _=>True) () rfl [0,7,8,9] [] trivial (fun li1 lx1 hi1 hJ1 hr1=>?_) (fun lx1 hJ1 hr1=>?_)
 ·have ee2:=in'_b1.eq_1 most l li1 lx1
  refine uq [] [ub (li1:Int) l.length] ?_
  refine u0 ?_
  refine ud ee2 (fun hh1 ee3=>?_) (fun hh1 ee5=>?_)
  ·refine u0 ?_
   have ee4:=fin_rt ee0 hr1 hi1 ee3
   exact run_ret (ut _ (by rw [ee4]<;>rfl))
  ·exact run_nil (uN (in'_b1_s most l) () hi1 [0,7,8,9] [] (trivial) ee5)
 ·have ee1:=(fin_nx ee0 hr1).trans (in'_b1_r.eq_1 most l lx1)
  refine u0 ?_
  exact run_ret (ut _ (by rw [ee1]<;>rfl))
def identifier(s:BA):Bool:=
 ((((((LexS.lex s).2.1)==0)&&((((LexS.lex s).1).length:Int)==1))&&(((((LexS.lex s).1).getD 0 zTok).kind)==1))&&(((((LexS.lex s).1).getD 0 zTok).text).toList==s.toList))
theorem identifier_c(s:BA):FCall Tryz.prog 96 [.c (.str s)] (.v (vB (identifier s))):=by
 have ee0:=identifier.eq_1 s
 refine ul Tryz.func96 rfl (fun B hB=>?_)
 refine u0 ?_
 have cc1:=LexS.lex_c s
 refine us 1 cc1 ?_
 refine uq [] [uh ((((LexS.lex s).2.1)==0)&&((((LexS.lex s).1).length:Int)==1)) 0 ((LexS.lex s).1).length,uh (((((LexS.lex s).2.1)==0)&&((((LexS.lex s).1).length:Int)==1))&&(((((LexS.lex s).1).getD 0 zTok).kind)==1)) 0 ((LexS.lex s).1).length] ?_
 exact run_ret (ut _ (by rw [ee0]<;>rfl))
def Valid(p:Prg):Bool:=
 (bif (((((((!(identifier p.id))||(!(in' 15 [p.partner])))||(!(in' 38399 [p.frm,p.til])))||(decide (p.frm>p.til)))||(decide ((p.tiles.length:Int)<1)))||(decide ((p.tiles.length:Int)>20)))||(!(in' 511 p.tiles))) then false else (bif (((Slc.srtK p.tiles).length:Int) != (p.tiles.length:Int)) then false else ((((((((Bns.Bounds p.merit Variables).2.2)==0)&&(((Txt.text p.merit).2)==0))&&(decide ((((Txt.text p.merit).1).size:Int)≤400)))&&(Cad.Valid p.seq))&&(in' 96 [p.follow]))&&(in' 10000 [p.bonus]))))
theorem Valid_c(p:Prg):FCall Tryz.prog 29 [.agg (encPrg p)] (.v (vB (Valid p))):=by
 have ee0:=Valid.eq_1 p
 refine ul Tryz.func29 rfl (fun B hB=>?_)
 refine uq [(0,.imm)] [] ?_
 refine u0 ?_
 have cc1:=identifier_c p.id
 have cc2:=in'_c 15 [p.partner]
 have cc3:=in'_c 38399 [p.frm,p.til]
 have cc4:=in'_c 511 p.tiles
 refine uq [(2,hcon cc1),(7,.frz 1 (elM Sym.encI 0 [p.partner])),(8,hcon cc2),(16,.frz 2 (elM Sym.encI 0 [p.frm,p.til])),(17,hcon cc3),(38,hcon cc4)] [pu cc1,@pg (!(!(identifier p.id))) (1=1∧∀ i,i<1→(elM Sym.encI 0 [p.partner]) i=[[cI p.partner]].getD i []) (fun hg=>⟨rfl,fun i hi=>match i,hi with | 0,_=>rfl⟩),pu cc2,@pg (!((!(identifier p.id))||(!(in' 15 [p.partner])))) (2=2∧∀ i,i<2→(elM Sym.encI 0 [p.frm,p.til]) i=[[cI p.frm],[cI p.til]].getD i []) (fun hg=>⟨rfl,fun i hi=>match i,hi with | 0,_=>rfl | 1,_=>rfl⟩),pu cc3,pu cc4] ?_
 refine ud ee0 (fun hh1 ee1=>?_) (fun hh1 ee2=>?_)
 ·refine u0 ?_
  exact run_ret (ut _ (by rw [ee1]<;>rfl))
 ·have hl6:p.tiles.length≤1000000:=by simp only [Bool.or_eq_false_iff,decide_eq_false_iff_not] at hh1;omega
  refine run_weaken (wk_mkRow 5 3 1 kr om) ?_ nofun
  have cc5:=Slc.values_c p.tiles
  refine uq [(2,hcon cc5),(3,.own [5] [5] (.v (.c (.row 5 p.tiles.length))) [(5,.row 3 1 (Sym.rowI (Sym.sortI p.tiles)))])] [pu cc5,pu ((Slc.sorted_o p.tiles _ _ (Slc.values_it p.tiles hl6) hl6).ren (fun | 0=>5 | n=>n) ⟨kr,kr,kr,kr,kr,kr,kr⟩)] ?_
  refine uq [(1,.own [5] [5] (.v (.c (.row 5 (Slc.srtK p.tiles).length))) [(5,.row 3 1 (Sym.rowI (Slc.srtK p.tiles)))])] [pu ((Slc.compact_k p.tiles hl6).ren (fun | 0=>5 | n=>n) ⟨kr,kr,kr,kr,kr,kr,kr⟩),@pu ((Slc.srtK p.tiles).length=(Sym.rowI (Slc.srtK p.tiles)).length) (rowN rfl rfl)] ?_
  refine ud ee2 (fun hh2 ee3=>?_) (fun hh2 ee4=>?_)
  ·refine u0 ?_
   exact run_ret (ut _ (by rw [ee3]<;>rfl))
  ·have cc6:=Variables_c
   have cc7:=Bns.Bounds_c p.merit Variables
   refine uq [(2,hcon cc6),(3,hcon cc7)] [pu cc6,pu cc7] ?_
   have cc8:=Txt.text_c p.merit
   refine us 2 cc8 ?_
   have cc9:=Cad.Valid_c p.seq
   have cc10:=in'_c 96 [p.follow]
   have cc11:=in'_c 10000 [p.bonus]
   refine uq [(14,hcon cc9),(19,.frz 1 (elM Sym.encI 0 [p.follow])),(20,hcon cc10),(25,.frz 1 (elM Sym.encI 0 [p.bonus])),(26,hcon cc11)] [pu cc9,@pg ((((((Bns.Bounds p.merit Variables).2.2)==0)&&(((Txt.text p.merit).2)==0))&&(decide ((((Txt.text p.merit).1).size:Int)≤400)))&&(Cad.Valid p.seq)) (1=1∧∀ i,i<1→(elM Sym.encI 0 [p.follow]) i=[[cI p.follow]].getD i []) (fun hg=>⟨rfl,fun i hi=>match i,hi with | 0,_=>rfl⟩),pu cc10,@pg (((((((Bns.Bounds p.merit Variables).2.2)==0)&&(((Txt.text p.merit).2)==0))&&(decide ((((Txt.text p.merit).1).size:Int)≤400)))&&(Cad.Valid p.seq))&&(in' 96 [p.follow])) (1=1∧∀ i,i<1→(elM Sym.encI 0 [p.bonus]) i=[[cI p.bonus]].getD i []) (fun hg=>⟨rfl,fun i hi=>match i,hi with | 0,_=>rfl⟩),pu cc11] ?_
   exact run_ret (ut _ (by rw [ee4]<;>rfl))
end Go.Proofs.YtidbmbpeblmliaaGreatDoor.Prg
namespace Go.Proofs.YtidbmbpeblmliaaGreatDoor.Fea
open Go.Sym Go.Proofs.YtidbmbpeblmliaaGreatDoor
def identifier(s:BA):Bool:=
 ((((((LexS.lex s).2.1)==0)&&((((LexS.lex s).1).length:Int)==1))&&(((((LexS.lex s).1).getD 0 zTok).kind)==1))&&(((((LexS.lex s).1).getD 0 zTok).text).toList==s.toList))
theorem identifier_c(s:BA):FCall Tryz.prog 54 [.c (.str s)] (.v (vB (identifier s))):=by
 have ee0:=identifier.eq_1 s
 refine ul Tryz.func54 rfl (fun B hB=>?_)
 refine u0 ?_
 have cc1:=LexS.lex_c s
 refine us 1 cc1 ?_
 refine uq [] [uh ((((LexS.lex s).2.1)==0)&&((((LexS.lex s).1).length:Int)==1)) 0 ((LexS.lex s).1).length,uh (((((LexS.lex s).2.1)==0)&&((((LexS.lex s).1).length:Int)==1))&&(((((LexS.lex s).1).getD 0 zTok).kind)==1)) 0 ((LexS.lex s).1).length] ?_
 exact run_ret (ut _ (by rw [ee0]<;>rfl))
def moment(n:Int):Bool:=
 ((decide (n≥0))&&(decide (n≤38399)))
theorem moment_c(n:Int):FCall Tryz.prog 109 [vI n] (.v (vB (moment n))):=by
 have ee0:=moment.eq_1 n
 refine ul Tryz.func109 rfl (fun B hB=>?_)
 refine u0 (u0 ?_)
 exact run_ret (ut _ (by rw [ee0]<;>rfl))
def shares_b1_r(w:Wd)(lx1:(List Int)):(List Int):=
 lx1
def shares_b1(w:Wd)(li1:Nat)(lx1:(List Int)):Fl (List Int) (List Int):=
 .nx (lx1++[(w.partners.getD li1 zPtn).share])
def shares_b1_s(w:Wd)(li1:Nat)(qv:Int)(lx1:(List Int))(n3:Nat)(r3:List (List C)):S:=mkS 20 [(3,.b (.v (.c (.row 3 n3)))),(7,.b (.v (.c (.lst 2 w.partners.length (elM encPtn zPtn w.partners))))),(8,.b (.v (vI (w.partners.length:Int)))),(9,.b (.v (vI qv)))] [(3,.row 3 1 r3)]
def shares(w:Wd):(List Int):=
 (runL (shares_b1 w) w.partners.length 0 ([]:List Int)).fin (shares_b1_r w)
theorem shares_c(w:Wd)(hp:w.partners.length≤1000):FCall Tryz.prog 113 [.agg (encWd w)] (.v (.c (.lst 1 ((shares w).length) (elM Sym.encI 0 (shares w))))):=by
 have ee0:=shares.eq_1 w
 refine ul Tryz.func113 rfl (fun B hB=>?_)
 refine uq [(0,.imm)] [] ?_
 refine u0 (u0 ?_)
 refine run_weaken (wk_nilRow 3 3 3 1 kr kr om) ?_ nofun
 refine uR 0 (.agg (encWd w)) (fun hR=>?_)
 have hL1:w.partners.length≤9223372036854775807:=Real.len (hR 1 (Nat.le_of_ble_eq_true rfl))
 refine rForX w.partners.length (fun qi qv qz=>shares_b1_s w qi qv qz qz.length (qz.map Sym.encI)) (shares_b1 w) (fun li1 lx1=>lx1.length≤li1) ([]:List Int) rfl mix (rowW (fun qn qr=>shares_b1_s w 0 0 ([]:List Int) qn qr) 0 [] ([]:List Int) (rfl) (rfl) (wkTo [3,7,8,9] [] kr)) (by simp) (fun qi qz=>⟨kr,kr⟩) (fun li1 lx1 hi1 hJ1 hr1=>?_) (fun lx1 hJ1 hr1=>?_)
 ·have ee2:=shares_b1.eq_1 w li1 lx1
  refine uq [] [ub (li1:Int) w.partners.length] ?_
  refine uq [(3,.frz 1 (elM Sym.encI 0 [(w.partners.getD li1 zPtn).share]))] [@pu (1=1∧∀ i,i<1→(elM Sym.encI 0 [(w.partners.getD li1 zPtn).share]) i=[[cI ((w.partners.getD li1 zPtn).share)]].getD i []) (⟨rfl,fun i hi=>match i,hi with | 0,_=>rfl⟩),@pu (lx1.length=(lx1.map Sym.encI).length) (rowN rfl rfl),uo ((lx1.length+1)*(8+1)≤140737488355328)] ?_
  exact run_nil (forX_nx (fun qi qv qz=>shares_b1_s w qi qv qz qz.length (qz.map Sym.encI)) (lx1++[(w.partners.getD li1 zPtn).share]) hi1 om kr (rowW (fun qn qr=>shares_b1_s w (li1+1) (IntKind.i64.wrap ((li1:Int)+1)) (lx1++[(w.partners.getD li1 zPtn).share]) qn qr) (lx1.length+1) ((lx1.map Sym.encI)++((List.range 1).map (elM Sym.encI 0 [(w.partners.getD li1 zPtn).share]))) (lx1++[(w.partners.getD li1 zPtn).share]) (rowAn rfl [(w.partners.getD li1 zPtn).share]) (rowA rfl [(w.partners.getD li1 zPtn).share]) (wkTo [3,7,8,9] [5] kr)) ((by first | omega | (simp;omega) | (simp only [List.length_append,List.length_cons,List.length_nil] at *;omega))) ee2)
 ·have ee1:=(fin_nx ee0 hr1).trans (shares_b1_r.eq_1 w lx1)
  refine u0 ?_
  refine frzRow hB 2 3 lx1.length 3 1 (lx1.map Sym.encI) (elM Sym.encI 0 lx1) [] [] kr kr (len_row _ _) (elM_row _ _ _) kr ?_ nofun
  exact run_ret (ut _ (by rw [ee1]<;>rfl))
def within1(l:List Tel)(lo:Int)(hi:Int):Bool:=
 ((decide ((l.length:Int)≥lo))&&(decide ((l.length:Int)≤hi)))
theorem within1_c(l:List Tel)(lo:Int)(hi:Int):FCall Tryz.prog 49 [.c (.lst 9 l.length (elM encTel zTel l)),vI lo,vI hi] (.v (vB (within1 l lo hi))):=by
 have ee0:=within1.eq_1 l lo hi
 refine ul Tryz.func49 rfl (fun B hB=>?_)
 refine u0 (u0 ?_)
 exact run_ret (ut _ (by rw [ee0]<;>rfl))
def within2(l:List Ptn)(lo:Int)(hi:Int):Bool:=
 ((decide ((l.length:Int)≥lo))&&(decide ((l.length:Int)≤hi)))
theorem within2_c(l:List Ptn)(lo:Int)(hi:Int):FCall Tryz.prog 50 [.c (.lst 2 l.length (elM encPtn zPtn l)),vI lo,vI hi] (.v (vB (within2 l lo hi))):=by
 have ee0:=within2.eq_1 l lo hi
 refine ul Tryz.func50 rfl (fun B hB=>?_)
 refine u0 (u0 ?_)
 exact run_ret (ut _ (by rw [ee0]<;>rfl))
def within3(l:List Prg)(lo:Int)(hi:Int):Bool:=
 ((decide ((l.length:Int)≥lo))&&(decide ((l.length:Int)≤hi)))
theorem within3_c(l:List Prg)(lo:Int)(hi:Int):FCall Tryz.prog 51 [.c (.lst 10 l.length (elM encPrg zPrg l)),vI lo,vI hi] (.v (vB (within3 l lo hi))):=by
 have ee0:=within3.eq_1 l lo hi
 refine ul Tryz.func51 rfl (fun B hB=>?_)
 refine u0 (u0 ?_)
 exact run_ret (ut _ (by rw [ee0]<;>rfl))
def within4(l:List Sub)(lo:Int)(hi:Int):Bool:=
 ((decide ((l.length:Int)≥lo))&&(decide ((l.length:Int)≤hi)))
theorem within4_c(l:List Sub)(lo:Int)(hi:Int):FCall Tryz.prog 52 [.c (.lst 4 l.length (elM encSub zSub l)),vI lo,vI hi] (.v (vB (within4 l lo hi))):=by
 have ee0:=within4.eq_1 l lo hi
 refine ul Tryz.func52 rfl (fun B hB=>?_)
 refine u0 (u0 ?_)
 exact run_ret (ut _ (by rw [ee0]<;>rfl))
def Valid_b4_r(w:Wd)(lx1:Unit)(lx2:Unit)(lx3:Unit)(lx4:Unit):Bool:=
 (((((((((Dif.diff1 w.telescopes)&&(Dif.diff2 w.partners))&&(Dif.diff3 w.programmes))&&(Flw.Valid w.fast))&&(decide (w.budget≥0)))&&(decide (w.budget≤10000)))&&(Noi.Valid w.tape))&&(decide (w.limit≥100)))&&(decide (w.limit≤900)))
def Valid_b4(w:Wd)(lx1:Unit)(lx2:Unit)(lx3:Unit)(li4:Nat)(lx4:Unit):Fl Unit Bool:=
 (bif ((!(Flt.Valid (w.subs.getD li4 zSub)))||(decide (((w.subs.getD li4 zSub).prog)≥(w.programmes.length:Int)))) then .rt false else .nx ())
def Valid_b4_s(w:Wd)(lx1:Unit)(lx2:Unit)(lx3:Unit)(li4:Nat)(qv:Int)(lx4:Unit):S:=mkS 156 [(1,.b (.v (.c (.kptr (encWd w) 0)))),(94,.b (.v (.c (.lst 4 w.subs.length (elM encSub zSub w.subs))))),(95,.b (.v (vI (w.subs.length:Int)))),(96,.b (.v (vI qv)))] []
def Valid_b3_r(w:Wd)(lx1:Unit)(lx2:Unit)(lx3:Unit):Bool:=
 (runL (Valid_b4 w lx1 lx2 lx3) w.subs.length 0 ()).fin (Valid_b4_r w lx1 lx2 lx3)
def Valid_b3(w:Wd)(lx1:Unit)(lx2:Unit)(li3:Nat)(lx3:Unit):Fl Unit Bool:=
 (bif ((!(Prg.Valid (w.programmes.getD li3 zPrg)))||(decide (((w.programmes.getD li3 zPrg).partner)≥(w.partners.length:Int)))) then .rt false else .nx ())
def Valid_b3_s(w:Wd)(lx1:Unit)(lx2:Unit)(li3:Nat)(qv:Int)(lx3:Unit):S:=mkS 156 [(1,.b (.v (.c (.kptr (encWd w) 0)))),(75,.b (.v (.c (.lst 10 w.programmes.length (elM encPrg zPrg w.programmes))))),(76,.b (.v (vI (w.programmes.length:Int)))),(77,.b (.v (vI qv)))] []
def Valid_b2_r(w:Wd)(lx1:Unit)(lx2:Unit):Bool:=
 (runL (Valid_b3 w lx1 lx2) w.programmes.length 0 ()).fin (Valid_b3_r w lx1 lx2)
def Valid_b2(w:Wd)(lx1:Unit)(li2:Nat)(lx2:Unit):Fl Unit Bool:=
 (bif (((!(identifier ((w.partners.getD li2 zPtn).id)))||(decide (((w.partners.getD li2 zPtn).share)<1)))||(decide (((w.partners.getD li2 zPtn).share)>1000))) then .rt false else .nx ())
def Valid_b2_s(w:Wd)(lx1:Unit)(li2:Nat)(qv:Int)(lx2:Unit):S:=mkS 156 [(1,.b (.v (.c (.kptr (encWd w) 0)))),(53,.b (.v (.c (.lst 2 w.partners.length (elM encPtn zPtn w.partners))))),(54,.b (.v (vI (w.partners.length:Int)))),(55,.b (.v (vI qv)))] []
def Valid_b1_r(w:Wd)(lx1:Unit):Bool:=
 (runL (Valid_b2 w lx1) w.partners.length 0 ()).fin (Valid_b2_r w lx1)
def Valid_b1(w:Wd)(li1:Nat)(lx1:Unit):Fl Unit Bool:=
 (bif ((!(Rig.Valid (w.telescopes.getD li1 zTel) (⟨0,0,false⟩:Rg)))||(!(Det.Valid ((w.telescopes.getD li1 zTel).det)))) then .rt false else .nx ())
def Valid_b1_s(w:Wd)(li1:Nat)(qv:Int)(lx1:Unit):S:=mkS 156 [(1,.b (.v (.c (.kptr (encWd w) 0)))),(35,.b (.v (.c (.lst 9 w.telescopes.length (elM encTel zTel w.telescopes))))),(36,.b (.v (vI (w.telescopes.length:Int)))),(37,.b (.v (vI qv)))] []
def Valid(w:Wd):Bool:=
 (bif ((((!(within1 w.telescopes 1 6))||(!(within2 w.partners 1 16)))||(!(within3 w.programmes 1 64)))||(!(within4 w.subs 0 64))) then false else (runL (Valid_b1 w) w.telescopes.length 0 ()).fin (Valid_b1_r w))
theorem Valid_c(w:Wd):FCall Tryz.prog 16 [.agg (encWd w)] (.v (vB (Valid w))):=by
 have ee0:=Valid.eq_1 w
 refine ul Tryz.func16 rfl (fun B hB=>?_)
 refine uq [(0,.imm)] [] ?_
 have cc1:=within1_c w.telescopes 1 6
 have cc2:=within2_c w.partners 1 16
 have cc3:=within3_c w.programmes 1 64
 have cc4:=within4_c w.subs 0 64
 refine uq [(2,hcon cc1),(7,hcon cc2),(13,hcon cc3),(19,hcon cc4)] [pu cc1,pu cc2,pu cc3,pu cc4] ?_
 refine ud ee0 (fun hh1 ee1=>?_) (fun hh1 ee2=>?_)
 ·refine u0 ?_
  exact run_ret (ut _ (by rw [ee1]<;>rfl))
 ·refine u0 ?_
  refine uR 0 (.agg (encWd w)) (fun hR=>?_)
  have hL4:w.telescopes.length≤9223372036854775807:=Real.len (hR 0 (Nat.le_of_ble_eq_true rfl))
  refine uF w.telescopes.length (Valid_b1_s w) (Valid_b1 w) (fun _ _=>True) () rfl [1,35,36,37] [] trivial (fun li1 lx1 hi1 hJ1 hr1=>?_) (fun lx1 hJ1 hr1=>?_)
  ·have ee19:=Valid_b1.eq_1 w li1 lx1
   refine uq [] [ub (li1:Int) w.telescopes.length] ?_
   have cc13:=Rig.Valid_c (w.telescopes.getD li1 zTel) (⟨0,0,false⟩:Rg)
   have cc14:=Det.Valid_c ((w.telescopes.getD li1 zTel).det)
   refine uq [(2,hcon cc13),(7,hcon cc14)] [pu cc13,pu cc14] ?_
   refine ud ee19 (fun hh5 ee20=>?_) (fun hh5 ee22=>?_)
   ·refine u0 ?_
    have ee21:=fin_rt ee2 hr1 hi1 ee20
    exact run_ret (ut _ (by rw [ee21]<;>rfl))
   ·exact run_nil (uN (Valid_b1_s w) () hi1 [1,35,36,37] [4] (trivial) ee22)
  ·have ee3:=(fin_nx ee2 hr1).trans (Valid_b1_r.eq_1 w lx1)
   refine u0 ?_
   refine uR 1 (.c (.kptr (encWd w) 0)) (fun hR=>?_)
   have hL3:w.partners.length≤9223372036854775807:=Real.len (Real.at hR 1 (Nat.le_of_ble_eq_true rfl))
   refine uF w.partners.length (Valid_b2_s w lx1) (Valid_b2 w lx1) (fun _ _=>True) () rfl [1,53,54,55] [] trivial (fun li2 lx2 hi2 hJ2 hr2=>?_) (fun lx2 hJ2 hr2=>?_)
   ·have ee15:=Valid_b2.eq_1 w lx1 li2 lx2
    refine uq [] [ub (li2:Int) w.partners.length] ?_
    have cc12:=identifier_c ((w.partners.getD li2 zPtn).id)
    refine us 2 cc12 ?_
    refine ud ee15 (fun hh4 ee16=>?_) (fun hh4 ee18=>?_)
    ·refine u0 ?_
     have ee17:=fin_rt ee3 hr2 hi2 ee16
     exact run_ret (ut _ (by rw [ee17]<;>rfl))
    ·exact run_nil (uN (Valid_b2_s w lx1) () hi2 [1,53,54,55] [6] (trivial) ee18)
   ·have ee4:=(fin_nx ee3 hr2).trans (Valid_b2_r.eq_1 w lx1 lx2)
    refine u0 ?_
    refine uR 1 (.c (.kptr (encWd w) 0)) (fun hR=>?_)
    have hL2:w.programmes.length≤9223372036854775807:=Real.len (Real.at hR 2 (Nat.le_of_ble_eq_true rfl))
    refine uF w.programmes.length (Valid_b3_s w lx1 lx2) (Valid_b3 w lx1 lx2) (fun _ _=>True) () rfl [1,75,76,77] [] trivial (fun li3 lx3 hi3 hJ3 hr3=>?_) (fun lx3 hJ3 hr3=>?_)
    ·have ee11:=Valid_b3.eq_1 w lx1 lx2 li3 lx3
     refine uq [] [ub (li3:Int) w.programmes.length] ?_
     have cc11:=Prg.Valid_c (w.programmes.getD li3 zPrg)
     refine us 1 cc11 ?_
     refine ud ee11 (fun hh3 ee12=>?_) (fun hh3 ee14=>?_)
     ·refine u0 ?_
      have ee13:=fin_rt ee4 hr3 hi3 ee12
      exact run_ret (ut _ (by rw [ee13]<;>rfl))
     ·exact run_nil (uN (Valid_b3_s w lx1 lx2) () hi3 [1,75,76,77] [8] (trivial) ee14)
    ·have ee5:=(fin_nx ee4 hr3).trans (Valid_b3_r.eq_1 w lx1 lx2 lx3)
     refine u0 ?_
     refine uR 1 (.c (.kptr (encWd w) 0)) (fun hR=>?_)
     have hL1:w.subs.length≤9223372036854775807:=Real.len (Real.at hR 7 (Nat.le_of_ble_eq_true rfl))
     refine uF w.subs.length (Valid_b4_s w lx1 lx2 lx3) (Valid_b4 w lx1 lx2 lx3) (fun _ _=>True) () rfl [1,94,95,96] [] trivial (fun li4 lx4 hi4 hJ4 hr4=>?_) (fun lx4 hJ4 hr4=>?_)
     ·have ee7:=Valid_b4.eq_1 w lx1 lx2 lx3 li4 lx4
      refine uq [] [ub (li4:Int) w.subs.length] ?_
      have cc10:=Flt.Valid_c (w.subs.getD li4 zSub)
      refine us 1 cc10 ?_
      refine ud ee7 (fun hh2 ee8=>?_) (fun hh2 ee10=>?_)
      ·refine u0 ?_
       have ee9:=fin_rt ee5 hr4 hi4 ee8
       exact run_ret (ut _ (by rw [ee9]<;>rfl))
      ·exact run_nil (uN (Valid_b4_s w lx1 lx2 lx3) () hi4 [1,94,95,96] [10] (trivial) ee10)
     ·have ee6:=(fin_nx ee5 hr4).trans (Valid_b4_r.eq_1 w lx1 lx2 lx3 lx4)
      have cc5:=Dif.diff1_c w.telescopes
      have cc6:=Dif.diff2_c w.partners
      have cc7:=Dif.diff3_c w.programmes
      refine uq [(2,hcon cc5),(6,hcon cc6),(11,hcon cc7)] [pu cc5,pu cc6,pu cc7] ?_
      have cc8:=Flw.Valid_c w.fast
      have cc9:=Noi.Valid_c w.tape
      refine uq [(4,hcon cc8),(19,hcon cc9)] [pu cc8,pu cc9] ?_
      exact run_ret (ut _ (by rw [ee6]<;>rfl))
def open__b1_r(w:Wd)(l:List Fol)(lx1:Unit):Bool:=
 ((decide ((l.length:Int)≤200))&&(Dif.diff4 l))
def open__b1(w:Wd)(l:List Fol)(li1:Nat)(lx1:Unit):Fl Unit Bool:=
 (bif ((((((((decide (((l.getD li1 zFol).prog)<0))||(decide (((l.getD li1 zFol).prog)≥(w.programmes.length:Int))))||(decide (((l.getD li1 zFol).tile)<0)))||(decide (((l.getD li1 zFol).tile)≥512)))||(decide (((l.getD li1 zFol).filter)<0)))||(decide (((l.getD li1 zFol).filter)≥8)))||(!(moment ((l.getD li1 zFol).til))))||(decide (((l.getD li1 zFol).foreign)<(-1)))) then .rt false else .nx ())
def open__b1_s(w:Wd)(l:List Fol)(li1:Nat)(qv:Int)(lx1:Unit):S:=mkS 63 [(1,.b (.v (.c (.lst 5 l.length (elM encFol zFol l))))),(2,.b (.v (.c (.kptr (encWd w) 0)))),(7,.b (.v (.c (.lst 5 l.length (elM encFol zFol l))))),(8,.b (.v (vI (l.length:Int)))),(9,.b (.v (vI qv)))] []
def open_(w:Wd)(l:List Fol):Bool:=
 (runL (open__b1 w l) l.length 0 ()).fin (open__b1_r w l)
theorem open__c(w:Wd)(l:List Fol):FCall Tryz.prog 114 [.agg (encWd w),.c (.lst 5 l.length (elM encFol zFol l))] (.v (vB (open_ w l))):=by
 have ee0:=open_.eq_1 w l
 refine ul Tryz.func114 rfl (fun B hB=>?_)
 refine uq [(0,.imm)] [] ?_
 refine u0 ?_
 refine uS 1 5 l.length (elM encFol zFol l) (fun hL1=>?_)
 refine uF l.length (open__b1_s w l) (open__b1 w l) (fun _ _=>True) () rfl [1,2,7,8,9] [] trivial (fun li1 lx1 hi1 hJ1 hr1=>?_) (fun lx1 hJ1 hr1=>?_)
 ·have ee2:=open__b1.eq_1 w l li1 lx1
  refine uq [] [ub (li1:Int) l.length] ?_
  have cc2:=moment_c ((l.getD li1 zFol).til)
  refine us 34 cc2 ?_
  refine ud ee2 (fun hh1 ee3=>?_) (fun hh1 ee5=>?_)
  ·refine u0 ?_
   have ee4:=fin_rt ee0 hr1 hi1 ee3
   exact run_ret (ut _ (by rw [ee4]<;>rfl))
  ·exact run_nil (uN (open__b1_s w l) () hi1 [1,2,7,8,9] [6] (trivial) ee5)
 ·have ee1:=(fin_nx ee0 hr1).trans (open__b1_r.eq_1 w l lx1)
  have cc1:=Dif.diff4_c l
  refine us 5 cc1 ?_
  exact run_ret (ut _ (by rw [ee1]<;>rfl))
def fits_b2_r(w:Wd)(s:Sta)(lx1:Unit)(lx2:Unit):Bool:=
 (((Bal.Valid (shares w) s.used)&&(open_ w s.opn))&&(((Cfm.Confirmed s.tallies 1).2)==0))
def fits_b3_r(w:Wd)(s:Sta)(lx1:Unit)(li2:Nat)(lx2:Unit)(lx3:Unit):Fl Unit Bool:=
 .nx ()
def fits_b3(w:Wd)(s:Sta)(lx1:Unit)(li2:Nat)(lx2:Unit)(li3:Nat)(lx3:Unit):Fl Unit (Fl Unit Bool):=
 (bif ((Cad.Ready ((w.programmes.getD li2 zPrg).seq) ((s.courses.getD li2 []).getD li3 zCs) 0)==1) then .rt (.rt false) else .nx ())
def fits_b3_s(w:Wd)(s:Sta)(lx1:Unit)(li2:Nat)(lx2:Unit)(li3:Nat)(qv:Int)(lx3:Unit):S:=mkS 148 [(2,.b (.v (.c (.kptr (encWd w) 0)))),(3,.b (.v (.c (.kptr (encSta s) 0)))),(8,.b (.v (.c (.ptr 8 0)))),(93,.b (.v (.c (.lst 10 w.programmes.length (elM encPrg zPrg w.programmes))))),(94,.b (.v (vI (w.programmes.length:Int)))),(95,.b (.v (vI (li2:Int)))),(114,.b (.v (.c (.lst 4 ((s.courses.getD li2 []).length) (elM encCs zCs (s.courses.getD li2 [])))))),(115,.b (.v (vI ((s.courses.getD li2 []).length:Int)))),(116,.b (.v (vI qv)))] [(8,.cells (encPrg (w.programmes.getD li2 zPrg)))]
def fits_b2(w:Wd)(s:Sta)(lx1:Unit)(li2:Nat)(lx2:Unit):Fl Unit Bool:=
 (bif (((s.courses.getD li2 []).length:Int) != (((w.programmes.getD li2 zPrg).tiles).length:Int)) then .rt false else (runL (fits_b3 w s lx1 li2 lx2) ((s.courses.getD li2 []).length) 0 ()).fin (fits_b3_r w s lx1 li2 lx2))
def fits_b2_s(w:Wd)(s:Sta)(lx1:Unit)(li2:Nat)(qv:Int)(lx2:Unit):S:=mkS 148 [(2,.b (.v (.c (.kptr (encWd w) 0)))),(3,.b (.v (.c (.kptr (encSta s) 0)))),(93,.b (.v (.c (.lst 10 w.programmes.length (elM encPrg zPrg w.programmes))))),(94,.b (.v (vI (w.programmes.length:Int)))),(95,.b (.v (vI qv)))] []
def fits_b1_r(w:Wd)(s:Sta)(lx1:Unit):Bool:=
 (runL (fits_b2 w s lx1) w.programmes.length 0 ()).fin (fits_b2_r w s lx1)
def fits_b1(w:Wd)(s:Sta)(li1:Nat)(lx1:Unit):Fl Unit Bool:=
 (bif (((!(Rig.Valid (w.telescopes.getD li1 zTel) (s.rigs.getD li1 zRg)))||(decide ((Noi.sMin [(s.ghosts.getD li1 zPx).c0,(s.ghosts.getD li1 zPx).c1,(s.ghosts.getD li1 zPx).c2,(s.ghosts.getD li1 zPx).c3])<0)))||(decide ((Noi.sMax [(s.ghosts.getD li1 zPx).c0,(s.ghosts.getD li1 zPx).c1,(s.ghosts.getD li1 zPx).c2,(s.ghosts.getD li1 zPx).c3])>1000000))) then .rt false else .nx ())
def fits_b1_s(w:Wd)(s:Sta)(li1:Nat)(qv:Int)(lx1:Unit):S:=mkS 148 [(2,.b (.v (.c (.kptr (encWd w) 0)))),(3,.b (.v (.c (.kptr (encSta s) 0)))),(58,.b (.v (.c (.lst 9 w.telescopes.length (elM encTel zTel w.telescopes))))),(59,.b (.v (vI (w.telescopes.length:Int)))),(60,.b (.v (vI qv)))] []
def fits(w:Wd)(s:Sta):Bool:=
 (bif ((((((!(moment s.mom))||(decide (s.turn<0)))||(decide (s.turn≥(w.telescopes.length:Int))))||((s.rigs.length:Int) != (w.telescopes.length:Int)))||((s.ghosts.length:Int) != (w.telescopes.length:Int)))||((s.courses.length:Int) != (w.programmes.length:Int))) then false else (runL (fits_b1 w s) w.telescopes.length 0 ()).fin (fits_b1_r w s))
theorem fits_c(w:Wd)(s:Sta)(hp:w.partners.length≤1000):FCall Tryz.prog 38 [.agg (encWd w),.agg (encSta s)] (.v (vB (fits w s))):=by
 have ee0:=fits.eq_1 w s
 refine ul Tryz.func38 rfl (fun B hB=>?_)
 refine uq [(0,.imm),(1,.imm)] [] ?_
 have cc1:=moment_c s.mom
 refine us 2 cc1 ?_
 refine ud ee0 (fun hh1 ee1=>?_) (fun hh1 ee2=>?_)
 ·refine u0 ?_
  exact run_ret (ut _ (by rw [ee1]<;>rfl))
 ·refine u0 ?_
  refine uR 0 (.agg (encWd w)) (fun hR=>?_)
  have hL3:w.telescopes.length≤9223372036854775807:=Real.len (hR 0 (Nat.le_of_ble_eq_true rfl))
  refine uF w.telescopes.length (fits_b1_s w s) (fits_b1 w s) (fun _ _=>True) () rfl [2,3,58,59,60] [] trivial (fun li1 lx1 hi1 hJ1 hr1=>?_) (fun lx1 hJ1 hr1=>?_)
  ·have ee15:=fits_b1.eq_1 w s li1 lx1
   refine uq [] [ub (li1:Int) w.telescopes.length] ?_
   have cc7:=Rig.Valid_c (w.telescopes.getD li1 zTel) (s.rigs.getD li1 zRg)
   have cc8:FCall Tryz.prog 110 [.c (.lst 1 4 (fun i=>sub ((elM encPx zPx s.ghosts) li1) (0+i*1) 1))] (.v (vI (Noi.sMin [(s.ghosts.getD li1 zPx).c0,(s.ghosts.getD li1 zPx).c1,(s.ghosts.getD li1 zPx).c2,(s.ghosts.getD li1 zPx).c3]))):=(Noi.sMin_c [(s.ghosts.getD li1 zPx).c0,(s.ghosts.getD li1 zPx).c1,(s.ghosts.getD li1 zPx).c2,(s.ghosts.getD li1 zPx).c3] vo).of_le ⟨CVle.lst (fun i hi=>by match i,hi with | 0,_=>rfl | 1,_=>rfl | 2,_=>rfl | 3,_=>rfl),trivial⟩
   have cc9:FCall Tryz.prog 83 [.c (.lst 1 4 (fun i=>sub ((elM encPx zPx s.ghosts) li1) (0+i*1) 1))] (.v (vI (Noi.sMax [(s.ghosts.getD li1 zPx).c0,(s.ghosts.getD li1 zPx).c1,(s.ghosts.getD li1 zPx).c2,(s.ghosts.getD li1 zPx).c3]))):=(Noi.sMax_c [(s.ghosts.getD li1 zPx).c0,(s.ghosts.getD li1 zPx).c1,(s.ghosts.getD li1 zPx).c2,(s.ghosts.getD li1 zPx).c3] vo).of_le ⟨CVle.lst (fun i hi=>by match i,hi with | 0,_=>rfl | 1,_=>rfl | 2,_=>rfl | 3,_=>rfl),trivial⟩
   refine uq [(6,hcon cc7),(14,hcon cc8),(23,hcon cc9)] [ub (li1:Int) s.rigs.length,pu cc7,uh (!(!(Rig.Valid (w.telescopes.getD li1 zTel) (s.rigs.getD li1 zRg)))) (li1:Int) s.ghosts.length,pu cc8,uh (!((!(Rig.Valid (w.telescopes.getD li1 zTel) (s.rigs.getD li1 zRg)))||(decide ((Noi.sMin [(s.ghosts.getD li1 zPx).c0,(s.ghosts.getD li1 zPx).c1,(s.ghosts.getD li1 zPx).c2,(s.ghosts.getD li1 zPx).c3])<0)))) (li1:Int) s.ghosts.length,pu cc9] ?_
   refine ud ee15 (fun hh4 ee16=>?_) (fun hh4 ee18=>?_)
   ·refine u0 ?_
    have ee17:=fin_rt ee2 hr1 hi1 ee16
    exact run_ret (ut _ (by rw [ee17]<;>rfl))
   ·exact run_nil (uN (fits_b1_s w s) () hi1 [2,3,58,59,60] [6] (trivial) ee18)
  ·have ee3:=(fin_nx ee2 hr1).trans (fits_b1_r.eq_1 w s lx1)
   refine u0 ?_
   refine uR 2 (.c (.kptr (encWd w) 0)) (fun hR=>?_)
   have hL2:w.programmes.length≤9223372036854775807:=Real.len (Real.at hR 2 (Nat.le_of_ble_eq_true rfl))
   refine uF w.programmes.length (fits_b2_s w s lx1) (fits_b2 w s lx1) (fun _ _=>True) () rfl [2,3,93,94,95] [] trivial (fun li2 lx2 hi2 hJ2 hr2=>?_) (fun lx2 hJ2 hr2=>?_)
   ·have ee5:=fits_b2.eq_1 w s lx1 li2 lx2
    refine uq [] [ub (li2:Int) w.programmes.length] ?_
    refine uq [] [ub (li2:Int) s.courses.length] ?_
    refine ud ee5 (fun hh2 ee6=>?_) (fun hh2 ee8=>?_)
    ·refine u0 ?_
     have ee7:=fin_rt ee3 hr2 hi2 ee6
     exact run_ret (ut _ (by rw [ee7]<;>rfl))
    ·refine uq [] [ub (li2:Int) s.courses.length] ?_
     refine uR 103 (.c (.kel 1 s.courses.length (elM (Sym.encL 4 encCs zCs) [] s.courses) li2 0)) (fun hR=>?_)
     have hL1:(s.courses.getD li2 []).length≤9223372036854775807:=Real.len (Real.kel hR 0 om)
     refine uF ((s.courses.getD li2 []).length) (fits_b3_s w s lx1 li2 lx2) (fits_b3 w s lx1 li2 lx2) (fun _ _=>True) () rfl [2,3,8,93,94,95,114,115,116] [] trivial (fun li3 lx3 hi3 hJ3 hr3=>?_) (fun lx3 hJ3 hr3=>?_)
     ·have ee10:=fits_b3.eq_1 w s lx1 li2 lx2 li3 lx3
      refine uq [] [ub (li3:Int) (s.courses.getD li2 []).length] ?_
      have cc6:=Cad.Ready_c ((w.programmes.getD li2 zPrg).seq) ((s.courses.getD li2 []).getD li3 zCs) 0
      refine us 3 cc6 ?_
      refine ud ee10 (fun hh3 ee11=>?_) (fun hh3 ee14=>?_)
      ·refine u0 ?_
       have ee12:=fin_rt ee8 hr3 hi3 ee11
       have ee13:=fin_rt ee3 hr2 hi2 ee12
       exact run_ret (ut _ (by rw [ee13]<;>rfl))
      ·exact run_nil (uN (fits_b3_s w s lx1 li2 lx2) () hi3 [2,3,8,93,94,95,114,115,116] [10] (trivial) ee14)
     ·have ee9:=(fin_nx ee8 hr3).trans (fits_b3_r.eq_1 w s lx1 li2 lx2 lx3)
      exact run_nil (uN (fits_b2_s w s lx1) () hi2 [2,3,93,94,95] [8] (trivial) ee9)
   ·have ee4:=(fin_nx ee3 hr2).trans (fits_b2_r.eq_1 w s lx1 lx2)
    have cc2:=Cfm.Confirmed_c s.tallies 1
    refine us 2 cc2 ?_
    have cc3:=shares_c w vo
    have cc4:=Bal.Valid_c (shares w) s.used
    have cc5:=open__c w s.opn
    refine uq [(1,hcon cc3),(4,hcon cc4),(9,hcon cc5)] [pu cc3,pu cc4,pu cc5] ?_
    exact run_ret (ut _ (by rw [ee4]<;>rfl))
end Go.Proofs.YtidbmbpeblmliaaGreatDoor.Fea
namespace Go.Proofs.YtidbmbpeblmliaaGreatDoor.Slo
open Go.Sym Go.Proofs.YtidbmbpeblmliaaGreatDoor
def runs(x:Slt)(r:Rq)(c:Cs):Int:=
 (bif ((decide (x.s.mom<((x.w.programmes.getD r.prog.toNat zPrg).frm)))||(decide (x.s.mom>((x.w.programmes.getD r.prog.toNat zPrg).til)))) then 11 else 0)
theorem runs_c(x:Slt)(r:Rq)(c:Cs)(hr:0≤r.prog∧r.prog<x.w.programmes.length):FCall Tryz.prog 124 [.c (.kptr (encSlt x) 0),.agg (encRq r),.agg (encCs c)] (.v (vI (runs x r c))):=by
 have ee0:=runs.eq_1 x r c
 refine ul Tryz.func124 rfl (fun B hB=>?_)
 refine uq [(0,.imm),(1,.imm)] [] ?_
 refine uq [] [ub r.prog x.w.programmes.length] ?_
 refine u0 ?_
 refine ud ee0 (fun hh1 ee1=>?_) (fun hh1 ee2=>?_)
 ·refine u0 ?_
  exact run_ret (ut _ (by rw [ee1]<;>rfl))
 ·refine u0 ?_
  exact run_ret (ut _ (by rw [ee2]<;>rfl))
def ready(x:Slt)(r:Rq)(c:Cs):Int:=
 (bif r.alert then 0 else (Cad.Ready ((x.w.programmes.getD r.prog.toNat zPrg).seq) c x.s.mom))
theorem ready_c(x:Slt)(r:Rq)(c:Cs)(hr:0≤r.prog∧r.prog<x.w.programmes.length):FCall Tryz.prog 125 [.c (.kptr (encSlt x) 0),.agg (encRq r),.agg (encCs c)] (.v (vI (ready x r c))):=by
 have ee0:=ready.eq_1 x r c
 refine ul Tryz.func125 rfl (fun B hB=>?_)
 refine uq [(0,.imm),(1,.imm)] [] ?_
 refine u0 ?_
 refine ud ee0 (fun hh1 ee1=>?_) (fun hh1 ee2=>?_)
 ·refine u0 ?_
  exact run_ret (ut _ (by rw [ee1]<;>rfl))
 ·have cc1:=Cad.Ready_c ((x.w.programmes.getD r.prog.toNat zPrg).seq) c x.s.mom
  refine uq [(16,hcon cc1)] [ub r.prog x.w.programmes.length,pu cc1] ?_
  exact run_ret (ut _ (by rw [ee2]<;>rfl))
def mounted(x:Slt)(r:Rq)(c:Cs):Int:=
 (bif (decide (r.filter≥((x.w.telescopes.getD x.t.toNat zTel).filters))) then 9 else 0)
theorem mounted_c(x:Slt)(r:Rq)(c:Cs)(ht:0≤x.t∧x.t<x.w.telescopes.length):FCall Tryz.prog 126 [.c (.kptr (encSlt x) 0),.agg (encRq r),.agg (encCs c)] (.v (vI (mounted x r c))):=by
 have ee0:=mounted.eq_1 x r c
 refine ul Tryz.func126 rfl (fun B hB=>?_)
 refine uq [(0,.imm),(1,.imm)] [] ?_
 refine uq [] [ub x.t x.w.telescopes.length] ?_
 refine ud ee0 (fun hh1 ee1=>?_) (fun hh1 ee2=>?_)
 ·refine u0 ?_
  exact run_ret (ut _ (by rw [ee1]<;>rfl))
 ·refine u0 ?_
  exact run_ret (ut _ (by rw [ee2]<;>rfl))
def permitted(x:Slt)(r:Rq)(c:Cs):Int:=
 (Ovr.Judge x.script.overrides x.t r.prog r.tile x.s.mom)
theorem permitted_c(x:Slt)(r:Rq)(c:Cs):FCall Tryz.prog 127 [.c (.kptr (encSlt x) 0),.agg (encRq r),.agg (encCs c)] (.v (vI (permitted x r c))):=by
 have ee0:=permitted.eq_1 x r c
 refine ul Tryz.func127 rfl (fun B hB=>?_)
 refine uq [(0,.imm),(1,.imm)] [] ?_
 have cc1:=Ovr.Judge_c x.script.overrides x.t r.prog r.tile x.s.mom
 refine us 18 cc1 ?_
 exact run_ret (ut _ (by rw [ee0]<;>rfl))
def dry(x:Slt)(r:Rq)(c:Cs):Int:=
 (bif (!x.sky.opn) then 18 else 0)
theorem dry_c(x:Slt)(r:Rq)(c:Cs):FCall Tryz.prog 128 [.c (.kptr (encSlt x) 0),.agg (encRq r),.agg (encCs c)] (.v (vI (dry x r c))):=by
 have ee0:=dry.eq_1 x r c
 refine ul Tryz.func128 rfl (fun B hB=>?_)
 refine uq [(0,.imm),(1,.imm)] [] ?_
 refine u0 ?_
 refine ud ee0 (fun hh1 ee1=>?_) (fun hh1 ee2=>?_)
 ·refine u0 ?_
  exact run_ret (ut _ (by rw [ee1]<;>rfl))
 ·refine u0 ?_
  exact run_ret (ut _ (by rw [ee2]<;>rfl))
def height(x:Slt)(tile:Int):Int:=
 (Air.Height ((x.w.telescopes.getD x.t.toNat zTel).site) tile x.s.mom).1
theorem height_c(x:Slt)(tile:Int)(ht:0≤x.t∧x.t<x.w.telescopes.length):FCall Tryz.prog 132 [.c (.kptr (encSlt x) 0),vI tile] (.v (vI (height x tile))):=by
 have ee0:=height.eq_1 x tile
 refine ul Tryz.func132 rfl (fun B hB=>?_)
 refine u0 ?_
 have cc1:=Air.Height_c ((x.w.telescopes.getD x.t.toNat zTel).site) tile x.s.mom
 refine uq [(18,hcon cc1)] [ub x.t x.w.telescopes.length,pu cc1] ?_
 refine u0 ?_
 exact run_ret (ut _ (by rw [ee0]<;>rfl))
def high(x:Slt)(r:Rq)(c:Cs):Int:=
 (bif (decide ((height x r.tile)<x.w.limit)) then 19 else 0)
theorem high_c(x:Slt)(r:Rq)(c:Cs)(ht:0≤x.t∧x.t<x.w.telescopes.length):FCall Tryz.prog 129 [.c (.kptr (encSlt x) 0),.agg (encRq r),.agg (encCs c)] (.v (vI (high x r c))):=by
 have ee0:=high.eq_1 x r c
 refine ul Tryz.func129 rfl (fun B hB=>?_)
 refine uq [(0,.imm),(1,.imm)] [] ?_
 have cc1:=height_c x r.tile (by assumption)
 refine us 3 cc1 ?_
 refine ud ee0 (fun hh1 ee1=>?_) (fun hh1 ee2=>?_)
 ·refine u0 ?_
  exact run_ret (ut _ (by rw [ee1]<;>rfl))
 ·refine u0 ?_
  exact run_ret (ut _ (by rw [ee2]<;>rfl))
def prepared(x:Slt)(r:Rq)(c:Cs):Int:=
 (Rig.Prepare (x.w.telescopes.getD x.t.toNat zTel) x.rig (r.tile.tmod 32) r.filter).2.2
theorem prepared_c(x:Slt)(r:Rq)(c:Cs)(ht:0≤x.t∧x.t<x.w.telescopes.length):FCall Tryz.prog 130 [.c (.kptr (encSlt x) 0),.agg (encRq r),.agg (encCs c)] (.v (vI (prepared x r c))):=by
 have ee0:=prepared.eq_1 x r c
 refine ul Tryz.func130 rfl (fun B hB=>?_)
 refine uq [(0,.imm),(1,.imm)] [] ?_
 have cc1:=Rig.Prepare_c (x.w.telescopes.getD x.t.toNat zTel) x.rig (r.tile.tmod 32) r.filter
 refine uq [(20,hcon cc1)] [ub x.t x.w.telescopes.length,uo ((32 :Int)≠0),pu cc1] ?_
 refine u0 ?_
 exact run_ret (ut _ (by rw [ee0]<;>rfl))
def judge(x:Slt)(r:Rq)(c:Cs):Int:=
 (bif ((runs x r c) != 0) then (runs x r c) else (bif ((ready x r c) != 0) then (ready x r c) else (bif ((mounted x r c) != 0) then (mounted x r c) else (bif ((permitted x r c) != 0) then (permitted x r c) else (bif ((dry x r c) != 0) then (dry x r c) else (bif ((high x r c) != 0) then (high x r c) else (bif ((prepared x r c) != 0) then (prepared x r c) else 0)))))))
theorem judge_c(x:Slt)(r:Rq)(c:Cs)(hr:0≤r.prog∧r.prog<x.w.programmes.length)(ht:0≤x.t∧x.t<x.w.telescopes.length):FCall Tryz.prog 43 [.c (.kptr (encSlt x) 0),.agg (encRq r),.agg (encCs c)] (.v (vI (judge x r c))):=by
 have ee0:=judge.eq_1 x r c
 refine ul Tryz.func43 rfl (fun B hB=>?_)
 refine uq [(0,.imm),(1,.imm)] [] ?_
 refine uq [(14,.frz 7 (fun i=>([[.meth 124 [.kptr (encSlt x) 0]],[.meth 125 [.kptr (encSlt x) 0]],[.meth 126 [.kptr (encSlt x) 0]],[.meth 127 [.kptr (encSlt x) 0]],[.meth 128 [.kptr (encSlt x) 0]],[.meth 129 [.kptr (encSlt x) 0]],[.meth 130 [.kptr (encSlt x) 0]]]:List (List C)).getD i []))] [@pu (7=7∧∀ i,i<7→(fun i=>([[.meth 124 [.kptr (encSlt x) 0]],[.meth 125 [.kptr (encSlt x) 0]],[.meth 126 [.kptr (encSlt x) 0]],[.meth 127 [.kptr (encSlt x) 0]],[.meth 128 [.kptr (encSlt x) 0]],[.meth 129 [.kptr (encSlt x) 0]],[.meth 130 [.kptr (encSlt x) 0]]]:List (List C)).getD i []) i=([[.meth 124 [.kptr (encSlt x) 0]],[.meth 125 [.kptr (encSlt x) 0]],[.meth 126 [.kptr (encSlt x) 0]],[.meth 127 [.kptr (encSlt x) 0]],[.meth 128 [.kptr (encSlt x) 0]],[.meth 129 [.kptr (encSlt x) 0]],[.meth 130 [.kptr (encSlt x) 0]]]:List (List C)).getD i []) (⟨rfl,fun i hi=>rfl⟩)] ?_
 refine u0 ?_
 refine rBlock ?_
 refine rUnroll 8 ?_
 refine unrollS ?_
 refine u0 ?_
 refine rCondT true kr rfl ?_
 refine rBlock ?_
 refine uq [] [ub 0 7] ?_
 have cc1:=runs_c x r c (by assumption)
 refine us 3 cc1 ?_
 refine u0 ?_
 refine ud ee0 (fun hh1 ee1=>?_) (fun hh1 ee2=>?_)
 ·refine u0 ?_
  exact run_ret (blockR_ret (blockR_ret (ut _ (by rw [ee1]<;>rfl))))
 ·refine run_nil (blockR_normal ?_)
  refine u0 ?_
  refine run_nil ?_
  refine unrollS ?_
  refine rTold (mkS 40 [(4,.b (.v (.c (.kptr (encRq r) 0)))),(5,.b (.v (.c (.kptr (encCs c) 0)))),(26,.b (.v (.c (.lst 1 7 (fun i=>([[.meth 124 [.kptr (encSlt x) 0]],[.meth 125 [.kptr (encSlt x) 0]],[.meth 126 [.kptr (encSlt x) 0]],[.meth 127 [.kptr (encSlt x) 0]],[.meth 128 [.kptr (encSlt x) 0]],[.meth 129 [.kptr (encSlt x) 0]],[.meth 130 [.kptr (encSlt x) 0]]]:List (List C)).getD i []))))),(27,.b (.v (vI 7))),(28,.b (.v (vI 1)))] []) [4,5,26,27,28] [] kr ?_ nofun
  refine u0 ?_
  refine rCondT true kr rfl ?_
  refine rBlock ?_
  refine uq [] [ub 1 7] ?_
  have cc2:=ready_c x r c (by assumption)
  refine us 3 cc2 ?_
  refine u0 ?_
  refine ud ee2 (fun hh2 ee3=>?_) (fun hh2 ee4=>?_)
  ·refine u0 ?_
   exact run_ret (blockR_ret (blockR_ret (ut _ (by rw [ee3]<;>rfl))))
  ·refine run_nil (blockR_normal ?_)
   refine u0 ?_
   refine run_nil ?_
   refine unrollS ?_
   refine rTold (mkS 40 [(4,.b (.v (.c (.kptr (encRq r) 0)))),(5,.b (.v (.c (.kptr (encCs c) 0)))),(26,.b (.v (.c (.lst 1 7 (fun i=>([[.meth 124 [.kptr (encSlt x) 0]],[.meth 125 [.kptr (encSlt x) 0]],[.meth 126 [.kptr (encSlt x) 0]],[.meth 127 [.kptr (encSlt x) 0]],[.meth 128 [.kptr (encSlt x) 0]],[.meth 129 [.kptr (encSlt x) 0]],[.meth 130 [.kptr (encSlt x) 0]]]:List (List C)).getD i []))))),(27,.b (.v (vI 7))),(28,.b (.v (vI 2)))] []) [4,5,26,27,28] [] kr ?_ nofun
   refine u0 ?_
   refine rCondT true kr rfl ?_
   refine rBlock ?_
   refine uq [] [ub 2 7] ?_
   have cc3:=mounted_c x r c (by assumption)
   refine us 3 cc3 ?_
   refine u0 ?_
   refine ud ee4 (fun hh3 ee5=>?_) (fun hh3 ee6=>?_)
   ·refine u0 ?_
    exact run_ret (blockR_ret (blockR_ret (ut _ (by rw [ee5]<;>rfl))))
   ·refine run_nil (blockR_normal ?_)
    refine u0 ?_
    refine run_nil ?_
    refine unrollS ?_
    refine rTold (mkS 40 [(4,.b (.v (.c (.kptr (encRq r) 0)))),(5,.b (.v (.c (.kptr (encCs c) 0)))),(26,.b (.v (.c (.lst 1 7 (fun i=>([[.meth 124 [.kptr (encSlt x) 0]],[.meth 125 [.kptr (encSlt x) 0]],[.meth 126 [.kptr (encSlt x) 0]],[.meth 127 [.kptr (encSlt x) 0]],[.meth 128 [.kptr (encSlt x) 0]],[.meth 129 [.kptr (encSlt x) 0]],[.meth 130 [.kptr (encSlt x) 0]]]:List (List C)).getD i []))))),(27,.b (.v (vI 7))),(28,.b (.v (vI 3)))] []) [4,5,26,27,28] [] kr ?_ nofun
    refine u0 ?_
    refine rCondT true kr rfl ?_
    refine rBlock ?_
    refine uq [] [ub 3 7] ?_
    have cc4:=permitted_c x r c
    refine us 3 cc4 ?_
    refine u0 ?_
    refine ud ee6 (fun hh4 ee7=>?_) (fun hh4 ee8=>?_)
    ·refine u0 ?_
     exact run_ret (blockR_ret (blockR_ret (ut _ (by rw [ee7]<;>rfl))))
    ·refine run_nil (blockR_normal ?_)
     refine u0 ?_
     refine run_nil ?_
     refine unrollS ?_
     refine rTold (mkS 40 [(4,.b (.v (.c (.kptr (encRq r) 0)))),(5,.b (.v (.c (.kptr (encCs c) 0)))),(26,.b (.v (.c (.lst 1 7 (fun i=>([[.meth 124 [.kptr (encSlt x) 0]],[.meth 125 [.kptr (encSlt x) 0]],[.meth 126 [.kptr (encSlt x) 0]],[.meth 127 [.kptr (encSlt x) 0]],[.meth 128 [.kptr (encSlt x) 0]],[.meth 129 [.kptr (encSlt x) 0]],[.meth 130 [.kptr (encSlt x) 0]]]:List (List C)).getD i []))))),(27,.b (.v (vI 7))),(28,.b (.v (vI 4)))] []) [4,5,26,27,28] [] kr ?_ nofun
     refine u0 ?_
     refine rCondT true kr rfl ?_
     refine rBlock ?_
     refine uq [] [ub 4 7] ?_
     have cc5:=dry_c x r c
     refine us 3 cc5 ?_
     refine u0 ?_
     refine ud ee8 (fun hh5 ee9=>?_) (fun hh5 ee10=>?_)
     ·refine u0 ?_
      exact run_ret (blockR_ret (blockR_ret (ut _ (by rw [ee9]<;>rfl))))
     ·refine run_nil (blockR_normal ?_)
      refine u0 ?_
      refine run_nil ?_
      refine unrollS ?_
      refine rTold (mkS 40 [(4,.b (.v (.c (.kptr (encRq r) 0)))),(5,.b (.v (.c (.kptr (encCs c) 0)))),(26,.b (.v (.c (.lst 1 7 (fun i=>([[.meth 124 [.kptr (encSlt x) 0]],[.meth 125 [.kptr (encSlt x) 0]],[.meth 126 [.kptr (encSlt x) 0]],[.meth 127 [.kptr (encSlt x) 0]],[.meth 128 [.kptr (encSlt x) 0]],[.meth 129 [.kptr (encSlt x) 0]],[.meth 130 [.kptr (encSlt x) 0]]]:List (List C)).getD i []))))),(27,.b (.v (vI 7))),(28,.b (.v (vI 5)))] []) [4,5,26,27,28] [] kr ?_ nofun
      refine u0 ?_
      refine rCondT true kr rfl ?_
      refine rBlock ?_
      refine uq [] [ub 5 7] ?_
      have cc6:=high_c x r c (by assumption)
      refine us 3 cc6 ?_
      refine u0 ?_
      refine ud ee10 (fun hh6 ee11=>?_) (fun hh6 ee12=>?_)
      ·refine u0 ?_
       exact run_ret (blockR_ret (blockR_ret (ut _ (by rw [ee11]<;>rfl))))
      ·refine run_nil (blockR_normal ?_)
       refine u0 ?_
       refine run_nil ?_
       refine unrollS ?_
       refine rTold (mkS 40 [(4,.b (.v (.c (.kptr (encRq r) 0)))),(5,.b (.v (.c (.kptr (encCs c) 0)))),(26,.b (.v (.c (.lst 1 7 (fun i=>([[.meth 124 [.kptr (encSlt x) 0]],[.meth 125 [.kptr (encSlt x) 0]],[.meth 126 [.kptr (encSlt x) 0]],[.meth 127 [.kptr (encSlt x) 0]],[.meth 128 [.kptr (encSlt x) 0]],[.meth 129 [.kptr (encSlt x) 0]],[.meth 130 [.kptr (encSlt x) 0]]]:List (List C)).getD i []))))),(27,.b (.v (vI 7))),(28,.b (.v (vI 6)))] []) [4,5,26,27,28] [] kr ?_ nofun
       refine u0 ?_
       refine rCondT true kr rfl ?_
       refine rBlock ?_
       refine uq [] [ub 6 7] ?_
       have cc7:=prepared_c x r c (by assumption)
       refine us 3 cc7 ?_
       refine u0 ?_
       refine ud ee12 (fun hh7 ee13=>?_) (fun hh7 ee14=>?_)
       ·refine u0 ?_
        exact run_ret (blockR_ret (blockR_ret (ut _ (by rw [ee13]<;>rfl))))
       ·refine run_nil (blockR_normal ?_)
        refine u0 ?_
        refine run_nil ?_
        refine unrollS ?_
        refine rTold (mkS 40 [(4,.b (.v (.c (.kptr (encRq r) 0)))),(5,.b (.v (.c (.kptr (encCs c) 0)))),(26,.b (.v (.c (.lst 1 7 (fun i=>([[.meth 124 [.kptr (encSlt x) 0]],[.meth 125 [.kptr (encSlt x) 0]],[.meth 126 [.kptr (encSlt x) 0]],[.meth 127 [.kptr (encSlt x) 0]],[.meth 128 [.kptr (encSlt x) 0]],[.meth 129 [.kptr (encSlt x) 0]],[.meth 130 [.kptr (encSlt x) 0]]]:List (List C)).getD i []))))),(27,.b (.v (vI 7))),(28,.b (.v (vI 7)))] []) [4,5,26,27,28] [] kr ?_ nofun
        refine u0 ?_
        refine rCondF false kr rfl ?_
        refine run_exit (blockR_exit ?_)
        refine u0 ?_
        exact run_ret (ut _ (by rw [ee14]<;>rfl))
theorem quarter_bd{t:Int}(h:0≤t∧t<512):0≤IntKind.i64.wrap ((IntKind.i64.wrap ((t.tmod 32)*4)).tdiv 32)∧IntKind.i64.wrap ((IntKind.i64.wrap ((t.tmod 32)*4)).tdiv 32)<4:=by
 rw [Int.tmod_eq_emod_of_nonneg h.1,w64 (t % 32*4) om om,Int.tdiv_eq_ediv_of_nonneg om,w64 (t % 32*4 / 32) om om]
 omega
def worth_k1(x:Slt)(r:Rq)(c:Cs)(jx1:Int):Int:=
 (bif r.alert then (Mer.Clamp (IntKind.i64.wrap ((Mer.Clamp ((Evl.eval ((x.w.programmes.getD r.prog.toNat zPrg).merit) [(⟨(⟨#[97,105,114,109,97,115,115]⟩:BA),(Air.Airmass (height x r.tile)).1⟩:Vr),(⟨(⟨#[99,108,101,97,114]⟩:BA),(x.sky.clear.at ((IntKind.i64.wrap ((IntKind.i64.wrap ((r.tile.tmod 32)*4)).tdiv 32)).toNat))⟩:Vr),(⟨(⟨#[115,101,101,105,110,103]⟩:BA),x.sky.seeing⟩:Vr),(⟨(⟨#[97,103,101]⟩:BA),jx1⟩:Vr),(⟨(⟨#[114,111,117,110,100]⟩:BA),c.round⟩:Vr),(⟨(⟨#[115,116,101,112]⟩:BA),c.next⟩:Vr),(⟨(⟨#[98,97,108,97,110,99,101]⟩:BA),(imin 1000000 (imax (-1000000) ((Bal.Balance (Fea.shares x.w) x.s.used ((x.w.programmes.getD r.prog.toNat zPrg).partner)).1)))⟩:Vr)]).1))+((x.w.programmes.getD r.prog.toNat zPrg).bonus)))) else (Mer.Clamp ((Evl.eval ((x.w.programmes.getD r.prog.toNat zPrg).merit) [(⟨(⟨#[97,105,114,109,97,115,115]⟩:BA),(Air.Airmass (height x r.tile)).1⟩:Vr),(⟨(⟨#[99,108,101,97,114]⟩:BA),(x.sky.clear.at ((IntKind.i64.wrap ((IntKind.i64.wrap ((r.tile.tmod 32)*4)).tdiv 32)).toNat))⟩:Vr),(⟨(⟨#[115,101,101,105,110,103]⟩:BA),x.sky.seeing⟩:Vr),(⟨(⟨#[97,103,101]⟩:BA),jx1⟩:Vr),(⟨(⟨#[114,111,117,110,100]⟩:BA),c.round⟩:Vr),(⟨(⟨#[115,116,101,112]⟩:BA),c.next⟩:Vr),(⟨(⟨#[98,97,108,97,110,99,101]⟩:BA),(imin 1000000 (imax (-1000000) ((Bal.Balance (Fea.shares x.w) x.s.used ((x.w.programmes.getD r.prog.toNat zPrg).partner)).1)))⟩:Vr)]).1)))
def worth_k1_s(x:Slt)(r:Rq)(c:Cs)(jx1:Int):S:=mkS 110 [(0,.b (.v (.c (.kptr (encSlt x) 0)))),(4,.b (.v (.c (.kptr (encRq r) 0)))),(5,.b (.v (.c (.kptr (encCs c) 0)))),(7,.b (.v (.c (.ptr 7 0)))),(8,.b (.v (vI ((Air.Airmass (height x r.tile)).1)))),(10,.b (.v (vI ((Bal.Balance (Fea.shares x.w) x.s.used ((x.w.programmes.getD r.prog.toNat zPrg).partner)).1)))),(12,.b (.v (vI jx1)))] [(7,.cells (encPrg (x.w.programmes.getD r.prog.toNat zPrg)))]
def worth(x:Slt)(r:Rq)(c:Cs):Int:=
 (bif (!(c.next==0&&(c.round==0&&(c.last==0&&(c.over==false&&true))))) then worth_k1 x r c (IntKind.i64.wrap (x.s.mom - c.last)) else worth_k1 x r c 0)
theorem worth_c(x:Slt)(r:Rq)(c:Cs)(hr:0≤r.prog∧r.prog<x.w.programmes.length)(ht:0≤x.t∧x.t<x.w.telescopes.length)(hp:x.w.partners.length≤1000)(hq:0≤r.tile∧r.tile<512):FCall Tryz.prog 44 [.c (.kptr (encSlt x) 0),.agg (encRq r),.agg (encCs c)] (.v (vI (worth x r c))):=by
 have ee0:=worth.eq_1 x r c
 refine ul Tryz.func44 rfl (fun B hB=>?_)
 refine uq [(0,.imm),(1,.imm)] [] ?_
 refine uq [] [@pu (0≤r.prog∧r.prog<(x.w.programmes.length:Int)) (by first | exact quarter_bd hq | (have hqb:=quarter_bd hq;omega) | (first | omega | (simp (disch:=omega) only [w64];omega) | (simp only [q1,q2,q3,q4,q5,q6,q7,q8,q9,q10,q11,q12] at *;first | omega | (simp (disch:=omega) only [w64];omega))) | (simp;done))] ?_
 have cc1:=height_c x r.tile (by assumption)
 have cc2:=Air.Airmass_c (height x r.tile)
 refine uq [(3,hcon cc1),(4,hcon cc2)] [pu cc1,pu cc2] ?_
 have cc3:=Fea.shares_c x.w (by first | exact quarter_bd hq | (have hqb:=quarter_bd hq;omega) | (first | omega | (simp (disch:=omega) only [w64];omega) | (simp only [q1,q2,q3,q4,q5,q6,q7,q8,q9,q10,q11,q12] at *;first | omega | (simp (disch:=omega) only [w64];omega))) | (simp;done))
 have cc4:=Bal.Balance_c (Fea.shares x.w) x.s.used ((x.w.programmes.getD r.prog.toNat zPrg).partner)
 refine uq [(4,hcon cc3),(12,hcon cc4)] [pu cc3,pu cc4] ?_
 refine u0 ?_
 refine uq [] [ue 90 [.int .i64,.int .i64,.int .i64,.bool]] ?_
 refine rJoin (worth_k1_s x r c) (fun jx1=>worth x r c=worth_k1 x r c jx1) nofun ?_ (fun jx1 ee1=>?_)
 ·refine ud ee0 (fun hh2 ee4=>?_) (fun hh2 ee5=>?_)
  ·refine u0 ?_
   exact run_nil (joined (IntKind.i64.wrap (x.s.mom - c.last)) ee4 (wkTo [0,4,5,7,8,10,12] [] kr))
  ·exact run_nil (joined 0 ee5 (wkTo [0,4,5,7,8,10,12] [] kr))
 ·replace ee1:=ee1.trans (worth_k1.eq_1 x r c jx1)
  refine uq [] [uo ((32 :Int)≠0),uo ((32 :Int)≠0)] ?_
  have cc5:=Evl.eval_c ((x.w.programmes.getD r.prog.toNat zPrg).merit) [(⟨(⟨#[97,105,114,109,97,115,115]⟩:BA),(Air.Airmass (height x r.tile)).1⟩:Vr),(⟨(⟨#[99,108,101,97,114]⟩:BA),(x.sky.clear.at ((IntKind.i64.wrap ((IntKind.i64.wrap ((r.tile.tmod 32)*4)).tdiv 32)).toNat))⟩:Vr),(⟨(⟨#[115,101,101,105,110,103]⟩:BA),x.sky.seeing⟩:Vr),(⟨(⟨#[97,103,101]⟩:BA),jx1⟩:Vr),(⟨(⟨#[114,111,117,110,100]⟩:BA),c.round⟩:Vr),(⟨(⟨#[115,116,101,112]⟩:BA),c.next⟩:Vr),(⟨(⟨#[98,97,108,97,110,99,101]⟩:BA),(imin 1000000 (imax (-1000000) ((Bal.Balance (Fea.shares x.w) x.s.used ((x.w.programmes.getD r.prog.toNat zPrg).partner)).1)))⟩:Vr)]
  refine uq [(10,.frz 0 (fun _=>[cI (x.sky.clear.at ((IntKind.i64.wrap ((IntKind.i64.wrap ((r.tile.tmod 32)*4)).tdiv 32)).toNat))])),(30,.frz 7 (elM encVr zVr [(⟨(⟨#[97,105,114,109,97,115,115]⟩:BA),(Air.Airmass (height x r.tile)).1⟩:Vr),(⟨(⟨#[99,108,101,97,114]⟩:BA),(x.sky.clear.at ((IntKind.i64.wrap ((IntKind.i64.wrap ((r.tile.tmod 32)*4)).tdiv 32)).toNat))⟩:Vr),(⟨(⟨#[115,101,101,105,110,103]⟩:BA),x.sky.seeing⟩:Vr),(⟨(⟨#[97,103,101]⟩:BA),jx1⟩:Vr),(⟨(⟨#[114,111,117,110,100]⟩:BA),c.round⟩:Vr),(⟨(⟨#[115,116,101,112]⟩:BA),c.next⟩:Vr),(⟨(⟨#[98,97,108,97,110,99,101]⟩:BA),(imin 1000000 (imax (-1000000) ((Bal.Balance (Fea.shares x.w) x.s.used ((x.w.programmes.getD r.prog.toNat zPrg).partner)).1)))⟩:Vr)])),(31,hcon cc5)] [@pu (0≤(IntKind.i64.wrap ((IntKind.i64.wrap ((r.tile.tmod 32)*4)).tdiv 32))∧(IntKind.i64.wrap ((IntKind.i64.wrap ((r.tile.tmod 32)*4)).tdiv 32))<(4:Int)) (by first | exact quarter_bd hq | (have hqb:=quarter_bd hq;omega) | (first | omega | (simp (disch:=omega) only [w64];omega) | (simp only [q1,q2,q3,q4,q5,q6,q7,q8,q9,q10,q11,q12] at *;first | omega | (simp (disch:=omega) only [w64];omega))) | (simp;done)),@pu ((26+((IntKind.i64.wrap ((IntKind.i64.wrap ((r.tile.tmod 32)*4)).tdiv 32)).toNat)*1)+1≤(encSlt x).length∧sub (encSlt x) (26+((IntKind.i64.wrap ((IntKind.i64.wrap ((r.tile.tmod 32)*4)).tdiv 32)).toNat)*1) 1=[cI (x.sky.clear.at ((IntKind.i64.wrap ((IntKind.i64.wrap ((r.tile.tmod 32)*4)).tdiv 32)).toNat))]) (fin4 (fun j=>26+j*1+1≤(encSlt x).length∧sub (encSlt x) (26+j*1) 1=[cI (x.sky.clear.at j)]) ⟨Nat.le_of_ble_eq_true rfl,rfl⟩ ⟨Nat.le_of_ble_eq_true rfl,rfl⟩ ⟨Nat.le_of_ble_eq_true rfl,rfl⟩ ⟨Nat.le_of_ble_eq_true rfl,rfl⟩ _ (by first | exact quarter_bd hq | (have hqb:=quarter_bd hq;omega) | (first | omega | (simp (disch:=omega) only [w64];omega) | (simp only [q1,q2,q3,q4,q5,q6,q7,q8,q9,q10,q11,q12] at *;first | omega | (simp (disch:=omega) only [w64];omega))) | (simp;done))),@pu (7=7∧∀ i,i<7→(elM encVr zVr [(⟨(⟨#[97,105,114,109,97,115,115]⟩:BA),(Air.Airmass (height x r.tile)).1⟩:Vr),(⟨(⟨#[99,108,101,97,114]⟩:BA),(x.sky.clear.at ((IntKind.i64.wrap ((IntKind.i64.wrap ((r.tile.tmod 32)*4)).tdiv 32)).toNat))⟩:Vr),(⟨(⟨#[115,101,101,105,110,103]⟩:BA),x.sky.seeing⟩:Vr),(⟨(⟨#[97,103,101]⟩:BA),jx1⟩:Vr),(⟨(⟨#[114,111,117,110,100]⟩:BA),c.round⟩:Vr),(⟨(⟨#[115,116,101,112]⟩:BA),c.next⟩:Vr),(⟨(⟨#[98,97,108,97,110,99,101]⟩:BA),(imin 1000000 (imax (-1000000) ((Bal.Balance (Fea.shares x.w) x.s.used ((x.w.programmes.getD r.prog.toNat zPrg).partner)).1)))⟩:Vr)]) i=[[.str (⟨#[97,105,114,109,97,115,115]⟩:BA),cI ((Air.Airmass (height x r.tile)).1)],[.str (⟨#[99,108,101,97,114]⟩:BA),cI (x.sky.clear.at ((IntKind.i64.wrap ((IntKind.i64.wrap ((r.tile.tmod 32)*4)).tdiv 32)).toNat))],[.str (⟨#[115,101,101,105,110,103]⟩:BA),cI x.sky.seeing],[.str (⟨#[97,103,101]⟩:BA),cI jx1],[.str (⟨#[114,111,117,110,100]⟩:BA),cI c.round],[.str (⟨#[115,116,101,112]⟩:BA),cI c.next],[.str (⟨#[98,97,108,97,110,99,101]⟩:BA),cI (imin 1000000 (imax (-1000000) ((Bal.Balance (Fea.shares x.w) x.s.used ((x.w.programmes.getD r.prog.toNat zPrg).partner)).1)))]].getD i []) (⟨rfl,fun i hi=>match i,hi with | 0,_=>rfl | 1,_=>rfl | 2,_=>rfl | 3,_=>rfl | 4,_=>rfl | 5,_=>rfl | 6,_=>rfl⟩),pu cc5] ?_
  have cc6:=Mer.Clamp_c ((Evl.eval ((x.w.programmes.getD r.prog.toNat zPrg).merit) [(⟨(⟨#[97,105,114,109,97,115,115]⟩:BA),(Air.Airmass (height x r.tile)).1⟩:Vr),(⟨(⟨#[99,108,101,97,114]⟩:BA),(x.sky.clear.at ((IntKind.i64.wrap ((IntKind.i64.wrap ((r.tile.tmod 32)*4)).tdiv 32)).toNat))⟩:Vr),(⟨(⟨#[115,101,101,105,110,103]⟩:BA),x.sky.seeing⟩:Vr),(⟨(⟨#[97,103,101]⟩:BA),jx1⟩:Vr),(⟨(⟨#[114,111,117,110,100]⟩:BA),c.round⟩:Vr),(⟨(⟨#[115,116,101,112]⟩:BA),c.next⟩:Vr),(⟨(⟨#[98,97,108,97,110,99,101]⟩:BA),(imin 1000000 (imax (-1000000) ((Bal.Balance (Fea.shares x.w) x.s.used ((x.w.programmes.getD r.prog.toNat zPrg).partner)).1)))⟩:Vr)]).1)
  refine us 1 cc6 ?_
  refine u0 ?_
  refine ud ee1 (fun hh1 ee2=>?_) (fun hh1 ee3=>?_)
  ·have cc7:=Mer.Clamp_c (IntKind.i64.wrap ((Mer.Clamp ((Evl.eval ((x.w.programmes.getD r.prog.toNat zPrg).merit) [(⟨(⟨#[97,105,114,109,97,115,115]⟩:BA),(Air.Airmass (height x r.tile)).1⟩:Vr),(⟨(⟨#[99,108,101,97,114]⟩:BA),(x.sky.clear.at ((IntKind.i64.wrap ((IntKind.i64.wrap ((r.tile.tmod 32)*4)).tdiv 32)).toNat))⟩:Vr),(⟨(⟨#[115,101,101,105,110,103]⟩:BA),x.sky.seeing⟩:Vr),(⟨(⟨#[97,103,101]⟩:BA),jx1⟩:Vr),(⟨(⟨#[114,111,117,110,100]⟩:BA),c.round⟩:Vr),(⟨(⟨#[115,116,101,112]⟩:BA),c.next⟩:Vr),(⟨(⟨#[98,97,108,97,110,99,101]⟩:BA),(imin 1000000 (imax (-1000000) ((Bal.Balance (Fea.shares x.w) x.s.used ((x.w.programmes.getD r.prog.toNat zPrg).partner)).1)))⟩:Vr)]).1))+((x.w.programmes.getD r.prog.toNat zPrg).bonus)))
   refine us 4 cc7 ?_
   refine u0 ?_
   exact run_ret (ut _ (by rw [ee2]<;>rfl))
  ·refine u0 ?_
   exact run_ret (ut _ (by rw [ee3]<;>rfl))
end Go.Proofs.YtidbmbpeblmliaaGreatDoor.Slo
