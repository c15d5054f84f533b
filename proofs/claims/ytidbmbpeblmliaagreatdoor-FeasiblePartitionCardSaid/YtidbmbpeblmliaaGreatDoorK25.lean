/- Part of the proof of the statement that the claim's last text names: contracts of functions and laws of the symbolic layer. -/
import Derived.Test.YtidbmbpeblmliaaGreatDoorK14
import Derived.Test.YtidbmbpeblmliaaGreatDoorK12
import Derived.Test.YtidbmbpeblmliaaGreatDoorK15
import Derived.Test.YtidbmbpeblmliaaGreatDoorK24
import Derived.Test.YtidbmbpeblmliaaGreatDoorK18
import Derived.Test.YtidbmbpeblmliaaGreatDoorK19
import Derived.Test.YtidbmbpeblmliaaGreatDoorK21
import Derived.Test.YtidbmbpeblmliaaGreatDoorK22
import Derived.Test.YtidbmbpeblmliaaGreatDoorK23
namespace Go.Proofs.YtidbmbpeblmliaaGreatDoor.Slc
open Go.Sym Go.Proofs.YtidbmbpeblmliaaGreatDoor
set_option linter.unusedVariables false
set_option linter.unusedSimpArgs false
abbrev lC(l:List Int):C:=.lst 1 l.length (elM Sym.encI 0 l)
def vlX(l:List Int):List (List CV):=l.map fun x=>[vI x]
theorem vlX_len(l:List Int):(vlX l).length=l.length:=by simp [vlX]
def vlS(l:List Int)(k:Nat)(x:Int×Nat):S:=
 mkI 16 [(0,.b (.v (.c (.yld 0)))),(1,.b (.v (.c (.kptr [lC l] 0)))),(5,.b (.v (.c (lC l)))),(6,.b (.v (vI l.length))),(7,.b (.v (vI x.1)))] [(0,.cnt x.2 (vlX l) k)]
theorem values_it(l:List Int)(hl:l.length≤1000000):FIter Tryz.prog 183 [.kptr [lC l] 0] (vlX l):=by
 refine fiter_of Tryz.func183 rfl kr rfl (fun k B hk hB=>?_)
 rw [vlX_len] at hk
 refine u0 ?_
 refine rBlock ?_
 refine rLoop (vlS l k) (fun x=>0≤x.1∧x.1≤l.length∧(x.2:Int)=x.1∧x.2≤k) (fun x=>(l.length - x.1).toNat) (0,0) (wkTo [0,1,5,6,7] [] kr) ⟨om,om,rfl,Nat.zero_le _⟩ ?_
 rintro ⟨i,j⟩ ⟨h0,h1,h2,h3⟩
 simp only at h0 h1 h2 h3
 refine u0 ?_
 refine uc (decide (i<(l.length:Int))) (fun hc=>?_) (fun hc=>?_)
 ·have hc:i<l.length:=of_decide_eq_true hc
  refine rBlock ?_
  refine uq [] [@pu (0≤i∧i<(l.length:Int)) ⟨h0,hc⟩] ?_
  have hask:j<(vlX l).length∧j≤k∧(vlX l).getD j []=[vI (l.getD i.toNat 0)]:=by
   have hj:j<l.length:=by omega
   refine ⟨by rw [vlX_len];omega,h3,?_⟩
   rw [show i.toNat=j by omega]
   simp [vlX,List.getD_eq_getElem?_getD,hj]
  refine uq [] [pu hask] ?_
  refine uc (!decide (j<k)) (fun h=>?_) (fun h=>?_)
  ·simp only [Bool.not_eq_true',decide_eq_false_iff_not] at h
   refine run_ret (blockR_ret (loopR_ret (blockR_ret ⟨.inl rfl,?_⟩)))
   refine Eq.trans (b:=some (some (.cnt (j+1) (vlX l) k))) kr ?_
   rw [stopN_lt (show k<(vlX l).length by have:=hask.1;omega),show j=k by omega]
  ·refine run_nil (blockR_normal ?_)
   refine u0 ?_
   have e:IntKind.i64.wrap (i+1)=i+1:=w64 _ om om
   refine run_nil (loopR_next (IntKind.i64.wrap (i+1),j+1) (wkTo [0,1,5,6,7] [] kr) ?_ ?_)
   ·simp only [e]
    simp only [Bool.not_eq_false',decide_eq_true_iff] at h
    refine ⟨om,om,om,om⟩
   ·simp only [e];omega
 ·have hc:¬ i<l.length:=of_decide_eq_false hc
  refine run_exit (loopR_exit (blockR_exit ?_))
  refine run_nil ⟨.inr rfl,?_⟩
  refine Eq.trans (b:=some (some (.cnt j (vlX l) k))) kr ?_
  have e:j=(vlX l).length:=by rw [vlX_len];omega
  have e2:k=(vlX l).length:=by omega
  rw [e2,stopN_eq,e]
theorem vlX_get{l:List Int}{i:Nat}(h:i<(vlX l).length):(vlX l).getD i []=[vI (l.getD i 0)]:=by
 rw [vlX_len] at h
 simp [vlX,List.getD_eq_getElem?_getD,h]
theorem rowI_succ{l:List Int}{i:Nat}(h:i<l.length):rowI (l.take (i+1))=rowI (l.take i)++[[cI (l.getD i 0)]]:=by
 rw [List.take_succ_eq_append_getElem h,rowI,rowI,List.map_append]
 simp [List.getD_eq_getElem?_getD,h]
def coI(n:Nat)(css:List (List C)):S:=mkO 13 14 [(2,.b (.v (.c (.ptr 2 0))))] [(2,.pcells [.row 0 n]),(0,.row 3 1 css)]
def coP(n:Nat)(css:List (List C)):S:=mkO 13 14 [(2,.pin 2 (.v (.c (.ptr 2 0))))] [(2,.pcells [.row 0 n]),(0,.row 3 1 css)]
theorem appendSeq_o(l:List Int)(g:FuncId)(caps:List C)(hg:FIter Tryz.prog g caps (vlX l))(hl:l.length≤1000000):
  FOwn Tryz.prog 253 [0] [.c .nil,.c (.clo g caps)] [(0,.row 3 1 [])] (.v (.c (.row 0 l.length))) [(0,.row 3 1 (rowI l))]:=by
 refine fown_of 14 Tryz.func253 rfl kr ⟨kr,kr,kr,kr,kr,kr,kr⟩ (fun n o hh h=>?_) kr (fun B hB hBf=>?_)
 ·simp only [List.mem_singleton,Prod.mk.injEq] at h
  rw [h.2];rfl
 refine run_weaken (wkSlim [0,1] [0] kr) ?_ nofun
 refine u0 ?_
 refine u0 ?_
 refine run_weaken (wk_nilCell 2 0 0 3 1 [.nil] kr kr kr om) ?_ nofun
 refine rBlock ?_
 refine rRange hB hBf kr hg (fun i hi=>by rw [vlX_get hi];rfl) (vlX l).length (Nat.le_refl _) (fun i=>coI i (rowI (l.take i))) (wkTo [2] [] kr) (fun i _=>by kernel_rfl) ?_ ?_
 ·intro i hi hik B1
  have hi':i<l.length:=by rwa [vlX_len] at hi
  rw [vlX_get hi]
  refine u0 ?_
  refine run_nil ⟨rfl,kr,fun B2=>?_⟩
  refine rBlock ?_
  refine uq [] [@pu (i=(rowI (l.take i)).length) (by rw [rowI_len,List.length_take];omega),uo ((i+1)*9≤140737488355328),@pu (1=[[cI (l.getD i 0)]].length) rfl] ?_
  refine run_nil (blockR_normal (run_nil ⟨hi,coP (i+1) (rowI (l.take i)++[[cI (l.getD i 0)]]),wkTo [2] [10] kr,kr,?_⟩))
  rw [← rowI_succ hi']
  exact Wk.refl _
 ·intro _
  refine run_nil (blockR_normal ?_)
  refine u0 ?_
  rw [vlX_len,List.take_of_length_le (Nat.le_refl _)]
  exact run_ret (ownEndsO 4 _ (.inl rfl) kr kr ⟨kr,.inl rfl,trivial⟩)
theorem collect_o(l:List Int)(g:FuncId)(caps:List C)(hg:FIter Tryz.prog g caps (vlX l))(hl:l.length≤1000000):
  FOwn Tryz.prog 181 [0] [.c (.clo g caps)] [(0,.row 3 1 [])] (.v (.c (.row 0 l.length))) [(0,.row 3 1 (rowI l))]:=by
 refine fown_of 8 Tryz.func181 rfl kr ⟨kr,kr,kr,kr,kr,kr,kr⟩ (fun n o hh h=>?_) kr (fun B hB hBf=>?_)
 ·simp only [List.mem_singleton,Prod.mk.injEq] at h
  rw [h.2];rfl
 refine u0 ?_
 have c0:=appendSeq_o l g caps hg hl
 refine uq [(1,.own [0] [0] (.v (.c (.row 0 l.length))) [(0,.row 3 1 (rowI l))])] [pu c0] ?_
 exact run_ret (ownEndsO 2 _ (.inl rfl) kr kr ⟨kr,.inl rfl,trivial⟩)
theorem sort_o(zs:List Int)(h:zs.length≤1000000):FOwn Tryz.prog 182 [] [.c (.row 0 zs.length)] [(0,.row 3 1 (rowI zs))] (.tup []) [(0,.row 3 1 (rowI (sortI zs)))]:=
 fown_sortI ⟨_,Tryz.func182,kr,kr⟩ om (fun blk off cap w h1 h2=>Tryz.slices_Sort_int blk off cap zs w h1 h2 om) (fun p cap w=>Tryz.slices_Sort_int_none p cap w)
theorem sorted_o(l:List Int)(g:FuncId)(caps:List C)(hg:FIter Tryz.prog g caps (vlX l))(hl:l.length≤1000000):
  FOwn Tryz.prog 98 [0] [.c (.clo g caps)] [(0,.row 3 1 [])] (.v (.c (.row 0 l.length))) [(0,.row 3 1 (rowI (sortI l)))]:=by
 refine fown_of 12 Tryz.func98 rfl kr ⟨kr,kr,kr,kr,kr,kr,kr⟩ (fun n o hh h=>?_) kr (fun B hB hBf=>?_)
 ·simp only [List.mem_singleton,Prod.mk.injEq] at h
  rw [h.2];rfl
 refine u0 ?_
 have c0:=collect_o l g caps hg hl
 have c1:=sort_o l hl
 refine uq [(1,.own [0] [0] (.v (.c (.row 0 l.length))) [(0,.row 3 1 (rowI l))])] [pu c0] ?_
 refine uq [(1,.own [0] [] (.tup []) [(0,.row 3 1 (rowI (sortI l)))])] [pu c1] ?_
 refine u0 ?_
 exact run_ret (ownEndsO 2 _ (.inl rfl) kr kr ⟨kr,.inl rfl,trivial⟩)
theorem compact_o(zs:List Int)(h:zs.length≤1000000):FOwn Tryz.prog 100 [0] [.c (.row 0 zs.length)] [(0,.row 3 1 (rowI (sortI zs)))] (.v (.c (.row 0 (srt zs).length))) [(0,.row 3 1 (rowI (srt zs)))]:=by
 have:=fown_compactI (P:=Tryz.prog) (f:=100) (r:=0) (e:=3) (zs:=sortI zs) ⟨_,Tryz.func100,kr,kr⟩ (by rw [sortI_len];omega)
  (fun blk off cap w h1 h2=>Tryz.slices_Compact_int blk off cap (sortI zs) w h1 (by rw [sortI_len];omega) h2) (fun p cap w=>Tryz.slices_Compact_int_empty p cap w) (Lib.compact_length_le _)
 rw [sortI_len] at this
 exact this
theorem sorted_eq:∀ {a b:List Int},a.Perm b→a.Pairwise (fun x y=>x≤y)→b.Pairwise (fun x y=>x≤y)→a=b
 | [],b,hp,_,_=>(List.Perm.nil_eq hp)
 | x :: a,b,hp,ha,hb=>by
  cases b with
  | nil=>exact absurd hp.length_eq (by simp)
  | cons y b =>
   have h1:y≤x:=by
    rcases List.mem_cons.1 (hp.mem_iff.1 List.mem_cons_self:x∈y :: b) with h | h
    ·rw [h];exact Int.le_refl _
    ·exact List.rel_of_pairwise_cons hb h
   have h2:x≤y:=by
    rcases List.mem_cons.1 (hp.mem_iff.2 List.mem_cons_self:y∈x :: a) with h | h
    ·rw [h];exact Int.le_refl _
    ·exact List.rel_of_pairwise_cons ha h
   obtain rfl:x=y:=by omega
   rw [sorted_eq hp.cons_inv (List.Pairwise.of_cons ha) (List.Pairwise.of_cons hb)]
def insK(x:Int):List Int→List Int
 | []=>[x]
 | y :: ys=>if x≤y then x :: y :: ys else y :: insK x ys
def sortK:List Int→List Int
 | []=>[]
 | x :: xs=>insK x (sortK xs)
theorem insK_perm(x:Int):∀ l:List Int,(insK x l).Perm (x :: l)
 | []=>List.Perm.refl _
 | y :: ys=>by
  unfold insK
  split
  ·exact List.Perm.refl _
  ·exact ((insK_perm x ys).cons y).trans (List.Perm.swap _ _ _)
theorem sortK_perm:∀ l:List Int,(sortK l).Perm l
 | []=>List.Perm.refl _
 | x :: xs=>(insK_perm x _).trans ((sortK_perm xs).cons x)
theorem insK_sorted(x:Int):∀ l:List Int,l.Pairwise (fun a b=>a≤b)→(insK x l).Pairwise (fun a b=>a≤b)
 | [],_=>List.pairwise_singleton _ _
 | y :: ys,h=>by
  unfold insK
  split
  ·rename_i hxy
   refine List.pairwise_cons.2 ⟨fun z hz=>?_,h⟩
   rcases List.mem_cons.1 hz with e | hz
   ·rw [e];exact hxy
   ·exact Int.le_trans hxy (List.rel_of_pairwise_cons h hz)
  ·rename_i hxy
   refine List.pairwise_cons.2 ⟨fun z hz=>?_,insK_sorted x ys (List.Pairwise.of_cons h)⟩
   rcases List.mem_cons.1 ((insK_perm x ys).mem_iff.1 hz) with e | hz
   ·rw [e];omega
   ·exact List.rel_of_pairwise_cons h hz
theorem sortK_sorted:∀ l:List Int,(sortK l).Pairwise (fun a b=>a≤b)
 | []=>List.Pairwise.nil
 | x :: xs=>insK_sorted x _ (sortK_sorted xs)
theorem sortI_sortK(l:List Int):sortI l=sortK l:=by
 refine sorted_eq ((List.mergeSort_perm l _).trans (sortK_perm l).symm) ?_ (sortK_sorted l)
 have:=List.pairwise_mergeSort (le:=fun x y:Int=>decide (x≤y)) (fun a b c h1 h2=>by simp only [decide_eq_true_eq] at *;omega) (fun a b=>by simp only [Bool.or_eq_true,decide_eq_true_eq];omega) l
 exact this.imp fun h=>by simpa using h
def srtK(l:List Int):List Int:=Lib.compact (sortK l)
theorem srtK_eq(l:List Int):srt l=srtK l:=by rw [srt,srtK,sortI_sortK]
theorem compact_k(zs:List Int)(h:zs.length≤1000000):FOwn Tryz.prog 100 [0] [.c (.row 0 zs.length)] [(0,.row 3 1 (rowI (sortI zs)))] (.v (.c (.row 0 (srtK zs).length))) [(0,.row 3 1 (rowI (srtK zs)))]:=by
 rw [← srtK_eq]
 exact compact_o zs h
theorem values_c(s:List Int):FCall Tryz.prog 99 [.c (.lst 1 s.length (elM Sym.encI 0 s))] (.v (.c (.clo 183 [.kptr [.lst 1 s.length (elM Sym.encI 0 s)] 0]))):=by
 refine ul Tryz.func99 rfl (fun B hB=>?_)
 refine uq [(0,.imm)] [] ?_
 refine u0 ?_
 exact run_ret (ut (.v (.c (.clo 183 [.kptr [.lst 1 s.length (elM Sym.encI 0 s)] 0]))) rfl)
end Go.Proofs.YtidbmbpeblmliaaGreatDoor.Slc
namespace Go.Proofs.YtidbmbpeblmliaaGreatDoor.Prg
open Go.Sym Go.Proofs.YtidbmbpeblmliaaGreatDoor
set_option linter.unusedVariables false
set_option linter.unusedSimpArgs false
def Variables:(List Rng):=
 [(⟨(⟨#[97,105,114,109,97,115,115]⟩:BA),1000,9000⟩:Rng),(⟨(⟨#[99,108,101,97,114]⟩:BA),0,1000⟩:Rng),(⟨(⟨#[115,101,101,105,110,103]⟩:BA),1,100⟩:Rng),(⟨(⟨#[97,103,101]⟩:BA),0,38399⟩:Rng),(⟨(⟨#[114,111,117,110,100]⟩:BA),0,100⟩:Rng),(⟨(⟨#[115,116,101,112]⟩:BA),0,39⟩:Rng),(⟨(⟨#[98,97,108,97,110,99,101]⟩:BA),(-1000000),1000000⟩:Rng)]
theorem Variables_c:FCall Tryz.prog 102 [] (.v (.c (.lst 3 Variables.length (elM encRng zRng Variables)))):=by
 have ee0:=Variables.eq_1
 refine ul Tryz.func102 rfl (fun B hB=>?_)
 refine u0 ?_
 refine uq [(7,.frz 7 (elM encRng zRng [(⟨(⟨#[97,105,114,109,97,115,115]⟩:BA),1000,9000⟩:Rng),(⟨(⟨#[99,108,101,97,114]⟩:BA),0,1000⟩:Rng),(⟨(⟨#[115,101,101,105,110,103]⟩:BA),1,100⟩:Rng),(⟨(⟨#[97,103,101]⟩:BA),0,38399⟩:Rng),(⟨(⟨#[114,111,117,110,100]⟩:BA),0,100⟩:Rng),(⟨(⟨#[115,116,101,112]⟩:BA),0,39⟩:Rng),(⟨(⟨#[98,97,108,97,110,99,101]⟩:BA),(-1000000),1000000⟩:Rng)]))] [@pu (7=7∧∀ i,i<7→(elM encRng zRng [(⟨(⟨#[97,105,114,109,97,115,115]⟩:BA),1000,9000⟩:Rng),(⟨(⟨#[99,108,101,97,114]⟩:BA),0,1000⟩:Rng),(⟨(⟨#[115,101,101,105,110,103]⟩:BA),1,100⟩:Rng),(⟨(⟨#[97,103,101]⟩:BA),0,38399⟩:Rng),(⟨(⟨#[114,111,117,110,100]⟩:BA),0,100⟩:Rng),(⟨(⟨#[115,116,101,112]⟩:BA),0,39⟩:Rng),(⟨(⟨#[98,97,108,97,110,99,101]⟩:BA),(-1000000),1000000⟩:Rng)]) i=[[.str (⟨#[97,105,114,109,97,115,115]⟩:BA),cI 1000,cI 9000],[.str (⟨#[99,108,101,97,114]⟩:BA),cI 0,cI 1000],[.str (⟨#[115,101,101,105,110,103]⟩:BA),cI 1,cI 100],[.str (⟨#[97,103,101]⟩:BA),cI 0,cI 38399],[.str (⟨#[114,111,117,110,100]⟩:BA),cI 0,cI 100],[.str (⟨#[115,116,101,112]⟩:BA),cI 0,cI 39],[.str (⟨#[98,97,108,97,110,99,101]⟩:BA),cI (-1000000),cI 1000000]].getD i []) (⟨rfl,fun i hi=>match i,hi with | 0,_=>rfl | 1,_=>rfl | 2,_=>rfl | 3,_=>rfl | 4,_=>rfl | 5,_=>rfl | 6,_=>rfl⟩)] ?_
 exact run_ret (ut _ (by rw [ee0]<;>rfl))
def in'_b1_r(most:Int)(l:List Int)(lx1:Unit):Bool:=
 true
def in'_b1(most:Int)(l:List Int)(li1:Nat)(lx1:Unit):Fl Unit Bool:=
 (bif ((decide ((l.getD li1 0)<0))||(decide ((l.getD li1 0)>most))) then .rt false else .nx ())
def in'_b1_s(most:Int)(l:List Int)(li1:Nat)(qv:Int)(lx1:Unit):S:=mkS 21 [(0,.b (.v (vI most))),(7,.b (.v (.c (.lst 1 l.length (elM Sym.encI 0 l))))),(8,.b (.v (vI (l.length:Int)))),(9,.b (.v (vI qv)))] []
def in'(most:Int)(l:List Int):Bool:=
 (runL (in'_b1 most l) l.length 0 ()).fin (in'_b1_r most l)
theorem in'_c(most:Int)(l:List Int):FCall Tryz.prog 97 [vI most,.c (.lst 1 l.length (elM Sym.encI 0 l))] (.v (vB (in' most l))):=by
 have ee0:=in'.eq_1 most l
 refine ul Tryz.func97 rfl (fun B hB=>?_)
 refine u0 ?_
 refine u0 ?_
 refine uR 1 (.c (.lst 1 l.length (elM Sym.encI 0 l))) (fun hR=>?_)
 have hL1:l.length≤9223372036854775807:=Real.len hR
 refine uF l.length (in'_b1_s most l) (in'_b1 most l) (fun _ _=>True) () rfl [0,7,8,9] [] trivial (fun li1 lx1 hi1 hJ1 hr1=>?_) (fun lx1 hJ1 hr1=>?_)
 ·have ee2:=in'_b1.eq_1 most l li1 lx1
  refine uq [] [ub (li1:Int) l.length] ?_
  refine u0 ?_
  refine ud ee2 (fun hh1 ee3=>?_) (fun hh1 ee5=>?_)
  ·refine u0 ?_
   have ee4:=fin_rt ee0 hr1 hi1 ee3
   exact run_ret (ut _ (by rw [ee4]<;>rfl))
  ·exact run_nil (uN (in'_b1_s most l) () hi1 [0,7,8,9] [] (trivial) ee5)
 ·have ee1:=(fin_nx ee0 hr1).trans (in'_b1_r.eq_1 most l lx1)
  refine u0 ?_
  exact run_ret (ut _ (by rw [ee1]<;>rfl))
def identifier(s:BA):Bool:=
 ((((((LexS.lex s).2.1)==0)&&((((LexS.lex s).1).length:Int)==1))&&(((((LexS.lex s).1).getD 0 zTok).kind)==1))&&(((((LexS.lex s).1).getD 0 zTok).text).toList==s.toList))
theorem identifier_c(s:BA):FCall Tryz.prog 96 [.c (.str s)] (.v (vB (identifier s))):=by
 have ee0:=identifier.eq_1 s
 refine ul Tryz.func96 rfl (fun B hB=>?_)
 refine u0 ?_
 have cc1:=LexS.lex_c s
 refine uq [(1,hcon cc1)] [pu cc1] ?_
 refine uq [] [uh ((((LexS.lex s).2.1)==0)&&((((LexS.lex s).1).length:Int)==1)) 0 ((LexS.lex s).1).length,uh (((((LexS.lex s).2.1)==0)&&((((LexS.lex s).1).length:Int)==1))&&(((((LexS.lex s).1).getD 0 zTok).kind)==1)) 0 ((LexS.lex s).1).length] ?_
 exact run_ret (ut _ (by rw [ee0]<;>rfl))
def Valid(p:Prg):Bool:=
 (bif (((((((!(identifier p.id))||(!(in' 15 [p.partner])))||(!(in' 38399 [p.frm,p.til])))||(decide (p.frm>p.til)))||(decide ((p.tiles.length:Int)<1)))||(decide ((p.tiles.length:Int)>20)))||(!(in' 511 p.tiles))) then false else (bif (((Slc.srtK p.tiles).length:Int) != (p.tiles.length:Int)) then false else ((((((((Bns.Bounds p.merit Variables).2.2)==0)&&(((Txt.text p.merit).2)==0))&&(decide ((((Txt.text p.merit).1).size:Int)≤400)))&&(Cad.Valid p.seq))&&(in' 96 [p.follow]))&&(in' 10000 [p.bonus]))))
theorem Valid_c(p:Prg):FCall Tryz.prog 29 [.agg (encPrg p)] (.v (vB (Valid p))):=by
 have ee0:=Valid.eq_1 p
 refine ul Tryz.func29 rfl (fun B hB=>?_)
 refine uq [(0,.imm)] [] ?_
 refine u0 ?_
 have cc1:=identifier_c p.id
 have cc2:=in'_c 15 [p.partner]
 have cc3:=in'_c 38399 [p.frm,p.til]
 have cc4:=in'_c 511 p.tiles
 refine uq [(2,hcon cc1),(7,.frz 1 (elM Sym.encI 0 [p.partner])),(8,hcon cc2),(16,.frz 2 (elM Sym.encI 0 [p.frm,p.til])),(17,hcon cc3),(38,hcon cc4)] [pu cc1,@pg (!(!(identifier p.id))) (1=1∧∀ i,i<1→(elM Sym.encI 0 [p.partner]) i=[[cI p.partner]].getD i []) (fun hg=>⟨rfl,fun i hi=>match i,hi with | 0,_=>rfl⟩),pu cc2,@pg (!((!(identifier p.id))||(!(in' 15 [p.partner])))) (2=2∧∀ i,i<2→(elM Sym.encI 0 [p.frm,p.til]) i=[[cI p.frm],[cI p.til]].getD i []) (fun hg=>⟨rfl,fun i hi=>match i,hi with | 0,_=>rfl | 1,_=>rfl⟩),pu cc3,pu cc4] ?_
 refine ud ee0 (fun hh1 ee1=>?_) (fun hh1 ee2=>?_)
 ·refine u0 ?_
  exact run_ret (ut _ (by rw [ee1]<;>rfl))
 ·have hl6:p.tiles.length≤1000000:=by simp only [Bool.or_eq_false_iff,decide_eq_false_iff_not] at hh1;omega
  refine run_weaken (wk_mkRow 5 3 1 kr om) ?_ nofun
  have cc5:=Slc.values_c p.tiles
  refine uq [(2,hcon cc5),(3,.own [5] [5] (.v (.c (.row 5 p.tiles.length))) [(5,.row 3 1 (Sym.rowI (Sym.sortI p.tiles)))])] [pu cc5,pu ((Slc.sorted_o p.tiles _ _ (Slc.values_it p.tiles hl6) hl6).ren (fun | 0=>5 | n=>n) ⟨kr,kr,kr,kr,kr,kr,kr⟩)] ?_
  refine uq [(1,.own [5] [5] (.v (.c (.row 5 (Slc.srtK p.tiles).length))) [(5,.row 3 1 (Sym.rowI (Slc.srtK p.tiles)))])] [pu ((Slc.compact_k p.tiles hl6).ren (fun | 0=>5 | n=>n) ⟨kr,kr,kr,kr,kr,kr,kr⟩),@pu ((Slc.srtK p.tiles).length=(Sym.rowI (Slc.srtK p.tiles)).length) (rowN rfl rfl)] ?_
  refine ud ee2 (fun hh2 ee3=>?_) (fun hh2 ee4=>?_)
  ·refine u0 ?_
   exact run_ret (ut _ (by rw [ee3]<;>rfl))
  ·have cc6:=Variables_c
   have cc7:=Bns.Bounds_c p.merit Variables
   refine uq [(2,hcon cc6),(3,hcon cc7)] [pu cc6,pu cc7] ?_
   have cc8:=Txt.text_c p.merit
   refine uq [(2,hcon cc8)] [pu cc8] ?_
   have cc9:=Cad.Valid_c p.seq
   have cc10:=in'_c 96 [p.follow]
   have cc11:=in'_c 10000 [p.bonus]
   refine uq [(14,hcon cc9),(19,.frz 1 (elM Sym.encI 0 [p.follow])),(20,hcon cc10),(25,.frz 1 (elM Sym.encI 0 [p.bonus])),(26,hcon cc11)] [pu cc9,@pg ((((((Bns.Bounds p.merit Variables).2.2)==0)&&(((Txt.text p.merit).2)==0))&&(decide ((((Txt.text p.merit).1).size:Int)≤400)))&&(Cad.Valid p.seq)) (1=1∧∀ i,i<1→(elM Sym.encI 0 [p.follow]) i=[[cI p.follow]].getD i []) (fun hg=>⟨rfl,fun i hi=>match i,hi with | 0,_=>rfl⟩),pu cc10,@pg (((((((Bns.Bounds p.merit Variables).2.2)==0)&&(((Txt.text p.merit).2)==0))&&(decide ((((Txt.text p.merit).1).size:Int)≤400)))&&(Cad.Valid p.seq))&&(in' 96 [p.follow])) (1=1∧∀ i,i<1→(elM Sym.encI 0 [p.bonus]) i=[[cI p.bonus]].getD i []) (fun hg=>⟨rfl,fun i hi=>match i,hi with | 0,_=>rfl⟩),pu cc11] ?_
   exact run_ret (ut _ (by rw [ee4]<;>rfl))
end Go.Proofs.YtidbmbpeblmliaaGreatDoor.Prg
namespace Go.Proofs.YtidbmbpeblmliaaGreatDoor.Fea
open Go.Sym Go.Proofs.YtidbmbpeblmliaaGreatDoor
set_option linter.unusedVariables false
set_option linter.unusedSimpArgs false
def identifier(s:BA):Bool:=
 ((((((LexS.lex s).2.1)==0)&&((((LexS.lex s).1).length:Int)==1))&&(((((LexS.lex s).1).getD 0 zTok).kind)==1))&&(((((LexS.lex s).1).getD 0 zTok).text).toList==s.toList))
theorem identifier_c(s:BA):FCall Tryz.prog 54 [.c (.str s)] (.v (vB (identifier s))):=by
 have ee0:=identifier.eq_1 s
 refine ul Tryz.func54 rfl (fun B hB=>?_)
 refine u0 ?_
 have cc1:=LexS.lex_c s
 refine uq [(1,hcon cc1)] [pu cc1] ?_
 refine uq [] [uh ((((LexS.lex s).2.1)==0)&&((((LexS.lex s).1).length:Int)==1)) 0 ((LexS.lex s).1).length,uh (((((LexS.lex s).2.1)==0)&&((((LexS.lex s).1).length:Int)==1))&&(((((LexS.lex s).1).getD 0 zTok).kind)==1)) 0 ((LexS.lex s).1).length] ?_
 exact run_ret (ut _ (by rw [ee0]<;>rfl))
def moment(n:Int):Bool:=
 ((decide (n≥0))&&(decide (n≤38399)))
theorem moment_c(n:Int):FCall Tryz.prog 109 [vI n] (.v (vB (moment n))):=by
 have ee0:=moment.eq_1 n
 refine ul Tryz.func109 rfl (fun B hB=>?_)
 refine u0 ?_
 refine u0 ?_
 exact run_ret (ut _ (by rw [ee0]<;>rfl))
def shares_b1_r(w:Wd)(lx1:(List Int)):(List Int):=
 lx1
def shares_b1(w:Wd)(li1:Nat)(lx1:(List Int)):Fl (List Int) (List Int):=
 .nx (lx1++[(w.partners.getD li1 zPtn).share])
def shares_b1_s(w:Wd)(li1:Nat)(qv:Int)(lx1:(List Int))(n3:Nat)(r3:List (List C)):S:=mkS 20 [(3,.b (.v (.c (.row 3 n3)))),(7,.b (.v (.c (.lst 2 w.partners.length (elM encPtn zPtn w.partners))))),(8,.b (.v (vI (w.partners.length:Int)))),(9,.b (.v (vI qv)))] [(3,.row 3 1 r3)]
def shares(w:Wd):(List Int):=
 (runL (shares_b1 w) w.partners.length 0 ([]:List Int)).fin (shares_b1_r w)
theorem shares_c(w:Wd)(hp:w.partners.length≤1000):FCall Tryz.prog 113 [.agg (encWd w)] (.v (.c (.lst 1 ((shares w).length) (elM Sym.encI 0 (shares w))))):=by
 have ee0:=shares.eq_1 w
 refine ul Tryz.func113 rfl (fun B hB=>?_)
 refine uq [(0,.imm)] [] ?_
 refine u0 ?_
 refine u0 ?_
 refine run_weaken (wk_nilRow 3 3 3 1 kr kr om) ?_ nofun
 refine uR 0 (.agg (encWd w)) (fun hR=>?_)
 have hL1:w.partners.length≤9223372036854775807:=Real.len (hR 1 (Nat.le_of_ble_eq_true rfl))
 refine rForX w.partners.length (fun qi qv qz=>shares_b1_s w qi qv qz qz.length (qz.map Sym.encI)) (shares_b1 w) (fun li1 lx1=>lx1.length≤li1) ([]:List Int) rfl mix (rowW (fun qn qr=>shares_b1_s w 0 0 ([]:List Int) qn qr) 0 [] ([]:List Int) (rfl) (rfl) (wkTo [3,7,8,9] [] kr)) (by simp) (fun qi qz=>⟨kr,kr⟩) (fun li1 lx1 hi1 hJ1 hr1=>?_) (fun lx1 hJ1 hr1=>?_)
 ·have ee2:=shares_b1.eq_1 w li1 lx1
  refine uq [] [ub (li1:Int) w.partners.length] ?_
  refine uq [(3,.frz 1 (elM Sym.encI 0 [(w.partners.getD li1 zPtn).share]))] [@pu (1=1∧∀ i,i<1→(elM Sym.encI 0 [(w.partners.getD li1 zPtn).share]) i=[[cI ((w.partners.getD li1 zPtn).share)]].getD i []) (⟨rfl,fun i hi=>match i,hi with | 0,_=>rfl⟩),@pu (lx1.length=(lx1.map Sym.encI).length) (rowN rfl rfl),uo ((lx1.length+1)*(8+1)≤140737488355328)] ?_
  exact run_nil (forX_nx (fun qi qv qz=>shares_b1_s w qi qv qz qz.length (qz.map Sym.encI)) (lx1++[(w.partners.getD li1 zPtn).share]) hi1 om kr (rowW (fun qn qr=>shares_b1_s w (li1+1) (IntKind.i64.wrap ((li1:Int)+1)) (lx1++[(w.partners.getD li1 zPtn).share]) qn qr) (lx1.length+1) ((lx1.map Sym.encI)++((List.range 1).map (elM Sym.encI 0 [(w.partners.getD li1 zPtn).share]))) (lx1++[(w.partners.getD li1 zPtn).share]) (rowAn rfl [(w.partners.getD li1 zPtn).share]) (rowA rfl [(w.partners.getD li1 zPtn).share]) (wkTo [3,7,8,9] [5] kr)) ((by first | omega | (simp;omega) | (simp only [List.length_append,List.length_cons,List.length_nil] at *;omega))) ee2)
 ·have ee1:=(fin_nx ee0 hr1).trans (shares_b1_r.eq_1 w lx1)
  refine u0 ?_
  refine frzRow hB 2 3 lx1.length 3 1 (lx1.map Sym.encI) (elM Sym.encI 0 lx1) [] [] kr kr (len_row _ _) (elM_row _ _ _) kr ?_ nofun
  exact run_ret (ut _ (by rw [ee1]<;>rfl))
def within1(l:List Tel)(lo:Int)(hi:Int):Bool:=
 ((decide ((l.length:Int)≥lo))&&(decide ((l.length:Int)≤hi)))
theorem within1_c(l:List Tel)(lo:Int)(hi:Int):FCall Tryz.prog 49 [.c (.lst 9 l.length (elM encTel zTel l)),vI lo,vI hi] (.v (vB (within1 l lo hi))):=by
 have ee0:=within1.eq_1 l lo hi
 refine ul Tryz.func49 rfl (fun B hB=>?_)
 refine u0 ?_
 refine u0 ?_
 exact run_ret (ut _ (by rw [ee0]<;>rfl))
def within2(l:List Ptn)(lo:Int)(hi:Int):Bool:=
 ((decide ((l.length:Int)≥lo))&&(decide ((l.length:Int)≤hi)))
theorem within2_c(l:List Ptn)(lo:Int)(hi:Int):FCall Tryz.prog 50 [.c (.lst 2 l.length (elM encPtn zPtn l)),vI lo,vI hi] (.v (vB (within2 l lo hi))):=by
 have ee0:=within2.eq_1 l lo hi
 refine ul Tryz.func50 rfl (fun B hB=>?_)
 refine u0 ?_
 refine u0 ?_
 exact run_ret (ut _ (by rw [ee0]<;>rfl))
def within3(l:List Prg)(lo:Int)(hi:Int):Bool:=
 ((decide ((l.length:Int)≥lo))&&(decide ((l.length:Int)≤hi)))
theorem within3_c(l:List Prg)(lo:Int)(hi:Int):FCall Tryz.prog 51 [.c (.lst 10 l.length (elM encPrg zPrg l)),vI lo,vI hi] (.v (vB (within3 l lo hi))):=by
 have ee0:=within3.eq_1 l lo hi
 refine ul Tryz.func51 rfl (fun B hB=>?_)
 refine u0 ?_
 refine u0 ?_
 exact run_ret (ut _ (by rw [ee0]<;>rfl))
def within4(l:List Sub)(lo:Int)(hi:Int):Bool:=
 ((decide ((l.length:Int)≥lo))&&(decide ((l.length:Int)≤hi)))
theorem within4_c(l:List Sub)(lo:Int)(hi:Int):FCall Tryz.prog 52 [.c (.lst 4 l.length (elM encSub zSub l)),vI lo,vI hi] (.v (vB (within4 l lo hi))):=by
 have ee0:=within4.eq_1 l lo hi
 refine ul Tryz.func52 rfl (fun B hB=>?_)
 refine u0 ?_
 refine u0 ?_
 exact run_ret (ut _ (by rw [ee0]<;>rfl))
def Valid_b4_r(w:Wd)(lx1:Unit)(lx2:Unit)(lx3:Unit)(lx4:Unit):Bool:=
 (((((((((Dif.diff1 w.telescopes)&&(Dif.diff2 w.partners))&&(Dif.diff3 w.programmes))&&(Flw.Valid w.fast))&&(decide (w.budget≥0)))&&(decide (w.budget≤10000)))&&(Noi.Valid w.tape))&&(decide (w.limit≥100)))&&(decide (w.limit≤900)))
def Valid_b4(w:Wd)(lx1:Unit)(lx2:Unit)(lx3:Unit)(li4:Nat)(lx4:Unit):Fl Unit Bool:=
 (bif ((!(Flt.Valid (w.subs.getD li4 zSub)))||(decide (((w.subs.getD li4 zSub).prog)≥(w.programmes.length:Int)))) then .rt false else .nx ())
def Valid_b4_s(w:Wd)(lx1:Unit)(lx2:Unit)(lx3:Unit)(li4:Nat)(qv:Int)(lx4:Unit):S:=mkS 156 [(1,.b (.v (.c (.kptr (encWd w) 0)))),(94,.b (.v (.c (.lst 4 w.subs.length (elM encSub zSub w.subs))))),(95,.b (.v (vI (w.subs.length:Int)))),(96,.b (.v (vI qv)))] []
def Valid_b3_r(w:Wd)(lx1:Unit)(lx2:Unit)(lx3:Unit):Bool:=
 (runL (Valid_b4 w lx1 lx2 lx3) w.subs.length 0 ()).fin (Valid_b4_r w lx1 lx2 lx3)
def Valid_b3(w:Wd)(lx1:Unit)(lx2:Unit)(li3:Nat)(lx3:Unit):Fl Unit Bool:=
 (bif ((!(Prg.Valid (w.programmes.getD li3 zPrg)))||(decide (((w.programmes.getD li3 zPrg).partner)≥(w.partners.length:Int)))) then .rt false else .nx ())
def Valid_b3_s(w:Wd)(lx1:Unit)(lx2:Unit)(li3:Nat)(qv:Int)(lx3:Unit):S:=mkS 156 [(1,.b (.v (.c (.kptr (encWd w) 0)))),(75,.b (.v (.c (.lst 10 w.programmes.length (elM encPrg zPrg w.programmes))))),(76,.b (.v (vI (w.programmes.length:Int)))),(77,.b (.v (vI qv)))] []
def Valid_b2_r(w:Wd)(lx1:Unit)(lx2:Unit):Bool:=
 (runL (Valid_b3 w lx1 lx2) w.programmes.length 0 ()).fin (Valid_b3_r w lx1 lx2)
def Valid_b2(w:Wd)(lx1:Unit)(li2:Nat)(lx2:Unit):Fl Unit Bool:=
 (bif (((!(identifier ((w.partners.getD li2 zPtn).id)))||(decide (((w.partners.getD li2 zPtn).share)<1)))||(decide (((w.partners.getD li2 zPtn).share)>1000))) then .rt false else .nx ())
def Valid_b2_s(w:Wd)(lx1:Unit)(li2:Nat)(qv:Int)(lx2:Unit):S:=mkS 156 [(1,.b (.v (.c (.kptr (encWd w) 0)))),(53,.b (.v (.c (.lst 2 w.partners.length (elM encPtn zPtn w.partners))))),(54,.b (.v (vI (w.partners.length:Int)))),(55,.b (.v (vI qv)))] []
def Valid_b1_r(w:Wd)(lx1:Unit):Bool:=
 (runL (Valid_b2 w lx1) w.partners.length 0 ()).fin (Valid_b2_r w lx1)
def Valid_b1(w:Wd)(li1:Nat)(lx1:Unit):Fl Unit Bool:=
 (bif ((!(Rig.Valid (w.telescopes.getD li1 zTel) (⟨0,0,false⟩:Rg)))||(!(Det.Valid ((w.telescopes.getD li1 zTel).det)))) then .rt false else .nx ())
def Valid_b1_s(w:Wd)(li1:Nat)(qv:Int)(lx1:Unit):S:=mkS 156 [(1,.b (.v (.c (.kptr (encWd w) 0)))),(35,.b (.v (.c (.lst 9 w.telescopes.length (elM encTel zTel w.telescopes))))),(36,.b (.v (vI (w.telescopes.length:Int)))),(37,.b (.v (vI qv)))] []
def Valid(w:Wd):Bool:=
 (bif ((((!(within1 w.telescopes 1 6))||(!(within2 w.partners 1 16)))||(!(within3 w.programmes 1 64)))||(!(within4 w.subs 0 64))) then false else (runL (Valid_b1 w) w.telescopes.length 0 ()).fin (Valid_b1_r w))
theorem Valid_c(w:Wd):FCall Tryz.prog 16 [.agg (encWd w)] (.v (vB (Valid w))):=by
 have ee0:=Valid.eq_1 w
 refine ul Tryz.func16 rfl (fun B hB=>?_)
 refine uq [(0,.imm)] [] ?_
 have cc1:=within1_c w.telescopes 1 6
 have cc2:=within2_c w.partners 1 16
 have cc3:=within3_c w.programmes 1 64
 have cc4:=within4_c w.subs 0 64
 refine uq [(2,hcon cc1),(7,hcon cc2),(13,hcon cc3),(19,hcon cc4)] [pu cc1,pu cc2,pu cc3,pu cc4] ?_
 refine ud ee0 (fun hh1 ee1=>?_) (fun hh1 ee2=>?_)
 ·refine u0 ?_
  exact run_ret (ut _ (by rw [ee1]<;>rfl))
 ·refine u0 ?_
  refine uR 0 (.agg (encWd w)) (fun hR=>?_)
  have hL4:w.telescopes.length≤9223372036854775807:=Real.len (hR 0 (Nat.le_of_ble_eq_true rfl))
  refine uF w.telescopes.length (Valid_b1_s w) (Valid_b1 w) (fun _ _=>True) () rfl [1,35,36,37] [] trivial (fun li1 lx1 hi1 hJ1 hr1=>?_) (fun lx1 hJ1 hr1=>?_)
  ·have ee19:=Valid_b1.eq_1 w li1 lx1
   refine uq [] [ub (li1:Int) w.telescopes.length] ?_
   have cc13:=Rig.Valid_c (w.telescopes.getD li1 zTel) (⟨0,0,false⟩:Rg)
   have cc14:=Det.Valid_c ((w.telescopes.getD li1 zTel).det)
   refine uq [(2,hcon cc13),(7,hcon cc14)] [pu cc13,pu cc14] ?_
   refine ud ee19 (fun hh5 ee20=>?_) (fun hh5 ee22=>?_)
   ·refine u0 ?_
    have ee21:=fin_rt ee2 hr1 hi1 ee20
    exact run_ret (ut _ (by rw [ee21]<;>rfl))
   ·exact run_nil (uN (Valid_b1_s w) () hi1 [1,35,36,37] [4] (trivial) ee22)
  ·have ee3:=(fin_nx ee2 hr1).trans (Valid_b1_r.eq_1 w lx1)
   refine u0 ?_
   refine uR 1 (.c (.kptr (encWd w) 0)) (fun hR=>?_)
   have hL3:w.partners.length≤9223372036854775807:=Real.len (Real.at hR 1 (Nat.le_of_ble_eq_true rfl))
   refine uF w.partners.length (Valid_b2_s w lx1) (Valid_b2 w lx1) (fun _ _=>True) () rfl [1,53,54,55] [] trivial (fun li2 lx2 hi2 hJ2 hr2=>?_) (fun lx2 hJ2 hr2=>?_)
   ·have ee15:=Valid_b2.eq_1 w lx1 li2 lx2
    refine uq [] [ub (li2:Int) w.partners.length] ?_
    have cc12:=identifier_c ((w.partners.getD li2 zPtn).id)
    refine uq [(2,hcon cc12)] [pu cc12] ?_
    refine ud ee15 (fun hh4 ee16=>?_) (fun hh4 ee18=>?_)
    ·refine u0 ?_
     have ee17:=fin_rt ee3 hr2 hi2 ee16
     exact run_ret (ut _ (by rw [ee17]<;>rfl))
    ·exact run_nil (uN (Valid_b2_s w lx1) () hi2 [1,53,54,55] [6] (trivial) ee18)
   ·have ee4:=(fin_nx ee3 hr2).trans (Valid_b2_r.eq_1 w lx1 lx2)
    refine u0 ?_
    refine uR 1 (.c (.kptr (encWd w) 0)) (fun hR=>?_)
    have hL2:w.programmes.length≤9223372036854775807:=Real.len (Real.at hR 2 (Nat.le_of_ble_eq_true rfl))
    refine uF w.programmes.length (Valid_b3_s w lx1 lx2) (Valid_b3 w lx1 lx2) (fun _ _=>True) () rfl [1,75,76,77] [] trivial (fun li3 lx3 hi3 hJ3 hr3=>?_) (fun lx3 hJ3 hr3=>?_)
    ·have ee11:=Valid_b3.eq_1 w lx1 lx2 li3 lx3
     refine uq [] [ub (li3:Int) w.programmes.length] ?_
     have cc11:=Prg.Valid_c (w.programmes.getD li3 zPrg)
     refine uq [(1,hcon cc11)] [pu cc11] ?_
     refine ud ee11 (fun hh3 ee12=>?_) (fun hh3 ee14=>?_)
     ·refine u0 ?_
      have ee13:=fin_rt ee4 hr3 hi3 ee12
      exact run_ret (ut _ (by rw [ee13]<;>rfl))
     ·exact run_nil (uN (Valid_b3_s w lx1 lx2) () hi3 [1,75,76,77] [8] (trivial) ee14)
    ·have ee5:=(fin_nx ee4 hr3).trans (Valid_b3_r.eq_1 w lx1 lx2 lx3)
     refine u0 ?_
     refine uR 1 (.c (.kptr (encWd w) 0)) (fun hR=>?_)
     have hL1:w.subs.length≤9223372036854775807:=Real.len (Real.at hR 7 (Nat.le_of_ble_eq_true rfl))
     refine uF w.subs.length (Valid_b4_s w lx1 lx2 lx3) (Valid_b4 w lx1 lx2 lx3) (fun _ _=>True) () rfl [1,94,95,96] [] trivial (fun li4 lx4 hi4 hJ4 hr4=>?_) (fun lx4 hJ4 hr4=>?_)
     ·have ee7:=Valid_b4.eq_1 w lx1 lx2 lx3 li4 lx4
      refine uq [] [ub (li4:Int) w.subs.length] ?_
      have cc10:=Flt.Valid_c (w.subs.getD li4 zSub)
      refine uq [(1,hcon cc10)] [pu cc10] ?_
      refine ud ee7 (fun hh2 ee8=>?_) (fun hh2 ee10=>?_)
      ·refine u0 ?_
       have ee9:=fin_rt ee5 hr4 hi4 ee8
       exact run_ret (ut _ (by rw [ee9]<;>rfl))
      ·exact run_nil (uN (Valid_b4_s w lx1 lx2 lx3) () hi4 [1,94,95,96] [10] (trivial) ee10)
     ·have ee6:=(fin_nx ee5 hr4).trans (Valid_b4_r.eq_1 w lx1 lx2 lx3 lx4)
      have cc5:=Dif.diff1_c w.telescopes
      have cc6:=Dif.diff2_c w.partners
      have cc7:=Dif.diff3_c w.programmes
      refine uq [(2,hcon cc5),(6,hcon cc6),(11,hcon cc7)] [pu cc5,pu cc6,pu cc7] ?_
      have cc8:=Flw.Valid_c w.fast
      have cc9:=Noi.Valid_c w.tape
      refine uq [(4,hcon cc8),(19,hcon cc9)] [pu cc8,pu cc9] ?_
      exact run_ret (ut _ (by rw [ee6]<;>rfl))
def open__b1_r(w:Wd)(l:List Fol)(lx1:Unit):Bool:=
 ((decide ((l.length:Int)≤200))&&(Dif.diff4 l))
def open__b1(w:Wd)(l:List Fol)(li1:Nat)(lx1:Unit):Fl Unit Bool:=
 (bif ((((((((decide (((l.getD li1 zFol).prog)<0))||(decide (((l.getD li1 zFol).prog)≥(w.programmes.length:Int))))||(decide (((l.getD li1 zFol).tile)<0)))||(decide (((l.getD li1 zFol).tile)≥512)))||(decide (((l.getD li1 zFol).filter)<0)))||(decide (((l.getD li1 zFol).filter)≥8)))||(!(moment ((l.getD li1 zFol).til))))||(decide (((l.getD li1 zFol).foreign)<(-1)))) then .rt false else .nx ())
def open__b1_s(w:Wd)(l:List Fol)(li1:Nat)(qv:Int)(lx1:Unit):S:=mkS 63 [(1,.b (.v (.c (.lst 5 l.length (elM encFol zFol l))))),(2,.b (.v (.c (.kptr (encWd w) 0)))),(7,.b (.v (.c (.lst 5 l.length (elM encFol zFol l))))),(8,.b (.v (vI (l.length:Int)))),(9,.b (.v (vI qv)))] []
def open_(w:Wd)(l:List Fol):Bool:=
 (runL (open__b1 w l) l.length 0 ()).fin (open__b1_r w l)
theorem open__c(w:Wd)(l:List Fol):FCall Tryz.prog 114 [.agg (encWd w),.c (.lst 5 l.length (elM encFol zFol l))] (.v (vB (open_ w l))):=by
 have ee0:=open_.eq_1 w l
 refine ul Tryz.func114 rfl (fun B hB=>?_)
 refine uq [(0,.imm)] [] ?_
 refine u0 ?_
 refine uR 1 (.c (.lst 5 l.length (elM encFol zFol l))) (fun hR=>?_)
 have hL1:l.length≤9223372036854775807:=Real.len hR
 refine uF l.length (open__b1_s w l) (open__b1 w l) (fun _ _=>True) () rfl [1,2,7,8,9] [] trivial (fun li1 lx1 hi1 hJ1 hr1=>?_) (fun lx1 hJ1 hr1=>?_)
 ·have ee2:=open__b1.eq_1 w l li1 lx1
  refine uq [] [ub (li1:Int) l.length] ?_
  have cc2:=moment_c ((l.getD li1 zFol).til)
  refine uq [(34,hcon cc2)] [pu cc2] ?_
  refine ud ee2 (fun hh1 ee3=>?_) (fun hh1 ee5=>?_)
  ·refine u0 ?_
   have ee4:=fin_rt ee0 hr1 hi1 ee3
   exact run_ret (ut _ (by rw [ee4]<;>rfl))
  ·exact run_nil (uN (open__b1_s w l) () hi1 [1,2,7,8,9] [6] (trivial) ee5)
 ·have ee1:=(fin_nx ee0 hr1).trans (open__b1_r.eq_1 w l lx1)
  have cc1:=Dif.diff4_c l
  refine uq [(5,hcon cc1)] [pu cc1] ?_
  exact run_ret (ut _ (by rw [ee1]<;>rfl))
def fits_b2_r(w:Wd)(s:Sta)(lx1:Unit)(lx2:Unit):Bool:=
 (((Bal.Valid (shares w) s.used)&&(open_ w s.opn))&&(((Cfm.Confirmed s.tallies 1).2)==0))
def fits_b3_r(w:Wd)(s:Sta)(lx1:Unit)(li2:Nat)(lx2:Unit)(lx3:Unit):Fl Unit Bool:=
 .nx ()
def fits_b3(w:Wd)(s:Sta)(lx1:Unit)(li2:Nat)(lx2:Unit)(li3:Nat)(lx3:Unit):Fl Unit (Fl Unit Bool):=
 (bif ((Cad.Ready ((w.programmes.getD li2 zPrg).seq) ((s.courses.getD li2 []).getD li3 zCs) 0)==1) then .rt (.rt false) else .nx ())
def fits_b3_s(w:Wd)(s:Sta)(lx1:Unit)(li2:Nat)(lx2:Unit)(li3:Nat)(qv:Int)(lx3:Unit):S:=mkS 148 [(2,.b (.v (.c (.kptr (encWd w) 0)))),(3,.b (.v (.c (.kptr (encSta s) 0)))),(8,.b (.v (.c (.ptr 8 0)))),(93,.b (.v (.c (.lst 10 w.programmes.length (elM encPrg zPrg w.programmes))))),(94,.b (.v (vI (w.programmes.length:Int)))),(95,.b (.v (vI (li2:Int)))),(114,.b (.v (.c (.lst 4 ((s.courses.getD li2 []).length) (elM encCs zCs (s.courses.getD li2 [])))))),(115,.b (.v (vI ((s.courses.getD li2 []).length:Int)))),(116,.b (.v (vI qv)))] [(8,.cells (encPrg (w.programmes.getD li2 zPrg)))]
def fits_b2(w:Wd)(s:Sta)(lx1:Unit)(li2:Nat)(lx2:Unit):Fl Unit Bool:=
 (bif (((s.courses.getD li2 []).length:Int) != (((w.programmes.getD li2 zPrg).tiles).length:Int)) then .rt false else (runL (fits_b3 w s lx1 li2 lx2) ((s.courses.getD li2 []).length) 0 ()).fin (fits_b3_r w s lx1 li2 lx2))
def fits_b2_s(w:Wd)(s:Sta)(lx1:Unit)(li2:Nat)(qv:Int)(lx2:Unit):S:=mkS 148 [(2,.b (.v (.c (.kptr (encWd w) 0)))),(3,.b (.v (.c (.kptr (encSta s) 0)))),(93,.b (.v (.c (.lst 10 w.programmes.length (elM encPrg zPrg w.programmes))))),(94,.b (.v (vI (w.programmes.length:Int)))),(95,.b (.v (vI qv)))] []
def fits_b1_r(w:Wd)(s:Sta)(lx1:Unit):Bool:=
 (runL (fits_b2 w s lx1) w.programmes.length 0 ()).fin (fits_b2_r w s lx1)
def fits_b1(w:Wd)(s:Sta)(li1:Nat)(lx1:Unit):Fl Unit Bool:=
 (bif (((!(Rig.Valid (w.telescopes.getD li1 zTel) (s.rigs.getD li1 zRg)))||(decide ((Noi.sMin [(s.ghosts.getD li1 zPx).c0,(s.ghosts.getD li1 zPx).c1,(s.ghosts.getD li1 zPx).c2,(s.ghosts.getD li1 zPx).c3])<0)))||(decide ((Noi.sMax [(s.ghosts.getD li1 zPx).c0,(s.ghosts.getD li1 zPx).c1,(s.ghosts.getD li1 zPx).c2,(s.ghosts.getD li1 zPx).c3])>1000000))) then .rt false else .nx ())
def fits_b1_s(w:Wd)(s:Sta)(li1:Nat)(qv:Int)(lx1:Unit):S:=mkS 148 [(2,.b (.v (.c (.kptr (encWd w) 0)))),(3,.b (.v (.c (.kptr (encSta s) 0)))),(58,.b (.v (.c (.lst 9 w.telescopes.length (elM encTel zTel w.telescopes))))),(59,.b (.v (vI (w.telescopes.length:Int)))),(60,.b (.v (vI qv)))] []
def fits(w:Wd)(s:Sta):Bool:=
 (bif ((((((!(moment s.mom))||(decide (s.turn<0)))||(decide (s.turn≥(w.telescopes.length:Int))))||((s.rigs.length:Int) != (w.telescopes.length:Int)))||((s.ghosts.length:Int) != (w.telescopes.length:Int)))||((s.courses.length:Int) != (w.programmes.length:Int))) then false else (runL (fits_b1 w s) w.telescopes.length 0 ()).fin (fits_b1_r w s))
theorem fits_c(w:Wd)(s:Sta)(hp:w.partners.length≤1000):FCall Tryz.prog 38 [.agg (encWd w),.agg (encSta s)] (.v (vB (fits w s))):=by
 have ee0:=fits.eq_1 w s
 refine ul Tryz.func38 rfl (fun B hB=>?_)
 refine uq [(0,.imm),(1,.imm)] [] ?_
 have cc1:=moment_c s.mom
 refine uq [(2,hcon cc1)] [pu cc1] ?_
 refine ud ee0 (fun hh1 ee1=>?_) (fun hh1 ee2=>?_)
 ·refine u0 ?_
  exact run_ret (ut _ (by rw [ee1]<;>rfl))
 ·refine u0 ?_
  refine uR 0 (.agg (encWd w)) (fun hR=>?_)
  have hL3:w.telescopes.length≤9223372036854775807:=Real.len (hR 0 (Nat.le_of_ble_eq_true rfl))
  refine uF w.telescopes.length (fits_b1_s w s) (fits_b1 w s) (fun _ _=>True) () rfl [2,3,58,59,60] [] trivial (fun li1 lx1 hi1 hJ1 hr1=>?_) (fun lx1 hJ1 hr1=>?_)
  ·have ee15:=fits_b1.eq_1 w s li1 lx1
   refine uq [] [ub (li1:Int) w.telescopes.length] ?_
   have cc7:=Rig.Valid_c (w.telescopes.getD li1 zTel) (s.rigs.getD li1 zRg)
   have cc8:FCall Tryz.prog 110 [.c (.lst 1 4 (fun i=>sub ((elM encPx zPx s.ghosts) li1) (0+i*1) 1))] (.v (vI (Noi.sMin [(s.ghosts.getD li1 zPx).c0,(s.ghosts.getD li1 zPx).c1,(s.ghosts.getD li1 zPx).c2,(s.ghosts.getD li1 zPx).c3]))):=(Noi.sMin_c [(s.ghosts.getD li1 zPx).c0,(s.ghosts.getD li1 zPx).c1,(s.ghosts.getD li1 zPx).c2,(s.ghosts.getD li1 zPx).c3] vo).of_le ⟨CVle.lst (fun i hi=>by match i,hi with | 0,_=>rfl | 1,_=>rfl | 2,_=>rfl | 3,_=>rfl),trivial⟩
   have cc9:FCall Tryz.prog 83 [.c (.lst 1 4 (fun i=>sub ((elM encPx zPx s.ghosts) li1) (0+i*1) 1))] (.v (vI (Noi.sMax [(s.ghosts.getD li1 zPx).c0,(s.ghosts.getD li1 zPx).c1,(s.ghosts.getD li1 zPx).c2,(s.ghosts.getD li1 zPx).c3]))):=(Noi.sMax_c [(s.ghosts.getD li1 zPx).c0,(s.ghosts.getD li1 zPx).c1,(s.ghosts.getD li1 zPx).c2,(s.ghosts.getD li1 zPx).c3] vo).of_le ⟨CVle.lst (fun i hi=>by match i,hi with | 0,_=>rfl | 1,_=>rfl | 2,_=>rfl | 3,_=>rfl),trivial⟩
   refine uq [(6,hcon cc7),(14,hcon cc8),(23,hcon cc9)] [ub (li1:Int) s.rigs.length,pu cc7,uh (!(!(Rig.Valid (w.telescopes.getD li1 zTel) (s.rigs.getD li1 zRg)))) (li1:Int) s.ghosts.length,pu cc8,uh (!((!(Rig.Valid (w.telescopes.getD li1 zTel) (s.rigs.getD li1 zRg)))||(decide ((Noi.sMin [(s.ghosts.getD li1 zPx).c0,(s.ghosts.getD li1 zPx).c1,(s.ghosts.getD li1 zPx).c2,(s.ghosts.getD li1 zPx).c3])<0)))) (li1:Int) s.ghosts.length,pu cc9] ?_
   refine ud ee15 (fun hh4 ee16=>?_) (fun hh4 ee18=>?_)
   ·refine u0 ?_
    have ee17:=fin_rt ee2 hr1 hi1 ee16
    exact run_ret (ut _ (by rw [ee17]<;>rfl))
   ·exact run_nil (uN (fits_b1_s w s) () hi1 [2,3,58,59,60] [6] (trivial) ee18)
  ·have ee3:=(fin_nx ee2 hr1).trans (fits_b1_r.eq_1 w s lx1)
   refine u0 ?_
   refine uR 2 (.c (.kptr (encWd w) 0)) (fun hR=>?_)
   have hL2:w.programmes.length≤9223372036854775807:=Real.len (Real.at hR 2 (Nat.le_of_ble_eq_true rfl))
   refine uF w.programmes.length (fits_b2_s w s lx1) (fits_b2 w s lx1) (fun _ _=>True) () rfl [2,3,93,94,95] [] trivial (fun li2 lx2 hi2 hJ2 hr2=>?_) (fun lx2 hJ2 hr2=>?_)
   ·have ee5:=fits_b2.eq_1 w s lx1 li2 lx2
    refine uq [] [ub (li2:Int) w.programmes.length] ?_
    refine uq [] [ub (li2:Int) s.courses.length] ?_
    refine ud ee5 (fun hh2 ee6=>?_) (fun hh2 ee8=>?_)
    ·refine u0 ?_
     have ee7:=fin_rt ee3 hr2 hi2 ee6
     exact run_ret (ut _ (by rw [ee7]<;>rfl))
    ·refine uq [] [ub (li2:Int) s.courses.length] ?_
     refine uR 103 (.c (.kel 1 s.courses.length (elM (Sym.encL 4 encCs zCs) [] s.courses) li2 0)) (fun hR=>?_)
     have hL1:(s.courses.getD li2 []).length≤9223372036854775807:=Real.len (Real.kel hR 0 om)
     refine uF ((s.courses.getD li2 []).length) (fits_b3_s w s lx1 li2 lx2) (fits_b3 w s lx1 li2 lx2) (fun _ _=>True) () rfl [2,3,8,93,94,95,114,115,116] [] trivial (fun li3 lx3 hi3 hJ3 hr3=>?_) (fun lx3 hJ3 hr3=>?_)
     ·have ee10:=fits_b3.eq_1 w s lx1 li2 lx2 li3 lx3
      refine uq [] [ub (li3:Int) (s.courses.getD li2 []).length] ?_
      have cc6:=Cad.Ready_c ((w.programmes.getD li2 zPrg).seq) ((s.courses.getD li2 []).getD li3 zCs) 0
      refine uq [(3,hcon cc6)] [pu cc6] ?_
      refine ud ee10 (fun hh3 ee11=>?_) (fun hh3 ee14=>?_)
      ·refine u0 ?_
       have ee12:=fin_rt ee8 hr3 hi3 ee11
       have ee13:=fin_rt ee3 hr2 hi2 ee12
       exact run_ret (ut _ (by rw [ee13]<;>rfl))
      ·exact run_nil (uN (fits_b3_s w s lx1 li2 lx2) () hi3 [2,3,8,93,94,95,114,115,116] [10] (trivial) ee14)
     ·have ee9:=(fin_nx ee8 hr3).trans (fits_b3_r.eq_1 w s lx1 li2 lx2 lx3)
      exact run_nil (uN (fits_b2_s w s lx1) () hi2 [2,3,93,94,95] [8] (trivial) ee9)
   ·have ee4:=(fin_nx ee3 hr2).trans (fits_b2_r.eq_1 w s lx1 lx2)
    have cc2:=Cfm.Confirmed_c s.tallies 1
    refine uq [(2,hcon cc2)] [pu cc2] ?_
    have cc3:=shares_c w vo
    have cc4:=Bal.Valid_c (shares w) s.used
    have cc5:=open__c w s.opn
    refine uq [(1,hcon cc3),(4,hcon cc4),(9,hcon cc5)] [pu cc3,pu cc4,pu cc5] ?_
    exact run_ret (ut _ (by rw [ee4]<;>rfl))
end Go.Proofs.YtidbmbpeblmliaaGreatDoor.Fea
