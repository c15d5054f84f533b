/- Part of the proof of the statement that the claim's last text names: contracts of functions and laws of the symbolic layer. -/
import Derived.Test.YtidbmbpeblmliaaGreatDoorU14
import Derived.Test.YtidbmbpeblmliaaGreatDoorU16
import Derived.Test.YtidbmbpeblmliaaGreatDoorU17
set_option linter.unusedVariables false
set_option linter.unusedSimpArgs false
namespace Go.Proofs.YtidbmbpeblmliaaGreatDoor.Bns
open Go.Sym Go.Proofs.YtidbmbpeblmliaaGreatDoor
def Bd(l:List I2):Prop:=∀ j:Nat,(l.getD j zI2).c0.natAbs<2 ^ 64∧(l.getD j zI2).c1.natAbs<2 ^ 64
theorem getD_set{l:List I2}{i j:Nat}{x:I2}:(l.set i x).getD j zI2=if i=j∧j<l.length then x else l.getD j zI2:=by
 simp only [gE,List.getElem?_set]
 by_cases h:i=j
 ·subst h
  by_cases h2:i<l.length
  ·simp [h2]
  ·simp [h2]
 ·simp [h]
theorem Bd.set{l:List I2}(h:Bd l){i:Nat}{x:I2}(hx:x.c0.natAbs<2 ^ 64∧x.c1.natAbs<2 ^ 64):Bd (l.set i x):=fun j=>by
 rw [getD_set]
 split
 ·exact hx
 ·exact h j
theorem Bd.nil:Bd []:=fun j=>by simp [zI2]
theorem Bd.app{l:List I2}(h:Bd l){x:I2}(hx:x.c0.natAbs<2 ^ 64∧x.c1.natAbs<2 ^ 64):Bd (l++[x]):=fun j=>by
 rcases Nat.lt_or_ge j l.length with g | g
 ·have:=h j
  rw [gE] at this ⊢
  rwa [List.getElem?_append_left g]
 ·rw [gE,List.getElem?_append_right g]
  rcases Nat.eq_or_lt_of_le g with g | g
  ·simp [← g,hx]
  ·rw [List.getElem?_eq_none (by simp;omega)]
   simp [zI2]
theorem Bd.rep(n:Nat):Bd (List.replicate n zI2):=fun j=>by
 rw [gE,List.getElem?_replicate]
 split<;>simp [zI2]
def In(x:I2):Prop:=x.c0.natAbs<2 ^ 64∧x.c1.natAbs<2 ^ 64
theorem mput_val{κ ν:Type}{eq:κ→κ→Bool}{p:ν→Prop}:∀ {l:List (κ×ν)} {k:κ} {v:ν},(∀ e,e∈l→p e.2)→p v→∀ e,e∈mput eq l k v→p e.2
 | [],k,v,_,hv,e,he=>by
  rw [mput] at he
  rcases List.mem_singleton.1 he with rfl
  exact hv
 | a :: l,k,v,hl,hv,e,he=>by
  rw [mput] at he
  cases h:eq k a.1 with
  | true =>
   rw [h] at he
   rcases List.mem_cons.1 he with rfl | he
   ·exact hv
   ·exact hl e (List.mem_cons_of_mem _ he)
  | false =>
   rw [h] at he
   rcases List.mem_cons.1 he with rfl | he
   ·exact hl _ (List.mem_cons_self ..)
   ·exact mput_val (fun e he=>hl e (List.mem_cons_of_mem _ he)) hv e he
theorem mgetD_val{κ ν:Type}{eq:κ→κ→Bool}{p:ν→Prop}{z:ν}(hz:p z):∀ {l:List (κ×ν)} {k:κ},(∀ e,e∈l→p e.2)→p (mgetD eq z l k)
 | [],k,_=>hz
 | a :: l,k,hl=>by
  rw [mgetD]
  cases h:eq k a.1 with
  | true=>exact hl a (List.mem_cons_self ..)
  | false=>exact mgetD_val hz fun e he=>hl e (List.mem_cons_of_mem _ he)
theorem bey{n:Int}(h:Bnd.beyond n=false):n.natAbs<2 ^ 64:=by
 simp only [Bnd.beyond,Bool.or_eq_false_iff,decide_eq_false_iff_not] at h
 omega
theorem bif_nx{σ ρ:Type}{c:Bool}{r:ρ}{x y:σ}(h:(bif c then (Fl.rt r:Fl σ ρ) else .nx x)=.nx y):c=false∧x=y:=by cases c<;>simp_all
theorem bif_br{σ ρ:Type}{c:Bool}{r:ρ}{x y:σ}(h:(bif c then (Fl.rt r:Fl σ ρ) else .nx x)=.br y):False:=by cases c<;>simp_all
theorem bif_rt{σ ρ:Type}{c:Bool}{r q:ρ}{x:σ}(h:(bif c then (Fl.rt r:Fl σ ρ) else .nx x)=.rt q):c=true∧r=q:=by cases c<;>simp_all
theorem ranges_bd{l:List Rng}{r:List (BA×I2)×Bool}(h:Bnd.ranges l=some r)(k:BA):In (mgetD Sym.eqS zI2 r.1 k):=by
 refine mgetD_val (by simp [In,zI2]) ?_
 have:=runL_inv (bd:=Bnd.ranges_b1 l) (fun _ (x:List (BA×I2))=>∀ e,e∈x→In e.2) (fun q=>∀ r,(q.fin (Bnd.ranges_b1_r l))=some r→∀ e,e∈r.1→In e.2) (n:=l.length)
  (fun i x y hi hx hb=>?_) (fun i x y hi hx hb=>?_) (fun i x q hi hx hb=>?_) (fun x hx=>?_) l.length 0 [] om (fun e he=>by cases he)
 ·rw [Bnd.ranges] at h;exact this r h
 ·rw [Bnd.ranges_b1] at hb
  obtain ⟨hc,rfl⟩:=bif_nx hb
  simp only [Bool.or_eq_false_iff] at hc
  exact mput_val hx ⟨bey hc.1.1.2,bey hc.1.2⟩
 ·rw [Bnd.ranges_b1] at hb
  exact (bif_br hb).elim
 ·rw [Bnd.ranges_b1] at hb
  obtain ⟨_,rfl⟩:=bif_rt hb
  intro r hr;cases hr
 ·intro r hr
  simp only [Fl.fin,Bnd.ranges_b1_r,Option.some.injEq] at hr
  rw [← hr]
  exact hx
theorem num_bd{n:Nd}(h:Exp.formed n=true)(hk:(n.op==1)=true):In ⟨n.num,n.num⟩:=by
 have:=Exp.formed_num h hk
 simp only [In];omega
theorem bey_bd{l:List I2}{i:Nat}{x:I2}(h:(Bnd.beyond ((l.set i x).getD i zI2).c0||Bnd.beyond ((l.set i x).getD i zI2).c1)=false)(hi:i<l.length):In x:=by
 rw [getD_set,if_pos ⟨rfl,hi⟩,Bool.or_eq_false_iff] at h
 exact ⟨bey h.1,bey h.2⟩
theorem vi{p:Prop}(h:p:=by first | omega | (simp (disch:=omega) only [w64];omega) | (simp only [q1,q2,q3,q4,q5,q6,q7,q8,q9,q10,q11,q12] at *;first | omega | (simp (disch:=omega) only [w64];omega)) | (have ha:=Exp.arity hG.1 (by assumption);have hJl2:=hJ2.1;simp only [Exp.o3,Exp.o4,Exp.o5,Exp.o6,Exp.o7,Exp.o8,Exp.o9,Exp.o10,Exp.o11,Exp.o12] at ha;omega) | (simp;done)):p:=h
def Bounds_b1_r(e':List Nd)(l:List Rng)(ox1:List (BA×I2)×Bool)(lx1:(List I2)):Int×Int×Int:=
 ((lx1.getD ((IntKind.i64.wrap ((lx1.length:Int) - 1)).toNat) zI2).c0,(lx1.getD ((IntKind.i64.wrap ((lx1.length:Int) - 1)).toNat) zI2).c1,0)
def Bounds_b2_r(e':List Nd)(l:List Rng)(ox1:List (BA×I2)×Bool)(li1:Nat)(lx1:(List I2))(lx2:(List I2)):Fl (List I2) (Int×Int×Int):=
 (bif (((e'.getD li1 zNd).op)==3) then (bif ((Bnd.beyond (((lx1.set li1 (Bnd.k_add lx2)).getD li1 zI2).c0))||(Bnd.beyond (((lx1.set li1 (Bnd.k_add lx2)).getD li1 zI2).c1))) then .rt (0,0,9) else .nx (lx1.set li1 (Bnd.k_add lx2))) else (bif (((e'.getD li1 zNd).op)==4) then (bif ((Bnd.beyond (((lx1.set li1 (Bnd.k_sub lx2)).getD li1 zI2).c0))||(Bnd.beyond (((lx1.set li1 (Bnd.k_sub lx2)).getD li1 zI2).c1))) then .rt (0,0,9) else .nx (lx1.set li1 (Bnd.k_sub lx2))) else (bif (((e'.getD li1 zNd).op)==5) then (bif ((Bnd.beyond (((lx1.set li1 (Bnd.k_mul lx2)).getD li1 zI2).c0))||(Bnd.beyond (((lx1.set li1 (Bnd.k_mul lx2)).getD li1 zI2).c1))) then .rt (0,0,9) else .nx (lx1.set li1 (Bnd.k_mul lx2))) else (bif (((e'.getD li1 zNd).op)==6) then (bif ((Bnd.beyond (((lx1.set li1 (Bnd.k_div lx2)).getD li1 zI2).c0))||(Bnd.beyond (((lx1.set li1 (Bnd.k_div lx2)).getD li1 zI2).c1))) then .rt (0,0,9) else .nx (lx1.set li1 (Bnd.k_div lx2))) else (bif (((e'.getD li1 zNd).op)==7) then (bif ((Bnd.beyond (((lx1.set li1 (Bnd.k_min lx2)).getD li1 zI2).c0))||(Bnd.beyond (((lx1.set li1 (Bnd.k_min lx2)).getD li1 zI2).c1))) then .rt (0,0,9) else .nx (lx1.set li1 (Bnd.k_min lx2))) else (bif (((e'.getD li1 zNd).op)==8) then (bif ((Bnd.beyond (((lx1.set li1 (Bnd.k_max lx2)).getD li1 zI2).c0))||(Bnd.beyond (((lx1.set li1 (Bnd.k_max lx2)).getD li1 zI2).c1))) then .rt (0,0,9) else .nx (lx1.set li1 (Bnd.k_max lx2))) else (bif (((e'.getD li1 zNd).op)==9) then (bif ((Bnd.beyond (((lx1.set li1 (Bnd.k_choose lx2)).getD li1 zI2).c0))||(Bnd.beyond (((lx1.set li1 (Bnd.k_choose lx2)).getD li1 zI2).c1))) then .rt (0,0,9) else .nx (lx1.set li1 (Bnd.k_choose lx2))) else (bif (((e'.getD li1 zNd).op)==10) then (bif ((Bnd.beyond (((lx1.set li1 (Bnd.k_less lx2)).getD li1 zI2).c0))||(Bnd.beyond (((lx1.set li1 (Bnd.k_less lx2)).getD li1 zI2).c1))) then .rt (0,0,9) else .nx (lx1.set li1 (Bnd.k_less lx2))) else (bif (((e'.getD li1 zNd).op)==11) then (bif ((Bnd.beyond (((lx1.set li1 (Bnd.k_equal lx2)).getD li1 zI2).c0))||(Bnd.beyond (((lx1.set li1 (Bnd.k_equal lx2)).getD li1 zI2).c1))) then .rt (0,0,9) else .nx (lx1.set li1 (Bnd.k_equal lx2))) else (bif (((e'.getD li1 zNd).op)==12) then (bif ((Bnd.beyond (((lx1.set li1 (Bnd.k_neg lx2)).getD li1 zI2).c0))||(Bnd.beyond (((lx1.set li1 (Bnd.k_neg lx2)).getD li1 zI2).c1))) then .rt (0,0,9) else .nx (lx1.set li1 (Bnd.k_neg lx2))) else .rt (0,0,0)))))))))))
def Bounds_b2(e':List Nd)(l:List Rng)(ox1:List (BA×I2)×Bool)(li1:Nat)(lx1:(List I2))(li2:Nat)(lx2:(List I2)):Fl (List I2) (Fl (List I2) (Int×Int×Int)):=
 .nx (lx2++[(lx1.getD ((((e'.getD li1 zNd).kids).getD li2 0).toNat) zI2)])
def Bounds_b2_s(e':List Nd)(l:List Rng)(ox1:List (BA×I2)×Bool)(li1:Nat)(lx1:(List I2))(li2:Nat)(qv:Int)(lx2:(List I2))(n15:Nat)(r15:List (List C)):S:=mkS 118 [(7,.b (.v (.c (.kmap false true (Sym.encM Sym.encS encI2 ox1.1))))),(9,.b (.v (.c (.ptr 9 0)))),(10,.b (.v (.c (.row 34 lx1.length)))),(11,.b (.v (vI (li1:Int)))),(12,.b (.v (.c (.ptr 12 0)))),(15,.b (.v (.c (.row 15 n15)))),(35,.b (.v (.c (.lst 4 e'.length (elM encNd zNd e'))))),(36,.b (.v (vI (e'.length:Int)))),(37,.b (.v (vI (li1:Int)))),(70,.b (.v (.c (.lst 1 (((e'.getD li1 zNd).kids).length) (elM Sym.encI 0 ((e'.getD li1 zNd).kids)))))),(71,.b (.v (vI (((e'.getD li1 zNd).kids).length:Int)))),(72,.b (.v (vI qv)))] [(9,.cells [.lit .nilFunc,.lit .nilFunc,.lit .nilFunc,.clo 185 [],.clo 186 [],.clo 187 [],.clo 188 [],.clo 189 [],.clo 190 [],.clo 191 [],.clo 192 [],.clo 193 [],.clo 194 []]),(12,.cells (encNd (e'.getD li1 zNd))),(15,.row 253 2 r15),(34,.row 253 2 (lx1.map encI2))]
def Bounds_b1(e':List Nd)(l:List Rng)(ox1:List (BA×I2)×Bool)(li1:Nat)(lx1:(List I2)):Fl (List I2) (Int×Int×Int):=
 (bif (((e'.getD li1 zNd).op)==1) then .nx (lx1.set li1 (⟨(e'.getD li1 zNd).num,(e'.getD li1 zNd).num⟩:I2)) else (bif (((e'.getD li1 zNd).op)==2) then (bif (!(mgetB Sym.eqS ox1.1 ((e'.getD li1 zNd).name))) then .rt (0,0,7) else .nx (lx1.set li1 (mgetD Sym.eqS zI2 ox1.1 ((e'.getD li1 zNd).name)))) else (runL (Bounds_b2 e' l ox1 li1 lx1) (((e'.getD li1 zNd).kids).length) 0 ([]:List I2)).fin (Bounds_b2_r e' l ox1 li1 lx1)))
def Bounds_b1_s(e':List Nd)(l:List Rng)(ox1:List (BA×I2)×Bool)(li1:Nat)(qv:Int)(lx1:(List I2))(n34:Nat)(r34:List (List C)):S:=mkS 118 [(7,.b (.v (.c (.kmap false true (Sym.encM Sym.encS encI2 ox1.1))))),(9,.b (.v (.c (.ptr 9 0)))),(10,.b (.v (.c (.row 34 n34)))),(35,.b (.v (.c (.lst 4 e'.length (elM encNd zNd e'))))),(36,.b (.v (vI (e'.length:Int)))),(37,.b (.v (vI qv)))] [(9,.cells [.lit .nilFunc,.lit .nilFunc,.lit .nilFunc,.clo 185 [],.clo 186 [],.clo 187 [],.clo 188 [],.clo 189 [],.clo 190 [],.clo 191 [],.clo 192 [],.clo 193 [],.clo 194 []]),(34,.row 253 2 r34)]
def Bounds(e':List Nd)(l:List Rng):Int×Int×Int:=
 (optC (Bnd.ranges l) (0,0,1) (fun ox1=>(bif ((!ox1.2)||(!(Exp.Valid e'))) then (0,0,1) else (runL (Bounds_b1 e' l ox1) e'.length 0 (List.replicate e'.length zI2)).fin (Bounds_b1_r e' l ox1))))
theorem Bounds_c(e':List Nd)(l:List Rng):FCall Tryz.prog 101 [.c (.lst 4 e'.length (elM encNd zNd e')),.c (.lst 3 l.length (elM encRng zRng l))] (.tup [vI ((Bounds e' l).1),vI ((Bounds e' l).2.1),vI ((Bounds e' l).2.2)]):=by
 have ee0:=Bounds.eq_1 e' l
 refine ul Tryz.func101 rfl (fun B hB=>?_)
 refine u0 ?_
 rcases hO1:(Bnd.ranges l) with _ | ox1
 ·have ee1:=ee0.trans (oN hO1)
  have cc2:=Bnd.ranges_c l
  rw [hO1] at cc2
  refine us 1 cc2 ?_
  have cc3:=Exp.Valid_c e'
  refine us 4 cc3 ?_
  refine rCondT true kr rfl ?_
  refine u0 ?_
  exact run_ret (ut _ (by rw [ee1]<;>rfl))
 ·have ee2:=ee0.trans (oS hO1)
  have cc4:=Bnd.ranges_c l
  rw [hO1] at cc4
  refine us 1 cc4 ?_
  have cc5:=Exp.Valid_c e'
  refine us 4 cc5 ?_
  refine ud ee2 (fun hh1 ee3=>?_) (fun hh1 ee4=>?_)
  ·refine u0 ?_
   exact run_ret (ut _ (by rw [ee3]<;>rfl))
  ·refine u0 ?_
   have hv:Exp.Valid e'=true:=by revert hh1;cases Exp.Valid e'<;>simp
   have hl:=(Exp.Valid_good hv).1
   refine uq [] [@pu (0≤(e'.length:Int)∧(e'.length:Int)≤(e'.length:Int)∧(e'.length:Int)*((16:Int)+1)≤140737488355328) vi] ?_
   refine u0 ?_
   refine uS 0 4 e'.length (elM encNd zNd e') (fun hL2=>?_)
   refine rForX e'.length (fun qi qv qz=>Bounds_b1_s e' l ox1 qi qv qz qz.length (qz.map encI2)) (Bounds_b1 e' l ox1) (fun li1 lx1=>lx1.length=e'.length∧Bd lx1) (List.replicate e'.length zI2) rfl mix (rowW (fun qn qr=>Bounds_b1_s e' l ox1 0 0 (List.replicate e'.length zI2) qn qr) e'.length (List.replicate e'.length [cI 0,cI 0]) (List.replicate e'.length zI2) (rowRn _ _) (rowR _ _ rfl) (wkTo [7,9,10,35,36,37] [] kr)) ⟨by simp,Bd.rep _⟩ (fun qi qz=>⟨kr,kr⟩) (fun li1 lx1 hi1 hJ1 hr1=>?_) (fun lx1 hJ1 hr1=>?_)
   ·have ee6:=Bounds_b1.eq_1 e' l ox1 li1 lx1
    have hG:=(Exp.Valid_good hv).2 li1 hi1
    have hJl:=hJ1.1
    refine uq [] [@pu (0≤(li1:Int)∧(li1:Int)<(e'.length:Int)) vi] ?_
    refine u0 ?_
    refine rBlock ?_
    refine u0 ?_
    refine ud ee6 (fun hh2 ee7=>?_) (fun hh2 ee8=>?_)
    ·refine uq [(8,.frz 0 (fun _=>(encI2 (lx1.getD li1 zI2))))] [@pu ((0≤(li1:Int)∧(li1:Int)<(lx1.length:Int))∧lx1.length=(lx1.map encI2).length) (⟨vi,rowN rfl rfl⟩),@pu ((lx1.length=(lx1.map encI2).length∧li1<lx1.length)∧(lx1.map encI2).getD li1 []=(encI2 (lx1.getD li1 zI2))) (rowGet rfl rfl vi)] ?_
     exact run_exit (blockR_out rfl (forX_nx (fun qi qv qz=>Bounds_b1_s e' l ox1 qi qv qz qz.length (qz.map encI2)) (lx1.set li1 (⟨(e'.getD li1 zNd).num,(e'.getD li1 zNd).num⟩:I2)) hi1 om kr (rowW (fun qn qr=>Bounds_b1_s e' l ox1 (li1+1) (IntKind.i64.wrap ((li1:Int)+1)) (lx1.set li1 (⟨(e'.getD li1 zNd).num,(e'.getD li1 zNd).num⟩:I2)) qn qr) lx1.length ((lx1.map encI2).set li1 (splice (encI2 (lx1.getD li1 zI2)) 0 [cI ((e'.getD li1 zNd).num),cI ((e'.getD li1 zNd).num)])) (lx1.set li1 (⟨(e'.getD li1 zNd).num,(e'.getD li1 zNd).num⟩:I2)) (rowSn rfl) (rowS rfl rfl) (wkTo [7,9,10,35,36,37] [12] kr)) (⟨by simpa using hJ1.1,Bd.set hJ1.2 (by first | exact num_bd hG.1 (by assumption) | exact ranges_bd hO1 _ | exact bey_bd (by assumption) om)⟩) ee7))
    ·refine u0 ?_
     refine ud ee8 (fun hh3 ee9=>?_) (fun hh3 ee13=>?_)
     ·refine uq [(3,.look (mgetB Sym.eqS ox1.1 ((e'.getD li1 zNd).name)) (encI2 (mgetD Sym.eqS zI2 ox1.1 ((e'.getD li1 zNd).name))))] [uk 9 false [.str],@pu (Look (Sym.encM Sym.encS encI2 ox1.1) (Sym.encS ((e'.getD li1 zNd).name)) (encI2 zI2) (mgetB Sym.eqS ox1.1 ((e'.getD li1 zNd).name)) (encI2 (mgetD Sym.eqS zI2 ox1.1 ((e'.getD li1 zNd).name)))) (look_of Sym.keyS _ _ _)] ?_
      refine u0 ?_
      refine ud ee9 (fun hh4 ee10=>?_) (fun hh4 ee12=>?_)
      ·refine u0 ?_
       have ee11:=fin_rt ee4 hr1 hi1 ee10
       exact run_ret (blockR_ret (ut _ (by rw [ee11]<;>rfl)))
      ·refine uq [(4,.frz 0 (fun _=>(encI2 (lx1.getD li1 zI2))))] [@pu ((0≤(li1:Int)∧(li1:Int)<(lx1.length:Int))∧lx1.length=(lx1.map encI2).length) (⟨vi,rowN rfl rfl⟩),@pu ((lx1.length=(lx1.map encI2).length∧li1<lx1.length)∧(lx1.map encI2).getD li1 []=(encI2 (lx1.getD li1 zI2))) (rowGet rfl rfl vi)] ?_
       exact run_exit (blockR_out rfl (forX_nx (fun qi qv qz=>Bounds_b1_s e' l ox1 qi qv qz qz.length (qz.map encI2)) (lx1.set li1 (mgetD Sym.eqS zI2 ox1.1 ((e'.getD li1 zNd).name))) hi1 om kr (rowW (fun qn qr=>Bounds_b1_s e' l ox1 (li1+1) (IntKind.i64.wrap ((li1:Int)+1)) (lx1.set li1 (mgetD Sym.eqS zI2 ox1.1 ((e'.getD li1 zNd).name))) qn qr) lx1.length ((lx1.map encI2).set li1 (splice (encI2 (lx1.getD li1 zI2)) 0 (encI2 (mgetD Sym.eqS zI2 ox1.1 ((e'.getD li1 zNd).name))))) (lx1.set li1 (mgetD Sym.eqS zI2 ox1.1 ((e'.getD li1 zNd).name))) (rowSn rfl) (rowS rfl rfl) (wkTo [7,9,10,35,36,37] [12,13] kr)) (⟨by simpa using hJ1.1,Bd.set hJ1.2 (by first | exact num_bd hG.1 (by assumption) | exact ranges_bd hO1 _ | exact bey_bd (by assumption) om)⟩) ee12))
     ·refine run_nil (blockR_normal ?_)
      refine u0 (u0 ?_)
      refine run_weaken (wk_nilRow 15 15 253 2 kr kr om) ?_ nofun
      refine uR 40 (.c (.kel 4 e'.length (elM encNd zNd e') li1 0)) (fun hR=>?_)
      have hL1:((e'.getD li1 zNd).kids).length≤9223372036854775807:=Real.len (Real.kel hR 3 om)
      refine rForX (((e'.getD li1 zNd).kids).length) (fun qi qv qz=>Bounds_b2_s e' l ox1 li1 lx1 qi qv qz qz.length (qz.map encI2)) (Bounds_b2 e' l ox1 li1 lx1) (fun li2 lx2=>lx2.length=li2∧Bd lx2) ([]:List I2) rfl mix (rowW (fun qn qr=>Bounds_b2_s e' l ox1 li1 lx1 0 0 ([]:List I2) qn qr) 0 [] ([]:List I2) (rfl) (rfl) (wkTo [7,9,10,11,12,15,35,36,37,70,71,72] [] kr)) ⟨rfl,Bd.nil⟩ (fun qi qz=>⟨kr,kr⟩) (fun li2 lx2 hi2 hJ2 hr2=>?_) (fun lx2 hJ2 hr2=>?_)
      ·have ee65:=Bounds_b2.eq_1 e' l ox1 li1 lx1 li2 lx2
       have hJl2:=hJ2.1
       have hk3:=Exp.formed_kids hG.1
       have ho3:=Exp.operands_le (e'.getD li1 zNd).op
       have hK:=hG.2 li2 hi2
       refine uq [] [@pu (0≤(li2:Int)∧(li2:Int)<(((e'.getD li1 zNd).kids).length:Int)) vi] ?_
       refine uq [(4,.frz 0 (fun _=>(encI2 (lx1.getD ((((e'.getD li1 zNd).kids).getD li2 0).toNat) zI2)))),(5,.frz 1 (elM encI2 zI2 [(lx1.getD ((((e'.getD li1 zNd).kids).getD li2 0).toNat) zI2)]))] [@pu ((0≤((e'.getD li1 zNd).kids).getD li2 0∧((e'.getD li1 zNd).kids).getD li2 0<(lx1.length:Int))∧lx1.length=(lx1.map encI2).length) (⟨vi,rowN rfl rfl⟩),@pu ((lx1.length=(lx1.map encI2).length∧((((e'.getD li1 zNd).kids).getD li2 0).toNat)<lx1.length)∧(lx1.map encI2).getD ((((e'.getD li1 zNd).kids).getD li2 0).toNat) []=(encI2 (lx1.getD ((((e'.getD li1 zNd).kids).getD li2 0).toNat) zI2))) (rowGet rfl rfl vi),@pu (1=1∧∀ i,i<1→(elM encI2 zI2 [(lx1.getD ((((e'.getD li1 zNd).kids).getD li2 0).toNat) zI2)]) i=[(encI2 (lx1.getD ((((e'.getD li1 zNd).kids).getD li2 0).toNat) zI2))].getD i []) (⟨rfl,fun i hi=>match i,hi with | 0,_=>rfl⟩),@pu (lx2.length=(lx2.map encI2).length) (rowN rfl rfl),@pu ((lx2.length+1)*(16+1)≤140737488355328) vi] ?_
       exact run_nil (forX_nx (fun qi qv qz=>Bounds_b2_s e' l ox1 li1 lx1 qi qv qz qz.length (qz.map encI2)) (lx2++[(lx1.getD ((((e'.getD li1 zNd).kids).getD li2 0).toNat) zI2)]) hi2 om kr (rowW (fun qn qr=>Bounds_b2_s e' l ox1 li1 lx1 (li2+1) (IntKind.i64.wrap ((li2:Int)+1)) (lx2++[(lx1.getD ((((e'.getD li1 zNd).kids).getD li2 0).toNat) zI2)]) qn qr) (lx2.length+1) ((lx2.map encI2)++((List.range 1).map (elM encI2 zI2 [(lx1.getD ((((e'.getD li1 zNd).kids).getD li2 0).toNat) zI2)]))) (lx2++[(lx1.getD ((((e'.getD li1 zNd).kids).getD li2 0).toNat) zI2)]) (rowAn rfl [(lx1.getD ((((e'.getD li1 zNd).kids).getD li2 0).toNat) zI2)]) (rowA rfl [(lx1.getD ((((e'.getD li1 zNd).kids).getD li2 0).toNat) zI2)]) (wkTo [7,9,10,11,12,15,35,36,37,70,71,72] [] kr)) (⟨by simp;exact hJ2.1,Bd.app hJ2.2 (hJ1.2 _)⟩) ee65)
      ·have ee14:=(fin_nx ee13 hr2).trans (Bounds_b2_r.eq_1 e' l ox1 li1 lx1 lx2)
       rcases Bool.eq_false_or_eq_true (((e'.getD li1 zNd).op)==3) with hs1 | hs1
       ·have ee15:=ee14.trans (bT hs1)
        refine frzRow hB 15 15 lx2.length 253 2 (lx2.map encI2) (elM encI2 zI2 lx2) [7,9,10,11,12,35,36,37] [] kr kr (len_row _ _) (elM_row _ _ _) kr ?_ nofun
        have cc6:=Bnd.k_add_c lx2 vi
        refine uq [(5,.frz 0 (fun _=>[.clo 185 []])),(7,hcon cc6),(9,.frz 0 (fun _=>(encI2 (lx1.getD li1 zI2))))] [@pu (0≤(e'.getD li1 zNd).op∧(e'.getD li1 zNd).op<(13:Int)) vi,@pu ((0+(((e'.getD li1 zNd).op).toNat)*1)+1≤([.lit .nilFunc,.lit .nilFunc,.lit .nilFunc,.clo 185 [],.clo 186 [],.clo 187 [],.clo 188 [],.clo 189 [],.clo 190 [],.clo 191 [],.clo 192 [],.clo 193 [],.clo 194 []]:List C).length∧sub ([.lit .nilFunc,.lit .nilFunc,.lit .nilFunc,.clo 185 [],.clo 186 [],.clo 187 [],.clo 188 [],.clo 189 [],.clo 190 [],.clo 191 [],.clo 192 [],.clo 193 [],.clo 194 []]:List C) (0+(((e'.getD li1 zNd).op).toNat)*1) 1=[.clo 185 []]) (by rw [show ((e'.getD li1 zNd).op)=3 by simpa using hs1];exact ⟨Nat.le_of_ble_eq_true rfl,rfl⟩),pu cc6,@pu ((0≤(li1:Int)∧(li1:Int)<(lx1.length:Int))∧lx1.length=(lx1.map encI2).length) (⟨vi,rowN rfl rfl⟩),@pu ((lx1.length=(lx1.map encI2).length∧li1<lx1.length)∧(lx1.map encI2).getD li1 []=(encI2 (lx1.getD li1 zI2))) (rowGet rfl rfl vi)] ?_
        have cc7:=Bnd.beyond_c (((lx1.set li1 (Bnd.k_add lx2)).getD li1 zI2).c0)
        have cc8:=Bnd.beyond_c (((lx1.set li1 (Bnd.k_add lx2)).getD li1 zI2).c1)
        refine uq [(4,.frz 0 (fun _=>(encI2 ((lx1.set li1 (Bnd.k_add lx2)).getD li1 zI2)))),(5,hcon cc7),(11,.frz 0 (fun _=>(encI2 ((lx1.set li1 (Bnd.k_add lx2)).getD li1 zI2)))),(12,hcon cc8)] [@pu ((0≤(li1:Int)∧(li1:Int)<(lx1.length:Int))∧lx1.length=((lx1.map encI2).set li1 (splice (encI2 (lx1.getD li1 zI2)) 0 (encI2 (Bnd.k_add lx2)))).length) (⟨vi,rowN (rowSn rfl) (rowS rfl rfl)⟩),@pu (((0 :Int)≤0∧0<(2:Int))∧lx1.length=((lx1.map encI2).set li1 (splice (encI2 (lx1.getD li1 zI2)) 0 (encI2 (Bnd.k_add lx2)))).length) (⟨om,rowN (rowSn rfl) (rowS rfl rfl)⟩),@pu ((lx1.length=((lx1.map encI2).set li1 (splice (encI2 (lx1.getD li1 zI2)) 0 (encI2 (Bnd.k_add lx2)))).length∧li1<lx1.length)∧((lx1.map encI2).set li1 (splice (encI2 (lx1.getD li1 zI2)) 0 (encI2 (Bnd.k_add lx2)))).getD li1 []=(encI2 ((lx1.set li1 (Bnd.k_add lx2)).getD li1 zI2))) (rowGet (rowSn rfl) (rowS rfl rfl) vi),pu cc7,@pg (!(Bnd.beyond (((lx1.set li1 (Bnd.k_add lx2)).getD li1 zI2).c0))) ((0≤(li1:Int)∧(li1:Int)<(lx1.length:Int))∧lx1.length=((lx1.map encI2).set li1 (splice (encI2 (lx1.getD li1 zI2)) 0 (encI2 (Bnd.k_add lx2)))).length) (fun hg=>⟨vi,rowN (rowSn rfl) (rowS rfl rfl)⟩),@pg (!(Bnd.beyond (((lx1.set li1 (Bnd.k_add lx2)).getD li1 zI2).c0))) (((0 :Int)≤1∧1<(2:Int))∧lx1.length=((lx1.map encI2).set li1 (splice (encI2 (lx1.getD li1 zI2)) 0 (encI2 (Bnd.k_add lx2)))).length) (fun hg=>⟨om,rowN (rowSn rfl) (rowS rfl rfl)⟩),@pg (!(Bnd.beyond (((lx1.set li1 (Bnd.k_add lx2)).getD li1 zI2).c0))) ((lx1.length=((lx1.map encI2).set li1 (splice (encI2 (lx1.getD li1 zI2)) 0 (encI2 (Bnd.k_add lx2)))).length∧li1<lx1.length)∧((lx1.map encI2).set li1 (splice (encI2 (lx1.getD li1 zI2)) 0 (encI2 (Bnd.k_add lx2)))).getD li1 []=(encI2 ((lx1.set li1 (Bnd.k_add lx2)).getD li1 zI2))) (fun hg=>rowGet (rowSn rfl) (rowS rfl rfl) vi),pu cc8] ?_
        refine ud ee15 (fun hh5 ee17=>?_) (fun hh5 ee19=>?_)
        ·refine u0 ?_
         have ee18:=fin_rt ee4 hr1 hi1 ee17
         exact run_ret (ut _ (by rw [ee18]<;>rfl))
        ·exact run_nil (forX_nx (fun qi qv qz=>Bounds_b1_s e' l ox1 qi qv qz qz.length (qz.map encI2)) (lx1.set li1 (Bnd.k_add lx2)) hi1 om kr (rowW (fun qn qr=>Bounds_b1_s e' l ox1 (li1+1) (IntKind.i64.wrap ((li1:Int)+1)) (lx1.set li1 (Bnd.k_add lx2)) qn qr) lx1.length ((lx1.map encI2).set li1 (splice (encI2 (lx1.getD li1 zI2)) 0 (encI2 (Bnd.k_add lx2)))) (lx1.set li1 (Bnd.k_add lx2)) (rowSn rfl) (rowS rfl rfl) (wkTo [7,9,10,35,36,37] [12] kr)) (⟨by simpa using hJ1.1,Bd.set hJ1.2 (by first | exact num_bd hG.1 (by assumption) | exact ranges_bd hO1 _ | exact bey_bd (by assumption) om)⟩) ee19)
       ·have ee16:=ee14.trans (bF hs1)
        rcases Bool.eq_false_or_eq_true (((e'.getD li1 zNd).op)==4) with hs2 | hs2
        ·have ee20:=ee16.trans (bT hs2)
         refine frzRow hB 15 15 lx2.length 253 2 (lx2.map encI2) (elM encI2 zI2 lx2) [7,9,10,11,12,35,36,37] [] kr kr (len_row _ _) (elM_row _ _ _) kr ?_ nofun
         have cc9:=Bnd.k_sub_c lx2 vi
         refine uq [(5,.frz 0 (fun _=>[.clo 186 []])),(7,hcon cc9),(9,.frz 0 (fun _=>(encI2 (lx1.getD li1 zI2))))] [@pu (0≤(e'.getD li1 zNd).op∧(e'.getD li1 zNd).op<(13:Int)) vi,@pu ((0+(((e'.getD li1 zNd).op).toNat)*1)+1≤([.lit .nilFunc,.lit .nilFunc,.lit .nilFunc,.clo 185 [],.clo 186 [],.clo 187 [],.clo 188 [],.clo 189 [],.clo 190 [],.clo 191 [],.clo 192 [],.clo 193 [],.clo 194 []]:List C).length∧sub ([.lit .nilFunc,.lit .nilFunc,.lit .nilFunc,.clo 185 [],.clo 186 [],.clo 187 [],.clo 188 [],.clo 189 [],.clo 190 [],.clo 191 [],.clo 192 [],.clo 193 [],.clo 194 []]:List C) (0+(((e'.getD li1 zNd).op).toNat)*1) 1=[.clo 186 []]) (by rw [show ((e'.getD li1 zNd).op)=4 by simpa using hs2];exact ⟨Nat.le_of_ble_eq_true rfl,rfl⟩),pu cc9,@pu ((0≤(li1:Int)∧(li1:Int)<(lx1.length:Int))∧lx1.length=(lx1.map encI2).length) (⟨vi,rowN rfl rfl⟩),@pu ((lx1.length=(lx1.map encI2).length∧li1<lx1.length)∧(lx1.map encI2).getD li1 []=(encI2 (lx1.getD li1 zI2))) (rowGet rfl rfl vi)] ?_
         have cc10:=Bnd.beyond_c (((lx1.set li1 (Bnd.k_sub lx2)).getD li1 zI2).c0)
         have cc11:=Bnd.beyond_c (((lx1.set li1 (Bnd.k_sub lx2)).getD li1 zI2).c1)
         refine uq [(4,.frz 0 (fun _=>(encI2 ((lx1.set li1 (Bnd.k_sub lx2)).getD li1 zI2)))),(5,hcon cc10),(11,.frz 0 (fun _=>(encI2 ((lx1.set li1 (Bnd.k_sub lx2)).getD li1 zI2)))),(12,hcon cc11)] [@pu ((0≤(li1:Int)∧(li1:Int)<(lx1.length:Int))∧lx1.length=((lx1.map encI2).set li1 (splice (encI2 (lx1.getD li1 zI2)) 0 (encI2 (Bnd.k_sub lx2)))).length) (⟨vi,rowN (rowSn rfl) (rowS rfl rfl)⟩),@pu (((0 :Int)≤0∧0<(2:Int))∧lx1.length=((lx1.map encI2).set li1 (splice (encI2 (lx1.getD li1 zI2)) 0 (encI2 (Bnd.k_sub lx2)))).length) (⟨om,rowN (rowSn rfl) (rowS rfl rfl)⟩),@pu ((lx1.length=((lx1.map encI2).set li1 (splice (encI2 (lx1.getD li1 zI2)) 0 (encI2 (Bnd.k_sub lx2)))).length∧li1<lx1.length)∧((lx1.map encI2).set li1 (splice (encI2 (lx1.getD li1 zI2)) 0 (encI2 (Bnd.k_sub lx2)))).getD li1 []=(encI2 ((lx1.set li1 (Bnd.k_sub lx2)).getD li1 zI2))) (rowGet (rowSn rfl) (rowS rfl rfl) vi),pu cc10,@pg (!(Bnd.beyond (((lx1.set li1 (Bnd.k_sub lx2)).getD li1 zI2).c0))) ((0≤(li1:Int)∧(li1:Int)<(lx1.length:Int))∧lx1.length=((lx1.map encI2).set li1 (splice (encI2 (lx1.getD li1 zI2)) 0 (encI2 (Bnd.k_sub lx2)))).length) (fun hg=>⟨vi,rowN (rowSn rfl) (rowS rfl rfl)⟩),@pg (!(Bnd.beyond (((lx1.set li1 (Bnd.k_sub lx2)).getD li1 zI2).c0))) (((0 :Int)≤1∧1<(2:Int))∧lx1.length=((lx1.map encI2).set li1 (splice (encI2 (lx1.getD li1 zI2)) 0 (encI2 (Bnd.k_sub lx2)))).length) (fun hg=>⟨om,rowN (rowSn rfl) (rowS rfl rfl)⟩),@pg (!(Bnd.beyond (((lx1.set li1 (Bnd.k_sub lx2)).getD li1 zI2).c0))) ((lx1.length=((lx1.map encI2).set li1 (splice (encI2 (lx1.getD li1 zI2)) 0 (encI2 (Bnd.k_sub lx2)))).length∧li1<lx1.length)∧((lx1.map encI2).set li1 (splice (encI2 (lx1.getD li1 zI2)) 0 (encI2 (Bnd.k_sub lx2)))).getD li1 []=(encI2 ((lx1.set li1 (Bnd.k_sub lx2)).getD li1 zI2))) (fun hg=>rowGet (rowSn rfl) (rowS rfl rfl) vi),pu cc11] ?_
         refine ud ee20 (fun hh6 ee22=>?_) (fun hh6 ee24=>?_)
         ·refine u0 ?_
          have ee23:=fin_rt ee4 hr1 hi1 ee22
          exact run_ret (ut _ (by rw [ee23]<;>rfl))
         ·exact run_nil (forX_nx (fun qi qv qz=>Bounds_b1_s e' l ox1 qi qv qz qz.length (qz.map encI2)) (lx1.set li1 (Bnd.k_sub lx2)) hi1 om kr (rowW (fun qn qr=>Bounds_b1_s e' l ox1 (li1+1) (IntKind.i64.wrap ((li1:Int)+1)) (lx1.set li1 (Bnd.k_sub lx2)) qn qr) lx1.length ((lx1.map encI2).set li1 (splice (encI2 (lx1.getD li1 zI2)) 0 (encI2 (Bnd.k_sub lx2)))) (lx1.set li1 (Bnd.k_sub lx2)) (rowSn rfl) (rowS rfl rfl) (wkTo [7,9,10,35,36,37] [12] kr)) (⟨by simpa using hJ1.1,Bd.set hJ1.2 (by first | exact num_bd hG.1 (by assumption) | exact ranges_bd hO1 _ | exact bey_bd (by assumption) om)⟩) ee24)
        ·have ee21:=ee16.trans (bF hs2)
         rcases Bool.eq_false_or_eq_true (((e'.getD li1 zNd).op)==5) with hs3 | hs3
         ·have ee25:=ee21.trans (bT hs3)
          refine frzRow hB 15 15 lx2.length 253 2 (lx2.map encI2) (elM encI2 zI2 lx2) [7,9,10,11,12,35,36,37] [] kr kr (len_row _ _) (elM_row _ _ _) kr ?_ nofun
          have cc12:=Bnd.k_mul_c lx2 vi (by exact hJ2.2)
          refine uq [(5,.frz 0 (fun _=>[.clo 187 []])),(7,hcon cc12),(9,.frz 0 (fun _=>(encI2 (lx1.getD li1 zI2))))] [@pu (0≤(e'.getD li1 zNd).op∧(e'.getD li1 zNd).op<(13:Int)) vi,@pu ((0+(((e'.getD li1 zNd).op).toNat)*1)+1≤([.lit .nilFunc,.lit .nilFunc,.lit .nilFunc,.clo 185 [],.clo 186 [],.clo 187 [],.clo 188 [],.clo 189 [],.clo 190 [],.clo 191 [],.clo 192 [],.clo 193 [],.clo 194 []]:List C).length∧sub ([.lit .nilFunc,.lit .nilFunc,.lit .nilFunc,.clo 185 [],.clo 186 [],.clo 187 [],.clo 188 [],.clo 189 [],.clo 190 [],.clo 191 [],.clo 192 [],.clo 193 [],.clo 194 []]:List C) (0+(((e'.getD li1 zNd).op).toNat)*1) 1=[.clo 187 []]) (by rw [show ((e'.getD li1 zNd).op)=5 by simpa using hs3];exact ⟨Nat.le_of_ble_eq_true rfl,rfl⟩),pu cc12,@pu ((0≤(li1:Int)∧(li1:Int)<(lx1.length:Int))∧lx1.length=(lx1.map encI2).length) (⟨vi,rowN rfl rfl⟩),@pu ((lx1.length=(lx1.map encI2).length∧li1<lx1.length)∧(lx1.map encI2).getD li1 []=(encI2 (lx1.getD li1 zI2))) (rowGet rfl rfl vi)] ?_
          have cc13:=Bnd.beyond_c (((lx1.set li1 (Bnd.k_mul lx2)).getD li1 zI2).c0)
          have cc14:=Bnd.beyond_c (((lx1.set li1 (Bnd.k_mul lx2)).getD li1 zI2).c1)
          refine uq [(4,.frz 0 (fun _=>(encI2 ((lx1.set li1 (Bnd.k_mul lx2)).getD li1 zI2)))),(5,hcon cc13),(11,.frz 0 (fun _=>(encI2 ((lx1.set li1 (Bnd.k_mul lx2)).getD li1 zI2)))),(12,hcon cc14)] [@pu ((0≤(li1:Int)∧(li1:Int)<(lx1.length:Int))∧lx1.length=((lx1.map encI2).set li1 (splice (encI2 (lx1.getD li1 zI2)) 0 (encI2 (Bnd.k_mul lx2)))).length) (⟨vi,rowN (rowSn rfl) (rowS rfl rfl)⟩),@pu (((0 :Int)≤0∧0<(2:Int))∧lx1.length=((lx1.map encI2).set li1 (splice (encI2 (lx1.getD li1 zI2)) 0 (encI2 (Bnd.k_mul lx2)))).length) (⟨om,rowN (rowSn rfl) (rowS rfl rfl)⟩),@pu ((lx1.length=((lx1.map encI2).set li1 (splice (encI2 (lx1.getD li1 zI2)) 0 (encI2 (Bnd.k_mul lx2)))).length∧li1<lx1.length)∧((lx1.map encI2).set li1 (splice (encI2 (lx1.getD li1 zI2)) 0 (encI2 (Bnd.k_mul lx2)))).getD li1 []=(encI2 ((lx1.set li1 (Bnd.k_mul lx2)).getD li1 zI2))) (rowGet (rowSn rfl) (rowS rfl rfl) vi),pu cc13,@pg (!(Bnd.beyond (((lx1.set li1 (Bnd.k_mul lx2)).getD li1 zI2).c0))) ((0≤(li1:Int)∧(li1:Int)<(lx1.length:Int))∧lx1.length=((lx1.map encI2).set li1 (splice (encI2 (lx1.getD li1 zI2)) 0 (encI2 (Bnd.k_mul lx2)))).length) (fun hg=>⟨vi,rowN (rowSn rfl) (rowS rfl rfl)⟩),@pg (!(Bnd.beyond (((lx1.set li1 (Bnd.k_mul lx2)).getD li1 zI2).c0))) (((0 :Int)≤1∧1<(2:Int))∧lx1.length=((lx1.map encI2).set li1 (splice (encI2 (lx1.getD li1 zI2)) 0 (encI2 (Bnd.k_mul lx2)))).length) (fun hg=>⟨om,rowN (rowSn rfl) (rowS rfl rfl)⟩),@pg (!(Bnd.beyond (((lx1.set li1 (Bnd.k_mul lx2)).getD li1 zI2).c0))) ((lx1.length=((lx1.map encI2).set li1 (splice (encI2 (lx1.getD li1 zI2)) 0 (encI2 (Bnd.k_mul lx2)))).length∧li1<lx1.length)∧((lx1.map encI2).set li1 (splice (encI2 (lx1.getD li1 zI2)) 0 (encI2 (Bnd.k_mul lx2)))).getD li1 []=(encI2 ((lx1.set li1 (Bnd.k_mul lx2)).getD li1 zI2))) (fun hg=>rowGet (rowSn rfl) (rowS rfl rfl) vi),pu cc14] ?_
          refine ud ee25 (fun hh7 ee27=>?_) (fun hh7 ee29=>?_)
          ·refine u0 ?_
           have ee28:=fin_rt ee4 hr1 hi1 ee27
           exact run_ret (ut _ (by rw [ee28]<;>rfl))
          ·exact run_nil (forX_nx (fun qi qv qz=>Bounds_b1_s e' l ox1 qi qv qz qz.length (qz.map encI2)) (lx1.set li1 (Bnd.k_mul lx2)) hi1 om kr (rowW (fun qn qr=>Bounds_b1_s e' l ox1 (li1+1) (IntKind.i64.wrap ((li1:Int)+1)) (lx1.set li1 (Bnd.k_mul lx2)) qn qr) lx1.length ((lx1.map encI2).set li1 (splice (encI2 (lx1.getD li1 zI2)) 0 (encI2 (Bnd.k_mul lx2)))) (lx1.set li1 (Bnd.k_mul lx2)) (rowSn rfl) (rowS rfl rfl) (wkTo [7,9,10,35,36,37] [12] kr)) (⟨by simpa using hJ1.1,Bd.set hJ1.2 (by first | exact num_bd hG.1 (by assumption) | exact ranges_bd hO1 _ | exact bey_bd (by assumption) om)⟩) ee29)
         ·have ee26:=ee21.trans (bF hs3)
          rcases Bool.eq_false_or_eq_true (((e'.getD li1 zNd).op)==6) with hs4 | hs4
          ·have ee30:=ee26.trans (bT hs4)
           refine frzRow hB 15 15 lx2.length 253 2 (lx2.map encI2) (elM encI2 zI2 lx2) [7,9,10,11,12,35,36,37] [] kr kr (len_row _ _) (elM_row _ _ _) kr ?_ nofun
           have cc15:=Bnd.k_div_c lx2 vi
           refine uq [(5,.frz 0 (fun _=>[.clo 188 []])),(7,hcon cc15),(9,.frz 0 (fun _=>(encI2 (lx1.getD li1 zI2))))] [@pu (0≤(e'.getD li1 zNd).op∧(e'.getD li1 zNd).op<(13:Int)) vi,@pu ((0+(((e'.getD li1 zNd).op).toNat)*1)+1≤([.lit .nilFunc,.lit .nilFunc,.lit .nilFunc,.clo 185 [],.clo 186 [],.clo 187 [],.clo 188 [],.clo 189 [],.clo 190 [],.clo 191 [],.clo 192 [],.clo 193 [],.clo 194 []]:List C).length∧sub ([.lit .nilFunc,.lit .nilFunc,.lit .nilFunc,.clo 185 [],.clo 186 [],.clo 187 [],.clo 188 [],.clo 189 [],.clo 190 [],.clo 191 [],.clo 192 [],.clo 193 [],.clo 194 []]:List C) (0+(((e'.getD li1 zNd).op).toNat)*1) 1=[.clo 188 []]) (by rw [show ((e'.getD li1 zNd).op)=6 by simpa using hs4];exact ⟨Nat.le_of_ble_eq_true rfl,rfl⟩),pu cc15,@pu ((0≤(li1:Int)∧(li1:Int)<(lx1.length:Int))∧lx1.length=(lx1.map encI2).length) (⟨vi,rowN rfl rfl⟩),@pu ((lx1.length=(lx1.map encI2).length∧li1<lx1.length)∧(lx1.map encI2).getD li1 []=(encI2 (lx1.getD li1 zI2))) (rowGet rfl rfl vi)] ?_
           have cc16:=Bnd.beyond_c (((lx1.set li1 (Bnd.k_div lx2)).getD li1 zI2).c0)
           have cc17:=Bnd.beyond_c (((lx1.set li1 (Bnd.k_div lx2)).getD li1 zI2).c1)
           refine uq [(4,.frz 0 (fun _=>(encI2 ((lx1.set li1 (Bnd.k_div lx2)).getD li1 zI2)))),(5,hcon cc16),(11,.frz 0 (fun _=>(encI2 ((lx1.set li1 (Bnd.k_div lx2)).getD li1 zI2)))),(12,hcon cc17)] [@pu ((0≤(li1:Int)∧(li1:Int)<(lx1.length:Int))∧lx1.length=((lx1.map encI2).set li1 (splice (encI2 (lx1.getD li1 zI2)) 0 (encI2 (Bnd.k_div lx2)))).length) (⟨vi,rowN (rowSn rfl) (rowS rfl rfl)⟩),@pu (((0 :Int)≤0∧0<(2:Int))∧lx1.length=((lx1.map encI2).set li1 (splice (encI2 (lx1.getD li1 zI2)) 0 (encI2 (Bnd.k_div lx2)))).length) (⟨om,rowN (rowSn rfl) (rowS rfl rfl)⟩),@pu ((lx1.length=((lx1.map encI2).set li1 (splice (encI2 (lx1.getD li1 zI2)) 0 (encI2 (Bnd.k_div lx2)))).length∧li1<lx1.length)∧((lx1.map encI2).set li1 (splice (encI2 (lx1.getD li1 zI2)) 0 (encI2 (Bnd.k_div lx2)))).getD li1 []=(encI2 ((lx1.set li1 (Bnd.k_div lx2)).getD li1 zI2))) (rowGet (rowSn rfl) (rowS rfl rfl) vi),pu cc16,@pg (!(Bnd.beyond (((lx1.set li1 (Bnd.k_div lx2)).getD li1 zI2).c0))) ((0≤(li1:Int)∧(li1:Int)<(lx1.length:Int))∧lx1.length=((lx1.map encI2).set li1 (splice (encI2 (lx1.getD li1 zI2)) 0 (encI2 (Bnd.k_div lx2)))).length) (fun hg=>⟨vi,rowN (rowSn rfl) (rowS rfl rfl)⟩),@pg (!(Bnd.beyond (((lx1.set li1 (Bnd.k_div lx2)).getD li1 zI2).c0))) (((0 :Int)≤1∧1<(2:Int))∧lx1.length=((lx1.map encI2).set li1 (splice (encI2 (lx1.getD li1 zI2)) 0 (encI2 (Bnd.k_div lx2)))).length) (fun hg=>⟨om,rowN (rowSn rfl) (rowS rfl rfl)⟩),@pg (!(Bnd.beyond (((lx1.set li1 (Bnd.k_div lx2)).getD li1 zI2).c0))) ((lx1.length=((lx1.map encI2).set li1 (splice (encI2 (lx1.getD li1 zI2)) 0 (encI2 (Bnd.k_div lx2)))).length∧li1<lx1.length)∧((lx1.map encI2).set li1 (splice (encI2 (lx1.getD li1 zI2)) 0 (encI2 (Bnd.k_div lx2)))).getD li1 []=(encI2 ((lx1.set li1 (Bnd.k_div lx2)).getD li1 zI2))) (fun hg=>rowGet (rowSn rfl) (rowS rfl rfl) vi),pu cc17] ?_
           refine ud ee30 (fun hh8 ee32=>?_) (fun hh8 ee34=>?_)
           ·refine u0 ?_
            have ee33:=fin_rt ee4 hr1 hi1 ee32
            exact run_ret (ut _ (by rw [ee33]<;>rfl))
           ·exact run_nil (forX_nx (fun qi qv qz=>Bounds_b1_s e' l ox1 qi qv qz qz.length (qz.map encI2)) (lx1.set li1 (Bnd.k_div lx2)) hi1 om kr (rowW (fun qn qr=>Bounds_b1_s e' l ox1 (li1+1) (IntKind.i64.wrap ((li1:Int)+1)) (lx1.set li1 (Bnd.k_div lx2)) qn qr) lx1.length ((lx1.map encI2).set li1 (splice (encI2 (lx1.getD li1 zI2)) 0 (encI2 (Bnd.k_div lx2)))) (lx1.set li1 (Bnd.k_div lx2)) (rowSn rfl) (rowS rfl rfl) (wkTo [7,9,10,35,36,37] [12] kr)) (⟨by simpa using hJ1.1,Bd.set hJ1.2 (by first | exact num_bd hG.1 (by assumption) | exact ranges_bd hO1 _ | exact bey_bd (by assumption) om)⟩) ee34)
          ·have ee31:=ee26.trans (bF hs4)
           rcases Bool.eq_false_or_eq_true (((e'.getD li1 zNd).op)==7) with hs5 | hs5
           ·have ee35:=ee31.trans (bT hs5)
            refine frzRow hB 15 15 lx2.length 253 2 (lx2.map encI2) (elM encI2 zI2 lx2) [7,9,10,11,12,35,36,37] [] kr kr (len_row _ _) (elM_row _ _ _) kr ?_ nofun
            have cc18:=Bnd.k_min_c lx2 vi
            refine uq [(5,.frz 0 (fun _=>[.clo 189 []])),(7,hcon cc18),(9,.frz 0 (fun _=>(encI2 (lx1.getD li1 zI2))))] [@pu (0≤(e'.getD li1 zNd).op∧(e'.getD li1 zNd).op<(13:Int)) vi,@pu ((0+(((e'.getD li1 zNd).op).toNat)*1)+1≤([.lit .nilFunc,.lit .nilFunc,.lit .nilFunc,.clo 185 [],.clo 186 [],.clo 187 [],.clo 188 [],.clo 189 [],.clo 190 [],.clo 191 [],.clo 192 [],.clo 193 [],.clo 194 []]:List C).length∧sub ([.lit .nilFunc,.lit .nilFunc,.lit .nilFunc,.clo 185 [],.clo 186 [],.clo 187 [],.clo 188 [],.clo 189 [],.clo 190 [],.clo 191 [],.clo 192 [],.clo 193 [],.clo 194 []]:List C) (0+(((e'.getD li1 zNd).op).toNat)*1) 1=[.clo 189 []]) (by rw [show ((e'.getD li1 zNd).op)=7 by simpa using hs5];exact ⟨Nat.le_of_ble_eq_true rfl,rfl⟩),pu cc18,@pu ((0≤(li1:Int)∧(li1:Int)<(lx1.length:Int))∧lx1.length=(lx1.map encI2).length) (⟨vi,rowN rfl rfl⟩),@pu ((lx1.length=(lx1.map encI2).length∧li1<lx1.length)∧(lx1.map encI2).getD li1 []=(encI2 (lx1.getD li1 zI2))) (rowGet rfl rfl vi)] ?_
            have cc19:=Bnd.beyond_c (((lx1.set li1 (Bnd.k_min lx2)).getD li1 zI2).c0)
            have cc20:=Bnd.beyond_c (((lx1.set li1 (Bnd.k_min lx2)).getD li1 zI2).c1)
            refine uq [(4,.frz 0 (fun _=>(encI2 ((lx1.set li1 (Bnd.k_min lx2)).getD li1 zI2)))),(5,hcon cc19),(11,.frz 0 (fun _=>(encI2 ((lx1.set li1 (Bnd.k_min lx2)).getD li1 zI2)))),(12,hcon cc20)] [@pu ((0≤(li1:Int)∧(li1:Int)<(lx1.length:Int))∧lx1.length=((lx1.map encI2).set li1 (splice (encI2 (lx1.getD li1 zI2)) 0 (encI2 (Bnd.k_min lx2)))).length) (⟨vi,rowN (rowSn rfl) (rowS rfl rfl)⟩),@pu (((0 :Int)≤0∧0<(2:Int))∧lx1.length=((lx1.map encI2).set li1 (splice (encI2 (lx1.getD li1 zI2)) 0 (encI2 (Bnd.k_min lx2)))).length) (⟨om,rowN (rowSn rfl) (rowS rfl rfl)⟩),@pu ((lx1.length=((lx1.map encI2).set li1 (splice (encI2 (lx1.getD li1 zI2)) 0 (encI2 (Bnd.k_min lx2)))).length∧li1<lx1.length)∧((lx1.map encI2).set li1 (splice (encI2 (lx1.getD li1 zI2)) 0 (encI2 (Bnd.k_min lx2)))).getD li1 []=(encI2 ((lx1.set li1 (Bnd.k_min lx2)).getD li1 zI2))) (rowGet (rowSn rfl) (rowS rfl rfl) vi),pu cc19,@pg (!(Bnd.beyond (((lx1.set li1 (Bnd.k_min lx2)).getD li1 zI2).c0))) ((0≤(li1:Int)∧(li1:Int)<(lx1.length:Int))∧lx1.length=((lx1.map encI2).set li1 (splice (encI2 (lx1.getD li1 zI2)) 0 (encI2 (Bnd.k_min lx2)))).length) (fun hg=>⟨vi,rowN (rowSn rfl) (rowS rfl rfl)⟩),@pg (!(Bnd.beyond (((lx1.set li1 (Bnd.k_min lx2)).getD li1 zI2).c0))) (((0 :Int)≤1∧1<(2:Int))∧lx1.length=((lx1.map encI2).set li1 (splice (encI2 (lx1.getD li1 zI2)) 0 (encI2 (Bnd.k_min lx2)))).length) (fun hg=>⟨om,rowN (rowSn rfl) (rowS rfl rfl)⟩),@pg (!(Bnd.beyond (((lx1.set li1 (Bnd.k_min lx2)).getD li1 zI2).c0))) ((lx1.length=((lx1.map encI2).set li1 (splice (encI2 (lx1.getD li1 zI2)) 0 (encI2 (Bnd.k_min lx2)))).length∧li1<lx1.length)∧((lx1.map encI2).set li1 (splice (encI2 (lx1.getD li1 zI2)) 0 (encI2 (Bnd.k_min lx2)))).getD li1 []=(encI2 ((lx1.set li1 (Bnd.k_min lx2)).getD li1 zI2))) (fun hg=>rowGet (rowSn rfl) (rowS rfl rfl) vi),pu cc20] ?_
            refine ud ee35 (fun hh9 ee37=>?_) (fun hh9 ee39=>?_)
            ·refine u0 ?_
             have ee38:=fin_rt ee4 hr1 hi1 ee37
             exact run_ret (ut _ (by rw [ee38]<;>rfl))
            ·exact run_nil (forX_nx (fun qi qv qz=>Bounds_b1_s e' l ox1 qi qv qz qz.length (qz.map encI2)) (lx1.set li1 (Bnd.k_min lx2)) hi1 om kr (rowW (fun qn qr=>Bounds_b1_s e' l ox1 (li1+1) (IntKind.i64.wrap ((li1:Int)+1)) (lx1.set li1 (Bnd.k_min lx2)) qn qr) lx1.length ((lx1.map encI2).set li1 (splice (encI2 (lx1.getD li1 zI2)) 0 (encI2 (Bnd.k_min lx2)))) (lx1.set li1 (Bnd.k_min lx2)) (rowSn rfl) (rowS rfl rfl) (wkTo [7,9,10,35,36,37] [12] kr)) (⟨by simpa using hJ1.1,Bd.set hJ1.2 (by first | exact num_bd hG.1 (by assumption) | exact ranges_bd hO1 _ | exact bey_bd (by assumption) om)⟩) ee39)
           ·have ee36:=ee31.trans (bF hs5)
            rcases Bool.eq_false_or_eq_true (((e'.getD li1 zNd).op)==8) with hs6 | hs6
            ·have ee40:=ee36.trans (bT hs6)
             refine frzRow hB 15 15 lx2.length 253 2 (lx2.map encI2) (elM encI2 zI2 lx2) [7,9,10,11,12,35,36,37] [] kr kr (len_row _ _) (elM_row _ _ _) kr ?_ nofun
             have cc21:=Bnd.k_max_c lx2 vi
             refine uq [(5,.frz 0 (fun _=>[.clo 190 []])),(7,hcon cc21),(9,.frz 0 (fun _=>(encI2 (lx1.getD li1 zI2))))] [@pu (0≤(e'.getD li1 zNd).op∧(e'.getD li1 zNd).op<(13:Int)) vi,@pu ((0+(((e'.getD li1 zNd).op).toNat)*1)+1≤([.lit .nilFunc,.lit .nilFunc,.lit .nilFunc,.clo 185 [],.clo 186 [],.clo 187 [],.clo 188 [],.clo 189 [],.clo 190 [],.clo 191 [],.clo 192 [],.clo 193 [],.clo 194 []]:List C).length∧sub ([.lit .nilFunc,.lit .nilFunc,.lit .nilFunc,.clo 185 [],.clo 186 [],.clo 187 [],.clo 188 [],.clo 189 [],.clo 190 [],.clo 191 [],.clo 192 [],.clo 193 [],.clo 194 []]:List C) (0+(((e'.getD li1 zNd).op).toNat)*1) 1=[.clo 190 []]) (by rw [show ((e'.getD li1 zNd).op)=8 by simpa using hs6];exact ⟨Nat.le_of_ble_eq_true rfl,rfl⟩),pu cc21,@pu ((0≤(li1:Int)∧(li1:Int)<(lx1.length:Int))∧lx1.length=(lx1.map encI2).length) (⟨vi,rowN rfl rfl⟩),@pu ((lx1.length=(lx1.map encI2).length∧li1<lx1.length)∧(lx1.map encI2).getD li1 []=(encI2 (lx1.getD li1 zI2))) (rowGet rfl rfl vi)] ?_
             have cc22:=Bnd.beyond_c (((lx1.set li1 (Bnd.k_max lx2)).getD li1 zI2).c0)
             have cc23:=Bnd.beyond_c (((lx1.set li1 (Bnd.k_max lx2)).getD li1 zI2).c1)
             refine uq [(4,.frz 0 (fun _=>(encI2 ((lx1.set li1 (Bnd.k_max lx2)).getD li1 zI2)))),(5,hcon cc22),(11,.frz 0 (fun _=>(encI2 ((lx1.set li1 (Bnd.k_max lx2)).getD li1 zI2)))),(12,hcon cc23)] [@pu ((0≤(li1:Int)∧(li1:Int)<(lx1.length:Int))∧lx1.length=((lx1.map encI2).set li1 (splice (encI2 (lx1.getD li1 zI2)) 0 (encI2 (Bnd.k_max lx2)))).length) (⟨vi,rowN (rowSn rfl) (rowS rfl rfl)⟩),@pu (((0 :Int)≤0∧0<(2:Int))∧lx1.length=((lx1.map encI2).set li1 (splice (encI2 (lx1.getD li1 zI2)) 0 (encI2 (Bnd.k_max lx2)))).length) (⟨om,rowN (rowSn rfl) (rowS rfl rfl)⟩),@pu ((lx1.length=((lx1.map encI2).set li1 (splice (encI2 (lx1.getD li1 zI2)) 0 (encI2 (Bnd.k_max lx2)))).length∧li1<lx1.length)∧((lx1.map encI2).set li1 (splice (encI2 (lx1.getD li1 zI2)) 0 (encI2 (Bnd.k_max lx2)))).getD li1 []=(encI2 ((lx1.set li1 (Bnd.k_max lx2)).getD li1 zI2))) (rowGet (rowSn rfl) (rowS rfl rfl) vi),pu cc22,@pg (!(Bnd.beyond (((lx1.set li1 (Bnd.k_max lx2)).getD li1 zI2).c0))) ((0≤(li1:Int)∧(li1:Int)<(lx1.length:Int))∧lx1.length=((lx1.map encI2).set li1 (splice (encI2 (lx1.getD li1 zI2)) 0 (encI2 (Bnd.k_max lx2)))).length) (fun hg=>⟨vi,rowN (rowSn rfl) (rowS rfl rfl)⟩),@pg (!(Bnd.beyond (((lx1.set li1 (Bnd.k_max lx2)).getD li1 zI2).c0))) (((0 :Int)≤1∧1<(2:Int))∧lx1.length=((lx1.map encI2).set li1 (splice (encI2 (lx1.getD li1 zI2)) 0 (encI2 (Bnd.k_max lx2)))).length) (fun hg=>⟨om,rowN (rowSn rfl) (rowS rfl rfl)⟩),@pg (!(Bnd.beyond (((lx1.set li1 (Bnd.k_max lx2)).getD li1 zI2).c0))) ((lx1.length=((lx1.map encI2).set li1 (splice (encI2 (lx1.getD li1 zI2)) 0 (encI2 (Bnd.k_max lx2)))).length∧li1<lx1.length)∧((lx1.map encI2).set li1 (splice (encI2 (lx1.getD li1 zI2)) 0 (encI2 (Bnd.k_max lx2)))).getD li1 []=(encI2 ((lx1.set li1 (Bnd.k_max lx2)).getD li1 zI2))) (fun hg=>rowGet (rowSn rfl) (rowS rfl rfl) vi),pu cc23] ?_
             refine ud ee40 (fun hh10 ee42=>?_) (fun hh10 ee44=>?_)
             ·refine u0 ?_
              have ee43:=fin_rt ee4 hr1 hi1 ee42
              exact run_ret (ut _ (by rw [ee43]<;>rfl))
             ·exact run_nil (forX_nx (fun qi qv qz=>Bounds_b1_s e' l ox1 qi qv qz qz.length (qz.map encI2)) (lx1.set li1 (Bnd.k_max lx2)) hi1 om kr (rowW (fun qn qr=>Bounds_b1_s e' l ox1 (li1+1) (IntKind.i64.wrap ((li1:Int)+1)) (lx1.set li1 (Bnd.k_max lx2)) qn qr) lx1.length ((lx1.map encI2).set li1 (splice (encI2 (lx1.getD li1 zI2)) 0 (encI2 (Bnd.k_max lx2)))) (lx1.set li1 (Bnd.k_max lx2)) (rowSn rfl) (rowS rfl rfl) (wkTo [7,9,10,35,36,37] [12] kr)) (⟨by simpa using hJ1.1,Bd.set hJ1.2 (by first | exact num_bd hG.1 (by assumption) | exact ranges_bd hO1 _ | exact bey_bd (by assumption) om)⟩) ee44)
            ·have ee41:=ee36.trans (bF hs6)
             rcases Bool.eq_false_or_eq_true (((e'.getD li1 zNd).op)==9) with hs7 | hs7
             ·have ee45:=ee41.trans (bT hs7)
              refine frzRow hB 15 15 lx2.length 253 2 (lx2.map encI2) (elM encI2 zI2 lx2) [7,9,10,11,12,35,36,37] [] kr kr (len_row _ _) (elM_row _ _ _) kr ?_ nofun
              have cc24:=Bnd.k_choose_c lx2 vi
              refine uq [(5,.frz 0 (fun _=>[.clo 191 []])),(7,hcon cc24),(9,.frz 0 (fun _=>(encI2 (lx1.getD li1 zI2))))] [@pu (0≤(e'.getD li1 zNd).op∧(e'.getD li1 zNd).op<(13:Int)) vi,@pu ((0+(((e'.getD li1 zNd).op).toNat)*1)+1≤([.lit .nilFunc,.lit .nilFunc,.lit .nilFunc,.clo 185 [],.clo 186 [],.clo 187 [],.clo 188 [],.clo 189 [],.clo 190 [],.clo 191 [],.clo 192 [],.clo 193 [],.clo 194 []]:List C).length∧sub ([.lit .nilFunc,.lit .nilFunc,.lit .nilFunc,.clo 185 [],.clo 186 [],.clo 187 [],.clo 188 [],.clo 189 [],.clo 190 [],.clo 191 [],.clo 192 [],.clo 193 [],.clo 194 []]:List C) (0+(((e'.getD li1 zNd).op).toNat)*1) 1=[.clo 191 []]) (by rw [show ((e'.getD li1 zNd).op)=9 by simpa using hs7];exact ⟨Nat.le_of_ble_eq_true rfl,rfl⟩),pu cc24,@pu ((0≤(li1:Int)∧(li1:Int)<(lx1.length:Int))∧lx1.length=(lx1.map encI2).length) (⟨vi,rowN rfl rfl⟩),@pu ((lx1.length=(lx1.map encI2).length∧li1<lx1.length)∧(lx1.map encI2).getD li1 []=(encI2 (lx1.getD li1 zI2))) (rowGet rfl rfl vi)] ?_
              have cc25:=Bnd.beyond_c (((lx1.set li1 (Bnd.k_choose lx2)).getD li1 zI2).c0)
              have cc26:=Bnd.beyond_c (((lx1.set li1 (Bnd.k_choose lx2)).getD li1 zI2).c1)
              refine uq [(4,.frz 0 (fun _=>(encI2 ((lx1.set li1 (Bnd.k_choose lx2)).getD li1 zI2)))),(5,hcon cc25),(11,.frz 0 (fun _=>(encI2 ((lx1.set li1 (Bnd.k_choose lx2)).getD li1 zI2)))),(12,hcon cc26)] [@pu ((0≤(li1:Int)∧(li1:Int)<(lx1.length:Int))∧lx1.length=((lx1.map encI2).set li1 (splice (encI2 (lx1.getD li1 zI2)) 0 (encI2 (Bnd.k_choose lx2)))).length) (⟨vi,rowN (rowSn rfl) (rowS rfl rfl)⟩),@pu (((0 :Int)≤0∧0<(2:Int))∧lx1.length=((lx1.map encI2).set li1 (splice (encI2 (lx1.getD li1 zI2)) 0 (encI2 (Bnd.k_choose lx2)))).length) (⟨om,rowN (rowSn rfl) (rowS rfl rfl)⟩),@pu ((lx1.length=((lx1.map encI2).set li1 (splice (encI2 (lx1.getD li1 zI2)) 0 (encI2 (Bnd.k_choose lx2)))).length∧li1<lx1.length)∧((lx1.map encI2).set li1 (splice (encI2 (lx1.getD li1 zI2)) 0 (encI2 (Bnd.k_choose lx2)))).getD li1 []=(encI2 ((lx1.set li1 (Bnd.k_choose lx2)).getD li1 zI2))) (rowGet (rowSn rfl) (rowS rfl rfl) vi),pu cc25,@pg (!(Bnd.beyond (((lx1.set li1 (Bnd.k_choose lx2)).getD li1 zI2).c0))) ((0≤(li1:Int)∧(li1:Int)<(lx1.length:Int))∧lx1.length=((lx1.map encI2).set li1 (splice (encI2 (lx1.getD li1 zI2)) 0 (encI2 (Bnd.k_choose lx2)))).length) (fun hg=>⟨vi,rowN (rowSn rfl) (rowS rfl rfl)⟩),@pg (!(Bnd.beyond (((lx1.set li1 (Bnd.k_choose lx2)).getD li1 zI2).c0))) (((0 :Int)≤1∧1<(2:Int))∧lx1.length=((lx1.map encI2).set li1 (splice (encI2 (lx1.getD li1 zI2)) 0 (encI2 (Bnd.k_choose lx2)))).length) (fun hg=>⟨om,rowN (rowSn rfl) (rowS rfl rfl)⟩),@pg (!(Bnd.beyond (((lx1.set li1 (Bnd.k_choose lx2)).getD li1 zI2).c0))) ((lx1.length=((lx1.map encI2).set li1 (splice (encI2 (lx1.getD li1 zI2)) 0 (encI2 (Bnd.k_choose lx2)))).length∧li1<lx1.length)∧((lx1.map encI2).set li1 (splice (encI2 (lx1.getD li1 zI2)) 0 (encI2 (Bnd.k_choose lx2)))).getD li1 []=(encI2 ((lx1.set li1 (Bnd.k_choose lx2)).getD li1 zI2))) (fun hg=>rowGet (rowSn rfl) (rowS rfl rfl) vi),pu cc26] ?_
              refine ud ee45 (fun hh11 ee47=>?_) (fun hh11 ee49=>?_)
              ·refine u0 ?_
               have ee48:=fin_rt ee4 hr1 hi1 ee47
               exact run_ret (ut _ (by rw [ee48]<;>rfl))
              ·exact run_nil (forX_nx (fun qi qv qz=>Bounds_b1_s e' l ox1 qi qv qz qz.length (qz.map encI2)) (lx1.set li1 (Bnd.k_choose lx2)) hi1 om kr (rowW (fun qn qr=>Bounds_b1_s e' l ox1 (li1+1) (IntKind.i64.wrap ((li1:Int)+1)) (lx1.set li1 (Bnd.k_choose lx2)) qn qr) lx1.length ((lx1.map encI2).set li1 (splice (encI2 (lx1.getD li1 zI2)) 0 (encI2 (Bnd.k_choose lx2)))) (lx1.set li1 (Bnd.k_choose lx2)) (rowSn rfl) (rowS rfl rfl) (wkTo [7,9,10,35,36,37] [12] kr)) (⟨by simpa using hJ1.1,Bd.set hJ1.2 (by first | exact num_bd hG.1 (by assumption) | exact ranges_bd hO1 _ | exact bey_bd (by assumption) om)⟩) ee49)
             ·have ee46:=ee41.trans (bF hs7)
              rcases Bool.eq_false_or_eq_true (((e'.getD li1 zNd).op)==10) with hs8 | hs8
              ·have ee50:=ee46.trans (bT hs8)
               refine frzRow hB 15 15 lx2.length 253 2 (lx2.map encI2) (elM encI2 zI2 lx2) [7,9,10,11,12,35,36,37] [] kr kr (len_row _ _) (elM_row _ _ _) kr ?_ nofun
               have cc27:=Bnd.k_less_c lx2 vi
               refine uq [(5,.frz 0 (fun _=>[.clo 192 []])),(7,hcon cc27),(9,.frz 0 (fun _=>(encI2 (lx1.getD li1 zI2))))] [@pu (0≤(e'.getD li1 zNd).op∧(e'.getD li1 zNd).op<(13:Int)) vi,@pu ((0+(((e'.getD li1 zNd).op).toNat)*1)+1≤([.lit .nilFunc,.lit .nilFunc,.lit .nilFunc,.clo 185 [],.clo 186 [],.clo 187 [],.clo 188 [],.clo 189 [],.clo 190 [],.clo 191 [],.clo 192 [],.clo 193 [],.clo 194 []]:List C).length∧sub ([.lit .nilFunc,.lit .nilFunc,.lit .nilFunc,.clo 185 [],.clo 186 [],.clo 187 [],.clo 188 [],.clo 189 [],.clo 190 [],.clo 191 [],.clo 192 [],.clo 193 [],.clo 194 []]:List C) (0+(((e'.getD li1 zNd).op).toNat)*1) 1=[.clo 192 []]) (by rw [show ((e'.getD li1 zNd).op)=10 by simpa using hs8];exact ⟨Nat.le_of_ble_eq_true rfl,rfl⟩),pu cc27,@pu ((0≤(li1:Int)∧(li1:Int)<(lx1.length:Int))∧lx1.length=(lx1.map encI2).length) (⟨vi,rowN rfl rfl⟩),@pu ((lx1.length=(lx1.map encI2).length∧li1<lx1.length)∧(lx1.map encI2).getD li1 []=(encI2 (lx1.getD li1 zI2))) (rowGet rfl rfl vi)] ?_
               have cc28:=Bnd.beyond_c (((lx1.set li1 (Bnd.k_less lx2)).getD li1 zI2).c0)
               have cc29:=Bnd.beyond_c (((lx1.set li1 (Bnd.k_less lx2)).getD li1 zI2).c1)
               refine uq [(4,.frz 0 (fun _=>(encI2 ((lx1.set li1 (Bnd.k_less lx2)).getD li1 zI2)))),(5,hcon cc28),(11,.frz 0 (fun _=>(encI2 ((lx1.set li1 (Bnd.k_less lx2)).getD li1 zI2)))),(12,hcon cc29)] [@pu ((0≤(li1:Int)∧(li1:Int)<(lx1.length:Int))∧lx1.length=((lx1.map encI2).set li1 (splice (encI2 (lx1.getD li1 zI2)) 0 (encI2 (Bnd.k_less lx2)))).length) (⟨vi,rowN (rowSn rfl) (rowS rfl rfl)⟩),@pu (((0 :Int)≤0∧0<(2:Int))∧lx1.length=((lx1.map encI2).set li1 (splice (encI2 (lx1.getD li1 zI2)) 0 (encI2 (Bnd.k_less lx2)))).length) (⟨om,rowN (rowSn rfl) (rowS rfl rfl)⟩),@pu ((lx1.length=((lx1.map encI2).set li1 (splice (encI2 (lx1.getD li1 zI2)) 0 (encI2 (Bnd.k_less lx2)))).length∧li1<lx1.length)∧((lx1.map encI2).set li1 (splice (encI2 (lx1.getD li1 zI2)) 0 (encI2 (Bnd.k_less lx2)))).getD li1 []=(encI2 ((lx1.set li1 (Bnd.k_less lx2)).getD li1 zI2))) (rowGet (rowSn rfl) (rowS rfl rfl) vi),pu cc28,@pg (!(Bnd.beyond (((lx1.set li1 (Bnd.k_less lx2)).getD li1 zI2).c0))) ((0≤(li1:Int)∧(li1:Int)<(lx1.length:Int))∧lx1.length=((lx1.map encI2).set li1 (splice (encI2 (lx1.getD li1 zI2)) 0 (encI2 (Bnd.k_less lx2)))).length) (fun hg=>⟨vi,rowN (rowSn rfl) (rowS rfl rfl)⟩),@pg (!(Bnd.beyond (((lx1.set li1 (Bnd.k_less lx2)).getD li1 zI2).c0))) (((0 :Int)≤1∧1<(2:Int))∧lx1.length=((lx1.map encI2).set li1 (splice (encI2 (lx1.getD li1 zI2)) 0 (encI2 (Bnd.k_less lx2)))).length) (fun hg=>⟨om,rowN (rowSn rfl) (rowS rfl rfl)⟩),@pg (!(Bnd.beyond (((lx1.set li1 (Bnd.k_less lx2)).getD li1 zI2).c0))) ((lx1.length=((lx1.map encI2).set li1 (splice (encI2 (lx1.getD li1 zI2)) 0 (encI2 (Bnd.k_less lx2)))).length∧li1<lx1.length)∧((lx1.map encI2).set li1 (splice (encI2 (lx1.getD li1 zI2)) 0 (encI2 (Bnd.k_less lx2)))).getD li1 []=(encI2 ((lx1.set li1 (Bnd.k_less lx2)).getD li1 zI2))) (fun hg=>rowGet (rowSn rfl) (rowS rfl rfl) vi),pu cc29] ?_
               refine ud ee50 (fun hh12 ee52=>?_) (fun hh12 ee54=>?_)
               ·refine u0 ?_
                have ee53:=fin_rt ee4 hr1 hi1 ee52
                exact run_ret (ut _ (by rw [ee53]<;>rfl))
               ·exact run_nil (forX_nx (fun qi qv qz=>Bounds_b1_s e' l ox1 qi qv qz qz.length (qz.map encI2)) (lx1.set li1 (Bnd.k_less lx2)) hi1 om kr (rowW (fun qn qr=>Bounds_b1_s e' l ox1 (li1+1) (IntKind.i64.wrap ((li1:Int)+1)) (lx1.set li1 (Bnd.k_less lx2)) qn qr) lx1.length ((lx1.map encI2).set li1 (splice (encI2 (lx1.getD li1 zI2)) 0 (encI2 (Bnd.k_less lx2)))) (lx1.set li1 (Bnd.k_less lx2)) (rowSn rfl) (rowS rfl rfl) (wkTo [7,9,10,35,36,37] [12] kr)) (⟨by simpa using hJ1.1,Bd.set hJ1.2 (by first | exact num_bd hG.1 (by assumption) | exact ranges_bd hO1 _ | exact bey_bd (by assumption) om)⟩) ee54)
              ·have ee51:=ee46.trans (bF hs8)
               rcases Bool.eq_false_or_eq_true (((e'.getD li1 zNd).op)==11) with hs9 | hs9
               ·have ee55:=ee51.trans (bT hs9)
                refine frzRow hB 15 15 lx2.length 253 2 (lx2.map encI2) (elM encI2 zI2 lx2) [7,9,10,11,12,35,36,37] [] kr kr (len_row _ _) (elM_row _ _ _) kr ?_ nofun
                have cc30:=Bnd.k_equal_c lx2 vi
                refine uq [(5,.frz 0 (fun _=>[.clo 193 []])),(7,hcon cc30),(9,.frz 0 (fun _=>(encI2 (lx1.getD li1 zI2))))] [@pu (0≤(e'.getD li1 zNd).op∧(e'.getD li1 zNd).op<(13:Int)) vi,@pu ((0+(((e'.getD li1 zNd).op).toNat)*1)+1≤([.lit .nilFunc,.lit .nilFunc,.lit .nilFunc,.clo 185 [],.clo 186 [],.clo 187 [],.clo 188 [],.clo 189 [],.clo 190 [],.clo 191 [],.clo 192 [],.clo 193 [],.clo 194 []]:List C).length∧sub ([.lit .nilFunc,.lit .nilFunc,.lit .nilFunc,.clo 185 [],.clo 186 [],.clo 187 [],.clo 188 [],.clo 189 [],.clo 190 [],.clo 191 [],.clo 192 [],.clo 193 [],.clo 194 []]:List C) (0+(((e'.getD li1 zNd).op).toNat)*1) 1=[.clo 193 []]) (by rw [show ((e'.getD li1 zNd).op)=11 by simpa using hs9];exact ⟨Nat.le_of_ble_eq_true rfl,rfl⟩),pu cc30,@pu ((0≤(li1:Int)∧(li1:Int)<(lx1.length:Int))∧lx1.length=(lx1.map encI2).length) (⟨vi,rowN rfl rfl⟩),@pu ((lx1.length=(lx1.map encI2).length∧li1<lx1.length)∧(lx1.map encI2).getD li1 []=(encI2 (lx1.getD li1 zI2))) (rowGet rfl rfl vi)] ?_
                have cc31:=Bnd.beyond_c (((lx1.set li1 (Bnd.k_equal lx2)).getD li1 zI2).c0)
                have cc32:=Bnd.beyond_c (((lx1.set li1 (Bnd.k_equal lx2)).getD li1 zI2).c1)
                refine uq [(4,.frz 0 (fun _=>(encI2 ((lx1.set li1 (Bnd.k_equal lx2)).getD li1 zI2)))),(5,hcon cc31),(11,.frz 0 (fun _=>(encI2 ((lx1.set li1 (Bnd.k_equal lx2)).getD li1 zI2)))),(12,hcon cc32)] [@pu ((0≤(li1:Int)∧(li1:Int)<(lx1.length:Int))∧lx1.length=((lx1.map encI2).set li1 (splice (encI2 (lx1.getD li1 zI2)) 0 (encI2 (Bnd.k_equal lx2)))).length) (⟨vi,rowN (rowSn rfl) (rowS rfl rfl)⟩),@pu (((0 :Int)≤0∧0<(2:Int))∧lx1.length=((lx1.map encI2).set li1 (splice (encI2 (lx1.getD li1 zI2)) 0 (encI2 (Bnd.k_equal lx2)))).length) (⟨om,rowN (rowSn rfl) (rowS rfl rfl)⟩),@pu ((lx1.length=((lx1.map encI2).set li1 (splice (encI2 (lx1.getD li1 zI2)) 0 (encI2 (Bnd.k_equal lx2)))).length∧li1<lx1.length)∧((lx1.map encI2).set li1 (splice (encI2 (lx1.getD li1 zI2)) 0 (encI2 (Bnd.k_equal lx2)))).getD li1 []=(encI2 ((lx1.set li1 (Bnd.k_equal lx2)).getD li1 zI2))) (rowGet (rowSn rfl) (rowS rfl rfl) vi),pu cc31,@pg (!(Bnd.beyond (((lx1.set li1 (Bnd.k_equal lx2)).getD li1 zI2).c0))) ((0≤(li1:Int)∧(li1:Int)<(lx1.length:Int))∧lx1.length=((lx1.map encI2).set li1 (splice (encI2 (lx1.getD li1 zI2)) 0 (encI2 (Bnd.k_equal lx2)))).length) (fun hg=>⟨vi,rowN (rowSn rfl) (rowS rfl rfl)⟩),@pg (!(Bnd.beyond (((lx1.set li1 (Bnd.k_equal lx2)).getD li1 zI2).c0))) (((0 :Int)≤1∧1<(2:Int))∧lx1.length=((lx1.map encI2).set li1 (splice (encI2 (lx1.getD li1 zI2)) 0 (encI2 (Bnd.k_equal lx2)))).length) (fun hg=>⟨om,rowN (rowSn rfl) (rowS rfl rfl)⟩),@pg (!(Bnd.beyond (((lx1.set li1 (Bnd.k_equal lx2)).getD li1 zI2).c0))) ((lx1.length=((lx1.map encI2).set li1 (splice (encI2 (lx1.getD li1 zI2)) 0 (encI2 (Bnd.k_equal lx2)))).length∧li1<lx1.length)∧((lx1.map encI2).set li1 (splice (encI2 (lx1.getD li1 zI2)) 0 (encI2 (Bnd.k_equal lx2)))).getD li1 []=(encI2 ((lx1.set li1 (Bnd.k_equal lx2)).getD li1 zI2))) (fun hg=>rowGet (rowSn rfl) (rowS rfl rfl) vi),pu cc32] ?_
                refine ud ee55 (fun hh13 ee57=>?_) (fun hh13 ee59=>?_)
                ·refine u0 ?_
                 have ee58:=fin_rt ee4 hr1 hi1 ee57
                 exact run_ret (ut _ (by rw [ee58]<;>rfl))
                ·exact run_nil (forX_nx (fun qi qv qz=>Bounds_b1_s e' l ox1 qi qv qz qz.length (qz.map encI2)) (lx1.set li1 (Bnd.k_equal lx2)) hi1 om kr (rowW (fun qn qr=>Bounds_b1_s e' l ox1 (li1+1) (IntKind.i64.wrap ((li1:Int)+1)) (lx1.set li1 (Bnd.k_equal lx2)) qn qr) lx1.length ((lx1.map encI2).set li1 (splice (encI2 (lx1.getD li1 zI2)) 0 (encI2 (Bnd.k_equal lx2)))) (lx1.set li1 (Bnd.k_equal lx2)) (rowSn rfl) (rowS rfl rfl) (wkTo [7,9,10,35,36,37] [12] kr)) (⟨by simpa using hJ1.1,Bd.set hJ1.2 (by first | exact num_bd hG.1 (by assumption) | exact ranges_bd hO1 _ | exact bey_bd (by assumption) om)⟩) ee59)
               ·have ee56:=ee51.trans (bF hs9)
                rcases Bool.eq_false_or_eq_true (((e'.getD li1 zNd).op)==12) with hs10 | hs10
                ·have ee60:=ee56.trans (bT hs10)
                 refine frzRow hB 15 15 lx2.length 253 2 (lx2.map encI2) (elM encI2 zI2 lx2) [7,9,10,11,12,35,36,37] [] kr kr (len_row _ _) (elM_row _ _ _) kr ?_ nofun
                 have cc33:=Bnd.k_neg_c lx2 vi
                 refine uq [(5,.frz 0 (fun _=>[.clo 194 []])),(7,hcon cc33),(9,.frz 0 (fun _=>(encI2 (lx1.getD li1 zI2))))] [@pu (0≤(e'.getD li1 zNd).op∧(e'.getD li1 zNd).op<(13:Int)) vi,@pu ((0+(((e'.getD li1 zNd).op).toNat)*1)+1≤([.lit .nilFunc,.lit .nilFunc,.lit .nilFunc,.clo 185 [],.clo 186 [],.clo 187 [],.clo 188 [],.clo 189 [],.clo 190 [],.clo 191 [],.clo 192 [],.clo 193 [],.clo 194 []]:List C).length∧sub ([.lit .nilFunc,.lit .nilFunc,.lit .nilFunc,.clo 185 [],.clo 186 [],.clo 187 [],.clo 188 [],.clo 189 [],.clo 190 [],.clo 191 [],.clo 192 [],.clo 193 [],.clo 194 []]:List C) (0+(((e'.getD li1 zNd).op).toNat)*1) 1=[.clo 194 []]) (by rw [show ((e'.getD li1 zNd).op)=12 by simpa using hs10];exact ⟨Nat.le_of_ble_eq_true rfl,rfl⟩),pu cc33,@pu ((0≤(li1:Int)∧(li1:Int)<(lx1.length:Int))∧lx1.length=(lx1.map encI2).length) (⟨vi,rowN rfl rfl⟩),@pu ((lx1.length=(lx1.map encI2).length∧li1<lx1.length)∧(lx1.map encI2).getD li1 []=(encI2 (lx1.getD li1 zI2))) (rowGet rfl rfl vi)] ?_
                 have cc34:=Bnd.beyond_c (((lx1.set li1 (Bnd.k_neg lx2)).getD li1 zI2).c0)
                 have cc35:=Bnd.beyond_c (((lx1.set li1 (Bnd.k_neg lx2)).getD li1 zI2).c1)
                 refine uq [(4,.frz 0 (fun _=>(encI2 ((lx1.set li1 (Bnd.k_neg lx2)).getD li1 zI2)))),(5,hcon cc34),(11,.frz 0 (fun _=>(encI2 ((lx1.set li1 (Bnd.k_neg lx2)).getD li1 zI2)))),(12,hcon cc35)] [@pu ((0≤(li1:Int)∧(li1:Int)<(lx1.length:Int))∧lx1.length=((lx1.map encI2).set li1 (splice (encI2 (lx1.getD li1 zI2)) 0 (encI2 (Bnd.k_neg lx2)))).length) (⟨vi,rowN (rowSn rfl) (rowS rfl rfl)⟩),@pu (((0 :Int)≤0∧0<(2:Int))∧lx1.length=((lx1.map encI2).set li1 (splice (encI2 (lx1.getD li1 zI2)) 0 (encI2 (Bnd.k_neg lx2)))).length) (⟨om,rowN (rowSn rfl) (rowS rfl rfl)⟩),@pu ((lx1.length=((lx1.map encI2).set li1 (splice (encI2 (lx1.getD li1 zI2)) 0 (encI2 (Bnd.k_neg lx2)))).length∧li1<lx1.length)∧((lx1.map encI2).set li1 (splice (encI2 (lx1.getD li1 zI2)) 0 (encI2 (Bnd.k_neg lx2)))).getD li1 []=(encI2 ((lx1.set li1 (Bnd.k_neg lx2)).getD li1 zI2))) (rowGet (rowSn rfl) (rowS rfl rfl) vi),pu cc34,@pg (!(Bnd.beyond (((lx1.set li1 (Bnd.k_neg lx2)).getD li1 zI2).c0))) ((0≤(li1:Int)∧(li1:Int)<(lx1.length:Int))∧lx1.length=((lx1.map encI2).set li1 (splice (encI2 (lx1.getD li1 zI2)) 0 (encI2 (Bnd.k_neg lx2)))).length) (fun hg=>⟨vi,rowN (rowSn rfl) (rowS rfl rfl)⟩),@pg (!(Bnd.beyond (((lx1.set li1 (Bnd.k_neg lx2)).getD li1 zI2).c0))) (((0 :Int)≤1∧1<(2:Int))∧lx1.length=((lx1.map encI2).set li1 (splice (encI2 (lx1.getD li1 zI2)) 0 (encI2 (Bnd.k_neg lx2)))).length) (fun hg=>⟨om,rowN (rowSn rfl) (rowS rfl rfl)⟩),@pg (!(Bnd.beyond (((lx1.set li1 (Bnd.k_neg lx2)).getD li1 zI2).c0))) ((lx1.length=((lx1.map encI2).set li1 (splice (encI2 (lx1.getD li1 zI2)) 0 (encI2 (Bnd.k_neg lx2)))).length∧li1<lx1.length)∧((lx1.map encI2).set li1 (splice (encI2 (lx1.getD li1 zI2)) 0 (encI2 (Bnd.k_neg lx2)))).getD li1 []=(encI2 ((lx1.set li1 (Bnd.k_neg lx2)).getD li1 zI2))) (fun hg=>rowGet (rowSn rfl) (rowS rfl rfl) vi),pu cc35] ?_
                 refine ud ee60 (fun hh14 ee62=>?_) (fun hh14 ee64=>?_)
                 ·refine u0 ?_
                  have ee63:=fin_rt ee4 hr1 hi1 ee62
                  exact run_ret (ut _ (by rw [ee63]<;>rfl))
                 ·exact run_nil (forX_nx (fun qi qv qz=>Bounds_b1_s e' l ox1 qi qv qz qz.length (qz.map encI2)) (lx1.set li1 (Bnd.k_neg lx2)) hi1 om kr (rowW (fun qn qr=>Bounds_b1_s e' l ox1 (li1+1) (IntKind.i64.wrap ((li1:Int)+1)) (lx1.set li1 (Bnd.k_neg lx2)) qn qr) lx1.length ((lx1.map encI2).set li1 (splice (encI2 (lx1.getD li1 zI2)) 0 (encI2 (Bnd.k_neg lx2)))) (lx1.set li1 (Bnd.k_neg lx2)) (rowSn rfl) (rowS rfl rfl) (wkTo [7,9,10,35,36,37] [12] kr)) (⟨by simpa using hJ1.1,Bd.set hJ1.2 (by first | exact num_bd hG.1 (by assumption) | exact ranges_bd hO1 _ | exact bey_bd (by assumption) om)⟩) ee64)
                ·have ee61:=ee56.trans (bF hs10)
                 exact False.elim (by have ho:=Exp.formed_op hG.1;simp only [beq_eq_false_iff_ne,ne_eq] at *;omega)
   ·have ee5:=(fin_nx ee4 hr1).trans (Bounds_b1_r.eq_1 e' l ox1 lx1)
    have hJl:=hJ1.1
    refine uq [(5,.frz 0 (fun _=>(encI2 (lx1.getD ((IntKind.i64.wrap ((lx1.length:Int) - 1)).toNat) zI2))))] [@pu (lx1.length=(lx1.map encI2).length) (rowN rfl rfl),@pu ((0≤(IntKind.i64.wrap ((lx1.length:Int) - 1))∧(IntKind.i64.wrap ((lx1.length:Int) - 1))<(lx1.length:Int))∧lx1.length=(lx1.map encI2).length) (⟨vi,rowN rfl rfl⟩),@pu ((lx1.length=(lx1.map encI2).length∧((IntKind.i64.wrap ((lx1.length:Int) - 1)).toNat)<lx1.length)∧(lx1.map encI2).getD ((IntKind.i64.wrap ((lx1.length:Int) - 1)).toNat) []=(encI2 (lx1.getD ((IntKind.i64.wrap ((lx1.length:Int) - 1)).toNat) zI2))) (rowGet rfl rfl vi)] ?_
    refine uq [] [ub 0 2,ub 1 2] ?_
    exact run_ret (ut _ (by rw [ee5]<;>rfl))
end Go.Proofs.YtidbmbpeblmliaaGreatDoor.Bns
