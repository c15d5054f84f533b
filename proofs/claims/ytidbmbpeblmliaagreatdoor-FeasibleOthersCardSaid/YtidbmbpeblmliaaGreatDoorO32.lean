/- Part of the proof of the statement that the claim's last text names: contracts of functions and laws of the symbolic layer. -/
import Derived.Test.YtidbmbpeblmliaaGreatDoorO14
import Derived.Test.YtidbmbpeblmliaaGreatDoorO27
import Derived.Test.YtidbmbpeblmliaaGreatDoorO31
set_option linter.unusedVariables false
set_option linter.unusedSimpArgs false
namespace Go.Proofs.YtidbmbpeblmliaaGreatDoor.LwO
open Go.Sym Go.Proofs.YtidbmbpeblmliaaGreatDoor
theorem frzCellN{B:Base Tryz.prog}{s:S}{cs:List Code}{Q:Exit→S→Prop}(hB:B.Fn)(n i r k k' e sz:Nat)(bs:List C)(css:List (List C))(f:Nat→List C)(ks ns:List Nat)(hn:s.m[n]?=some (some (.pcells bs)))(hi:bs[i]?=some (.row r k))(hm:s.m[r]?=some (some (.row e sz css))) 
  (hkk:k=k') (hk:k'=css.length) (hf:∀ i,i<k'→f i=css.getD i []) (hz:(frzC s n i r (.lst sz k' f) ks ns).isSome=true) (h:Run Tryz.prog B (getS (frzC s n i r (.lst sz k' f) ks ns)) cs Q) (hne:cs≠[]):Run Tryz.prog B s cs Q:=by
 subst hkk
 exact frzCell hB n i r k e sz bs css f ks ns hn hi hm hk hf hz h hne
theorem actN_le(l:List Ov)(m:Int):∀ n,(Ovr.actN l m n).length≤n
 | 0=>Nat.le_refl _
 | n+1=>by
  have:=actN_le l m n
  rw [Ovr.actN]
  split
  ·rw [List.length_append];simp;omega
  ·omega
theorem actL_le(l:List Ov)(m:Int):(Ovr.actL l m).length≤l.length:=actN_le l m _
theorem act_len{l:List Ov}{m:Int}(h:((!(Ovr.Valid l))||(!(Ovr.moment m)))=false):(Ovr.actL l m).length≤100:=by
 rw [Bool.or_eq_false_iff,Bool.not_eq_false'] at h
 have h1:=h.1
 rw [Ovr.Valid] at h1
 obtain ⟨h2,_⟩:=bif_f h1
 have:=actL_le l m
 simp only [decide_eq_false_iff_not] at h2
 omega
def Active_b1_r(l:List Ov)(m:Int)(lx1:(List Int)):(List Int)×Int:=
 (lx1,0)
def Active_b1(l:List Ov)(m:Int)(li1:Nat)(lx1:(List Int)):Fl (List Int) ((List Int)×Int):=
 .nx (lx1++[((Ovr.actL l m).getD li1 (0,zOv)).1])
def Active_b1_s(l:List Ov)(m:Int)(lx1:(List Int))(n21:Nat)(r21:List (List C)):S:=mkS 26 [(6,.b (.v (.c (.ptr 6 0))))] [(6,.pcells [.row 21 n21]),(21,.row 3 1 r21)]
def Active(l:List Ov)(m:Int):(List Int)×Int:=
 (bif ((!(Ovr.Valid l))||(!(Ovr.moment m))) then ([],1) else (runL (Active_b1 l m) ((Ovr.actL l m).length) 0 ([]:List Int)).fin (Active_b1_r l m))
theorem Active_c(l:List Ov)(m:Int):FCall Tryz.prog 30 [.c (.lst 7 l.length (elM encOv zOv l)),vI m] (.tup [.c (.lst 1 (((Active l m).1).length) (elM Sym.encI 0 ((Active l m).1))),vI ((Active l m).2)]):=by
 have ee0:=Active.eq_1 l m
 refine ul Tryz.func30 rfl (fun B hB=>?_)
 refine u0 ?_
 have cc1:=Ovr.Valid_c l
 have cc2:=Ovr.moment_c m
 refine uq [(1,hcon cc1),(5,hcon cc2)] [pu cc1,pu cc2] ?_
 refine ud ee0 (fun hh1 ee1=>?_) (fun hh1 ee2=>?_)
 ·refine u0 ?_
  refine run_weaken (wk_nilLst 4 1 (elM Sym.encI 0 []) kr) ?_ nofun
  exact run_ret (ut _ (by rw [ee1]<;>rfl))
 ·have hact:=act_len hh1
  refine u0 ?_
  have cc3:=Ovr.active_c l m
  refine us 2 cc3 ?_
  refine rBlock ?_
  refine run_weaken (wk_nilCell 6 0 21 3 1 [.nil] kr kr kr om) ?_ nofun
  refine rRangeX hB kr (Ovr.actL l m) (0,zOv) (fun a:Int×Ov=>[vI a.1,.agg (encOv a.2)]) (Ovr.active_it l m) (fun _=>rfl) (fun qz=>Active_b1_s l m qz qz.length (qz.map Sym.encI)) (Active_b1 l m) (fun li1 lx1=>lx1.length≤li1) ([]:List Int) (rowW (fun qn qr=>Active_b1_s l m ([]:List Int) qn qr) 0 [] ([]:List Int) (rfl) (rfl) (wkTo [6] [] kr)) (by simp) (fun i x y hi hJ hb=>?_) (fun _=>by kernel_rfl) (fun li1 lx1 hi1 hJ1 hr1 B1=>?_) (fun lx1 hJ1 hr1=>?_)
  ·simp only [Active_b1,cond_eq_ite] at hb
   repeat' split at hb
   all_goals first | (cases hb;done) | (cases hb;simp;omega)
  ·have ee4:=Active_b1.eq_1 l m li1 lx1
   refine u0 ?_
   refine run_nil ⟨rfl,kr,fun B2=>?_⟩
   refine rBlock ?_
   refine uq [] [@pu (lx1.length=(lx1.map Sym.encI).length) (rowN rfl rfl),uo ((lx1.length+1)*(8+1)≤140737488355328),@pu (1=[[cI (((Ovr.actL l m).getD li1 (0,zOv)).1)]].length) (rowN (show 1=List.length [((Ovr.actL l m).getD li1 (0,zOv)).1] from rfl) (show [[cI (((Ovr.actL l m).getD li1 (0,zOv)).1)]]=List.map Sym.encI [((Ovr.actL l m).getD li1 (0,zOv)).1] from rfl))] ?_
   refine run_nil (blockR_normal ?_)
   exact run_nil (⟨kr,lx1++[((Ovr.actL l m).getD li1 (0,zOv)).1],rowW (fun qn qr=>Active_b1_s l m (lx1++[((Ovr.actL l m).getD li1 (0,zOv)).1]) qn qr) (lx1.length+1) ((lx1.map Sym.encI)++[[cI (((Ovr.actL l m).getD li1 (0,zOv)).1)]]) (lx1++[((Ovr.actL l m).getD li1 (0,zOv)).1]) (rowBn rfl (show 1=List.length [((Ovr.actL l m).getD li1 (0,zOv)).1] from rfl)) (rowB rfl (show [[cI (((Ovr.actL l m).getD li1 (0,zOv)).1)]]=List.map Sym.encI [((Ovr.actL l m).getD li1 (0,zOv)).1] from rfl)) (wkTo [6] [23] kr),ee4⟩)
  ·have ee3:=(fin_nx ee2 hr1).trans (Active_b1_r.eq_1 l m lx1)
   refine run_nil (blockR_normal ?_)
   refine u0 ?_
   refine frzRow hB 4 21 lx1.length 3 1 (lx1.map Sym.encI) (elM Sym.encI 0 lx1) [5] [6] kr kr (len_row _ _) (elM_row _ _ _) kr ?_ nofun
   exact run_ret (ut _ (by rw [ee3]<;>rfl))
theorem Active_eq(l:List Ov)(m:Int):(Active l m).1.length≤l.length:=by
 rw [Active]
 cases h:((!(Ovr.Valid l))||(!(Ovr.moment m))) with
 | true=>exact Nat.zero_le _
 | false =>
  rw [cond_false]
  have hl:=actL_le l m
  refine runL_inv (bd:=Active_b1 l m) (fun i x=>x.length≤i) (fun q=>(q.fin (Active_b1_r l m)).1.length≤l.length) (n:=(Ovr.actL l m).length) (fun i x y hi hx hb=>?_) (fun i x y hi hx hb=>?_) (fun i x q hi hx hb=>?_) (fun x hx=>?_) _ 0 [] om (Nat.le_refl _)
  ·rw [Active_b1] at hb;cases hb;rw [List.length_append];simp;exact hx
  ·rw [Active_b1] at hb;cases hb
  ·rw [Active_b1] at hb;cases hb
  ·exact Nat.le_trans hx hl
theorem oths_few{w:Wd}{c:Scr}{s:Sta}(h:(!(Lw.few w c s))=false):c.spells.length≤8∧c.overrides.length≤8:=by
 rw [Bool.not_eq_false',Lw.few,Bool.and_eq_true,Bool.and_eq_true,Lw.FewScript] at h
 have h1:=h.1.2
 simp only [Bool.and_eq_true,decide_eq_true_eq] at h1
 omega
theorem oths_fit{w:Wd}{c:Scr}{s:Sta}{t:Int}(h:((Req.Requests w c s t).2.2 != 0)=false):w.telescopes.length≤6∧s.rigs.length=w.telescopes.length∧s.ghosts.length=w.telescopes.length:=by
 have hv:=Lw.req_valid h
 have hl:=(Req.valid_lens hv).1
 have hf:Fea.fits w s=true:=by
  rw [Req.Requests,hv] at h
  cases hf:Fea.fits w s with
  | true=>rfl
  | false=>rw [hf] at h;cases h
 obtain ⟨h1,_⟩:=bif_f (by rwa [Fea.fits] at hf)
 simp only [Bool.or_eq_false_iff,decide_eq_false_iff_not,Bool.not_eq_false',bne_eq_false_iff_eq] at h1
 omega
def ghoP(s:Sta):List Px:=List.replicate s.ghosts.length zPx
def Oths_b3_r(w:Wd)(c:Scr)(s:Sta)(t:Int)(other:Rg)(lx1:(List Spl))(lx2:(List Ov))(lx3:(List Rg)):Bool:=
 (((Hd.head&&(((Req.Requests w (⟨0,0,lx1,lx2,[],[],[]⟩:Scr) (⟨s.mom,s.turn,lx3,(ghoP s),s.courses,s.used,s.opn,[]⟩:Sta) t).2.2)==0))&&(Hd.SameRequests ((Req.Requests w c s t).1) ((Req.Requests w (⟨0,0,lx1,lx2,[],[],[]⟩:Scr) (⟨s.mom,s.turn,lx3,(ghoP s),s.courses,s.used,s.opn,[]⟩:Sta) t).1)))&&(Hd.SameExclusions ((Req.Requests w c s t).2.1) ((Req.Requests w (⟨0,0,lx1,lx2,[],[],[]⟩:Scr) (⟨s.mom,s.turn,lx3,(ghoP s),s.courses,s.used,s.opn,[]⟩:Sta) t).2.1)))
def Oths_b3(w:Wd)(c:Scr)(s:Sta)(t:Int)(other:Rg)(lx1:(List Spl))(lx2:(List Ov))(li3:Nat)(lx3:(List Rg)):Fl (List Rg) Bool:=
 (bif (((li3:Int) != t)&&(Rig.Valid (w.telescopes.getD li3 zTel) other)) then .nx (lx3.set li3 other) else .nx lx3)
def Oths_b3_s(w:Wd)(c:Scr)(s:Sta)(t:Int)(other:Rg)(lx1:(List Spl))(lx2:(List Ov))(li3:Nat)(qv:Int)(lx3:(List Rg))(n133:Nat)(r133:List (List C)):S:=mkS 186 [(3,.b (.v (vI t))),(5,.b (.v (.c (.kptr (encWd w) 0)))),(9,.b (.v (.c (.kptr (encRg other) 0)))),(11,.b (.v (vB Hd.head))),(12,.b (.v (.c (.lst 5 (((Req.Requests w c s t).1).length) (elM encRq zRq ((Req.Requests w c s t).1)))))),(13,.b (.v (.c (.lst 5 (((Req.Requests w c s t).2.1).length) (elM encExc zExc ((Req.Requests w c s t).2.1)))))),(15,.b (.v (.c (.ptr 15 0)))),(20,.b (.v (.c (.ptr 20 0)))),(21,.b (.v (vI qv)))] [(15,.cells [cI 0,cI 0,.lst 5 lx1.length (elM encSpl zSpl lx1),.lst 7 lx2.length (elM encOv zOv lx2),.nil,.nil,.nil]),(20,.pcells [cI s.mom,cI s.turn,.row 133 n133,.lst 4 ((ghoP s).length) (elM encPx zPx (ghoP s)),.lst 1 s.courses.length (elM (Sym.encL 4 encCs zCs) [] s.courses),.lst 1 s.used.length (elM Sym.encI 0 s.used),.lst 5 s.opn.length (elM encFol zFol s.opn),.nil]),(133,.row 83 3 r133)]
def Oths_b2_r(w:Wd)(c:Scr)(s:Sta)(t:Int)(other:Rg)(lx1:(List Spl))(lx2:(List Ov)):Bool:=
 (runL (Oths_b3 w c s t other lx1 lx2) (0+s.rigs.length) 0 s.rigs).fin (Oths_b3_r w c s t other lx1 lx2)
def Oths_b2(w:Wd)(c:Scr)(s:Sta)(t:Int)(other:Rg)(lx1:(List Spl))(li2:Nat)(lx2:(List Ov)):Fl (List Ov) Bool:=
 (bif ((decide ((((Active c.overrides s.mom).1).getD li2 0)<0))||(decide ((((Active c.overrides s.mom).1).getD li2 0)≥(c.overrides.length:Int)))) then .rt false else .nx (lx2++[(c.overrides.getD ((((Active c.overrides s.mom).1).getD li2 0).toNat) zOv)]))
def Oths_b2_s(w:Wd)(c:Scr)(s:Sta)(t:Int)(other:Rg)(lx1:(List Spl))(li2:Nat)(qv:Int)(lx2:(List Ov))(n19:Nat)(r19:List (List C)):S:=mkS 186 [(3,.b (.v (vI t))),(5,.b (.v (.c (.kptr (encWd w) 0)))),(6,.b (.v (.c (.kptr (encScr c) 0)))),(7,.b (.v (.c (.kptr (encSta s) 0)))),(9,.b (.v (.c (.kptr (encRg other) 0)))),(11,.b (.v (vB Hd.head))),(12,.b (.v (.c (.lst 5 (((Req.Requests w c s t).1).length) (elM encRq zRq ((Req.Requests w c s t).1)))))),(13,.b (.v (.c (.lst 5 (((Req.Requests w c s t).2.1).length) (elM encExc zExc ((Req.Requests w c s t).2.1)))))),(15,.b (.v (.c (.ptr 15 0)))),(17,.b (.v (.c (.lst 1 (((Active c.overrides s.mom).1).length) (elM Sym.encI 0 ((Active c.overrides s.mom).1)))))),(19,.b (.v (vI qv)))] [(15,.pcells [cI 0,cI 0,.row 16 lx1.length,.row 19 n19,.nil,.nil,.nil]),(16,.row 98 5 (lx1.map encSpl)),(19,.row 102 7 r19)]
def Oths_b1_r(w:Wd)(c:Scr)(s:Sta)(t:Int)(other:Rg)(lx1:(List Spl)):Bool:=
 (bif (((Active c.overrides s.mom).2) != 0) then false else (runL (Oths_b2 w c s t other lx1) (((Active c.overrides s.mom).1).length) 0 ([]:List Ov)).fin (Oths_b2_r w c s t other lx1))
def Oths_b1(w:Wd)(c:Scr)(s:Sta)(t:Int)(other:Rg)(li1:Nat)(lx1:(List Spl)):Fl (List Spl) Bool:=
 (bif ((decide (((c.spells.getD li1 zSpl).frm)≤s.mom))&&(decide (s.mom≤((c.spells.getD li1 zSpl).til)))) then .nx (lx1++[(c.spells.getD li1 zSpl)]) else .nx lx1)
def Oths_b1_s(w:Wd)(c:Scr)(s:Sta)(t:Int)(other:Rg)(li1:Nat)(qv:Int)(lx1:(List Spl))(n16:Nat)(r16:List (List C)):S:=mkS 186 [(3,.b (.v (vI t))),(5,.b (.v (.c (.kptr (encWd w) 0)))),(6,.b (.v (.c (.kptr (encScr c) 0)))),(7,.b (.v (.c (.kptr (encSta s) 0)))),(9,.b (.v (.c (.kptr (encRg other) 0)))),(11,.b (.v (vB Hd.head))),(12,.b (.v (.c (.lst 5 (((Req.Requests w c s t).1).length) (elM encRq zRq ((Req.Requests w c s t).1)))))),(13,.b (.v (.c (.lst 5 (((Req.Requests w c s t).2.1).length) (elM encExc zExc ((Req.Requests w c s t).2.1)))))),(15,.b (.v (.c (.ptr 15 0)))),(16,.b (.v (vI qv)))] [(15,.pcells [cI 0,cI 0,.row 16 n16,.row 19 0,.nil,.nil,.nil]),(16,.row 98 5 r16),(19,.row 102 7 [])]
def Oths(w:Wd)(c:Scr)(s:Sta)(t:Int)(other:Rg):Bool:=
 (bif (!(Lw.few w c s)) then Hd.head else (bif (((Req.Requests w c s t).2.2) != 0) then Hd.head else (runL (Oths_b1 w c s t other) c.spells.length 0 ([]:List Spl)).fin (Oths_b1_r w c s t other)))
theorem Oths_c(w:Wd)(c:Scr)(s:Sta)(t:Int)(other:Rg):FCall Tryz.prog 8 [.agg (encWd w),.agg (encScr c),.agg (encSta s),vI t,.agg (encRg other)] (.v (vB (Oths w c s t other))):=by
 have ee0:=Oths.eq_1 w c s t other
 refine ul Tryz.func8 rfl (fun B hB=>?_)
 refine uq [(0,.imm),(1,.imm),(2,.imm),(3,.imm)] [] ?_
 have cc1:=Hd.head_c
 refine us 0 cc1 ?_
 have cc2:=Lw.few_c w c s
 refine us 3 cc2 ?_
 refine ud ee0 (fun hh1 ee1=>?_) (fun hh1 ee2=>?_)
 ·refine u0 ?_
  exact run_ret (ut _ (by rw [ee1]<;>rfl))
 ·have cc3:=Req.Requests_c w c s t
  refine us 4 cc3 ?_
  refine u0 ?_
  refine ud ee2 (fun hh2 ee3=>?_) (fun hh2 ee4=>?_)
  ·refine u0 ?_
   exact run_ret (ut _ (by rw [ee3]<;>rfl))
  ·have hof:=oths_few hh1
   have hoh:=oths_fit hh2
   refine u0 ?_
   refine run_weaken (wk_nilCell 15 2 16 98 5 [cI 0,cI 0,.nil,.nil,.nil,.nil,.nil] kr kr kr om) ?_ nofun
   refine run_weaken (wk_nilCellP 15 3 19 102 7 [cI 0,cI 0,.row 16 0,.nil,.nil,.nil,.nil] kr kr kr om) ?_ nofun
   refine u0 ?_
   refine uR 1 (.agg (encScr c)) (fun hR=>?_)
   have hL3:c.spells.length≤9223372036854775807:=Real.len (hR 2 (Nat.le_of_ble_eq_true rfl))
   refine rForX c.spells.length (fun qi qv qz=>Oths_b1_s w c s t other qi qv qz qz.length (qz.map encSpl)) (Oths_b1 w c s t other) (fun li1 lx1=>lx1.length≤li1) ([]:List Spl) rfl mix (rowW (fun qn qr=>Oths_b1_s w c s t other 0 0 ([]:List Spl) qn qr) 0 [] ([]:List Spl) (rfl) (rfl) (wkTo [3,5,6,7,9,11,12,13,15,16] [] kr)) (by simp) (fun qi qz=>⟨kr,kr⟩) (fun li1 lx1 hi1 hJ1 hr1=>?_) (fun lx1 hJ1 hr1=>?_)
   ·have ee17:=Oths_b1.eq_1 w c s t other li1 lx1
    refine uq [] [ub (li1:Int) c.spells.length,uh (decide (((c.spells.getD li1 zSpl).frm)≤s.mom)) (li1:Int) c.spells.length] ?_
    refine ud ee17 (fun hh6 ee18=>?_) (fun hh6 ee19=>?_)
    ·refine uq [(7,.frz 1 (elM encSpl zSpl [(c.spells.getD li1 zSpl)]))] [ub (li1:Int) c.spells.length,@pu (1=1∧∀ i,i<1→(elM encSpl zSpl [(c.spells.getD li1 zSpl)]) i=[(encSpl (c.spells.getD li1 zSpl))].getD i []) (⟨rfl,fun i hi=>match i,hi with | 0,_=>rfl⟩),@pu (lx1.length=(lx1.map encSpl).length) (rowN rfl rfl),uo ((lx1.length+1)*(40+1)≤140737488355328)] ?_
     exact run_nil (forX_nx (fun qi qv qz=>Oths_b1_s w c s t other qi qv qz qz.length (qz.map encSpl)) (lx1++[(c.spells.getD li1 zSpl)]) hi1 om kr (rowW (fun qn qr=>Oths_b1_s w c s t other (li1+1) (IntKind.i64.wrap ((li1:Int)+1)) (lx1++[(c.spells.getD li1 zSpl)]) qn qr) (lx1.length+1) ((lx1.map encSpl)++((List.range 1).map (elM encSpl zSpl [(c.spells.getD li1 zSpl)]))) (lx1++[(c.spells.getD li1 zSpl)]) (rowAn rfl [(c.spells.getD li1 zSpl)]) (rowA rfl [(c.spells.getD li1 zSpl)]) (wkTo [3,5,6,7,9,11,12,13,15,16] [] kr)) ((by first | omega | (simp;omega) | (simp only [List.length_append,List.length_cons,List.length_nil] at *;omega))) ee18)
    ·exact run_nil (forX_nx (fun qi qv qz=>Oths_b1_s w c s t other qi qv qz qz.length (qz.map encSpl)) lx1 hi1 om kr (rowW (fun qn qr=>Oths_b1_s w c s t other (li1+1) (IntKind.i64.wrap ((li1:Int)+1)) lx1 qn qr) lx1.length (lx1.map encSpl) lx1 (rfl) (rfl) (wkTo [3,5,6,7,9,11,12,13,15,16] [] kr)) ((by first | omega | (simp;omega) | (simp only [List.length_append,List.length_cons,List.length_nil] at *;omega))) ee19)
   ·have ee5:=(fin_nx ee4 hr1).trans (Oths_b1_r.eq_1 w c s t other lx1)
    have hac:=Active_eq c.overrides s.mom
    have cc4:=Active_c c.overrides s.mom
    refine us 4 cc4 ?_
    refine u0 ?_
    refine ud ee5 (fun hh3 ee6=>?_) (fun hh3 ee7=>?_)
    ·refine u0 ?_
     exact run_ret (ut _ (by rw [ee6]<;>rfl))
    ·refine u0 ?_
     refine uS 17 1 (((Active c.overrides s.mom).1).length) (elM Sym.encI 0 ((Active c.overrides s.mom).1)) (fun hL2=>?_)
     refine rForX (((Active c.overrides s.mom).1).length) (fun qi qv qz=>Oths_b2_s w c s t other lx1 qi qv qz qz.length (qz.map encOv)) (Oths_b2 w c s t other lx1) (fun li2 lx2=>lx2.length≤li2) ([]:List Ov) rfl mix (rowW (fun qn qr=>Oths_b2_s w c s t other lx1 0 0 ([]:List Ov) qn qr) 0 [] ([]:List Ov) (rfl) (rfl) (wkTo [3,5,6,7,9,11,12,13,15,17,19] [] kr)) (by simp) (fun qi qz=>⟨kr,kr⟩) (fun li2 lx2 hi2 hJ2 hr2=>?_) (fun lx2 hJ2 hr2=>?_)
     ·have ee13:=Oths_b2.eq_1 w c s t other lx1 li2 lx2
      refine uq [] [ub (li2:Int) ((Active c.overrides s.mom).1).length,uh (!(decide ((((Active c.overrides s.mom).1).getD li2 0)<0))) (li2:Int) ((Active c.overrides s.mom).1).length] ?_
      refine ud ee13 (fun hh5 ee14=>?_) (fun hh5 ee16=>?_)
      ·refine u0 ?_
       have ee15:=fin_rt ee7 hr2 hi2 ee14
       exact run_ret (ut _ (by rw [ee15]<;>rfl))
      ·refine uq [(10,.frz 1 (elM encOv zOv [(c.overrides.getD ((((Active c.overrides s.mom).1).getD li2 0).toNat) zOv)]))] [ub (li2:Int) ((Active c.overrides s.mom).1).length,ub (((Active c.overrides s.mom).1).getD li2 0) c.overrides.length,@pu (1=1∧∀ i,i<1→(elM encOv zOv [(c.overrides.getD ((((Active c.overrides s.mom).1).getD li2 0).toNat) zOv)]) i=[(encOv (c.overrides.getD ((((Active c.overrides s.mom).1).getD li2 0).toNat) zOv))].getD i []) (⟨rfl,fun i hi=>match i,hi with | 0,_=>rfl⟩),@pu (lx2.length=(lx2.map encOv).length) (rowN rfl rfl),uo ((lx2.length+1)*(56+1)≤140737488355328)] ?_
       exact run_nil (forX_nx (fun qi qv qz=>Oths_b2_s w c s t other lx1 qi qv qz qz.length (qz.map encOv)) (lx2++[(c.overrides.getD ((((Active c.overrides s.mom).1).getD li2 0).toNat) zOv)]) hi2 om kr (rowW (fun qn qr=>Oths_b2_s w c s t other lx1 (li2+1) (IntKind.i64.wrap ((li2:Int)+1)) (lx2++[(c.overrides.getD ((((Active c.overrides s.mom).1).getD li2 0).toNat) zOv)]) qn qr) (lx2.length+1) ((lx2.map encOv)++((List.range 1).map (elM encOv zOv [(c.overrides.getD ((((Active c.overrides s.mom).1).getD li2 0).toNat) zOv)]))) (lx2++[(c.overrides.getD ((((Active c.overrides s.mom).1).getD li2 0).toNat) zOv)]) (rowAn rfl [(c.overrides.getD ((((Active c.overrides s.mom).1).getD li2 0).toNat) zOv)]) (rowA rfl [(c.overrides.getD ((((Active c.overrides s.mom).1).getD li2 0).toNat) zOv)]) (wkTo [3,5,6,7,9,11,12,13,15,17,19] [] kr)) ((by first | omega | (simp;omega) | (simp only [List.length_append,List.length_cons,List.length_nil] at *;omega))) ee16)
     ·have ee8:=(fin_nx ee7 hr2).trans (Oths_b2_r.eq_1 w c s t other lx1 lx2)
      refine u0 ?_
      refine frzCell hB 15 2 16 lx1.length 98 5 [cI 0,cI 0,.row 16 lx1.length,.row 19 lx2.length,.nil,.nil,.nil] (lx1.map encSpl) (elM encSpl zSpl lx1) [3,5,7,9,11,12,13,15,20] [] kr kr kr (len_row _ _) (elM_row _ _ _) kr ?_ nofun
      refine frzCell hB 15 3 19 lx2.length 102 7 [cI 0,cI 0,.lst 5 lx1.length (elM encSpl zSpl lx1),.row 19 lx2.length,.nil,.nil,.nil] (lx2.map encOv) (elM encOv zOv lx2) [3,5,7,9,11,12,13,15,20] [] kr kr kr (len_row _ _) (elM_row _ _ _) kr ?_ nofun
      refine uq [] [uo (0≤(s.ghosts.length:Int)∧(s.ghosts.length:Int)≤(s.ghosts.length:Int)∧(s.ghosts.length:Int)*((32:Int)+1)≤140737488355328)] ?_
      refine frzCellN hB 20 3 130 s.ghosts.length ((ghoP s).length) 205 4 [cI s.mom,cI s.turn,.lst 3 s.rigs.length (elM encRg zRg s.rigs),.row 130 s.ghosts.length,.lst 1 s.courses.length (elM (Sym.encL 4 encCs zCs) [] s.courses),.lst 1 s.used.length (elM Sym.encI 0 s.used),.lst 5 s.opn.length (elM encFol zFol s.opn),.lst 4 s.tallies.length (elM encTa zTa s.tallies)] (List.replicate s.ghosts.length [cI 0,cI 0,cI 0,cI 0]) (elM encPx zPx (ghoP s)) [3,5,7,9,11,12,13,15,20] [] kr kr kr (rowRn _ _) (rowN (y:=(ghoP s)) (enc:=encPx) rfl (rowR _ _ rfl)) (rowF (y:=(ghoP s)) (enc:=encPx) (rowR _ _ rfl)) kr ?_ nofun
      refine u0 ?_
      refine uq [] [@pu (0=([]:List (List C)).length) (rfl),uo ((0+s.rigs.length)*(24+1)≤140737488355328)] ?_
      refine u0 ?_
      refine rForJ (0+s.rigs.length) (fun qi qv qz=>Oths_b3_s w c s t other lx1 lx2 qi qv qz qz.length (qz.map encRg)) (Oths_b3 w c s t other lx1 lx2) (fun li3 lx3=>lx3.length=0+s.rigs.length) s.rigs (fun qz=>qz.length) (fun _ _ h=>h) rfl mix (rowW (fun qn qr=>Oths_b3_s w c s t other lx1 lx2 0 0 s.rigs qn qr) (0+s.rigs.length) (([]:List (List C))++((List.range s.rigs.length).map (elM encRg zRg s.rigs))) s.rigs (rowAn0 s.rigs) (rowA0 s.rigs) (wkTo [3,5,9,11,12,13,15,20,21] [] kr)) (by simp) (fun qi qz=>⟨asked_pick [@pu (qz.length=(qz.map encRg).length) (rowN rfl rfl)] kr,kr⟩) (fun li3 lx3 hi3 hJ3 hr3=>?_) (fun lx3 hJ3 hr3=>?_)
      ·have ee10:=Oths_b3.eq_1 w c s t other lx1 lx2 li3 lx3
       have cc8:=Rig.Valid_c (w.telescopes.getD li3 zTel) other
       refine uq [(10,hcon cc8)] [uh ((li3:Int) != t) (li3:Int) w.telescopes.length,pu cc8] ?_
       refine ud ee10 (fun hh4 ee11=>?_) (fun hh4 ee12=>?_)
       ·refine uq [(5,.frz 0 (fun _=>(encRg (lx3.getD li3 zRg))))] [@pu ((0≤(li3:Int)∧(li3:Int)<(lx3.length:Int))∧lx3.length=(lx3.map encRg).length) (⟨vo,rowN rfl rfl⟩),@pu ((lx3.length=(lx3.map encRg).length∧li3<lx3.length)∧(lx3.map encRg).getD li3 []=(encRg (lx3.getD li3 zRg))) (rowGet rfl rfl vo)] ?_
        exact run_nil (forX_nx (fun qi qv qz=>Oths_b3_s w c s t other lx1 lx2 qi qv qz qz.length (qz.map encRg)) (lx3.set li3 other) hi3 om kr (rowW (fun qn qr=>Oths_b3_s w c s t other lx1 lx2 (li3+1) (IntKind.i64.wrap ((li3:Int)+1)) (lx3.set li3 other) qn qr) lx3.length ((lx3.map encRg).set li3 (splice (encRg (lx3.getD li3 zRg)) 0 (encRg other))) (lx3.set li3 other) (rowSn rfl) (rowS rfl rfl) (wkTo [3,5,9,11,12,13,15,20,21] [] kr)) ((by simp;omega)) ee11)
       ·exact run_nil (forX_nx (fun qi qv qz=>Oths_b3_s w c s t other lx1 lx2 qi qv qz qz.length (qz.map encRg)) lx3 hi3 om kr (rowW (fun qn qr=>Oths_b3_s w c s t other lx1 lx2 (li3+1) (IntKind.i64.wrap ((li3:Int)+1)) lx3 qn qr) lx3.length (lx3.map encRg) lx3 (rfl) (rfl) (wkTo [3,5,9,11,12,13,15,20,21] [] kr)) ((by simp;omega)) ee12)
      ·have ee9:=(fin_nx ee8 hr3).trans (Oths_b3_r.eq_1 w c s t other lx1 lx2 lx3)
       refine frzCell hB 20 2 133 lx3.length 83 3 [cI s.mom,cI s.turn,.row 133 lx3.length,.lst 4 ((ghoP s).length) (elM encPx zPx (ghoP s)),.lst 1 s.courses.length (elM (Sym.encL 4 encCs zCs) [] s.courses),.lst 1 s.used.length (elM Sym.encI 0 s.used),.lst 5 s.opn.length (elM encFol zFol s.opn),.nil] (lx3.map encRg) (elM encRg zRg lx3) [3,5,11,12,13,15,20] [] kr kr kr (len_row _ _) (elM_row _ _ _) kr ?_ nofun
       have cc5:FCall Tryz.prog 14 [.agg (encWd w),.agg [cI 0,cI 0,.lst 5 lx1.length (elM encSpl zSpl lx1),.lst 7 lx2.length (elM encOv zOv lx2),.nil,.nil,.nil],.agg [cI s.mom,cI s.turn,.lst 3 lx3.length (elM encRg zRg lx3),.lst 4 ((ghoP s).length) (elM encPx zPx (ghoP s)),.lst 1 s.courses.length (elM (Sym.encL 4 encCs zCs) [] s.courses),.lst 1 s.used.length (elM Sym.encI 0 s.used),.lst 5 s.opn.length (elM encFol zFol s.opn),.nil],vI t] (.tup [.c (.lst 5 (((Req.Requests w (⟨0,0,lx1,lx2,[],[],[]⟩:Scr) (⟨s.mom,s.turn,lx3,(ghoP s),s.courses,s.used,s.opn,[]⟩:Sta) t).1).length) (elM encRq zRq ((Req.Requests w (⟨0,0,lx1,lx2,[],[],[]⟩:Scr) (⟨s.mom,s.turn,lx3,(ghoP s),s.courses,s.used,s.opn,[]⟩:Sta) t).1))),.c (.lst 5 (((Req.Requests w (⟨0,0,lx1,lx2,[],[],[]⟩:Scr) (⟨s.mom,s.turn,lx3,(ghoP s),s.courses,s.used,s.opn,[]⟩:Sta) t).2.1).length) (elM encExc zExc ((Req.Requests w (⟨0,0,lx1,lx2,[],[],[]⟩:Scr) (⟨s.mom,s.turn,lx3,(ghoP s),s.courses,s.used,s.opn,[]⟩:Sta) t).2.1))),vI ((Req.Requests w (⟨0,0,lx1,lx2,[],[],[]⟩:Scr) (⟨s.mom,s.turn,lx3,(ghoP s),s.courses,s.used,s.opn,[]⟩:Sta) t).2.2)]):=(Req.Requests_c w (⟨0,0,lx1,lx2,[],[],[]⟩:Scr) (⟨s.mom,s.turn,lx3,(ghoP s),s.courses,s.used,s.opn,[]⟩:Sta) t).of_le ⟨CVle.refl _,(cle),(cle),CVle.refl _,trivial⟩
       refine us 4 cc5 ?_
       have cc6:=Hd.SameRequests_c ((Req.Requests w c s t).1) ((Req.Requests w (⟨0,0,lx1,lx2,[],[],[]⟩:Scr) (⟨s.mom,s.turn,lx3,(ghoP s),s.courses,s.used,s.opn,[]⟩:Sta) t).1)
       have cc7:=Hd.SameExclusions_c ((Req.Requests w c s t).2.1) ((Req.Requests w (⟨0,0,lx1,lx2,[],[],[]⟩:Scr) (⟨s.mom,s.turn,lx3,(ghoP s),s.courses,s.used,s.opn,[]⟩:Sta) t).2.1)
       refine uq [(8,hcon cc6),(13,hcon cc7)] [pu cc6,pu cc7] ?_
       exact run_ret (ut _ (by rw [ee9]<;>rfl))
end Go.Proofs.YtidbmbpeblmliaaGreatDoor.LwO
