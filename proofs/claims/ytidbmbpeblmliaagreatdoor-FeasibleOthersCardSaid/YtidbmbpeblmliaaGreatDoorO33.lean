/- Part of the proof of the statement that the claim's last text names: contracts of functions and laws of the symbolic layer. -/
import Derived.Test.YtidbmbpeblmliaaGreatDoorO14
import Derived.Test.YtidbmbpeblmliaaGreatDoorO27
import Derived.Test.YtidbmbpeblmliaaGreatDoorO32
set_option linter.unusedVariables false
set_option linter.unusedSimpArgs false
namespace Go.Proofs.YtidbmbpeblmliaaGreatDoor.Pl
open Go.Sym Go.Proofs.YtidbmbpeblmliaaGreatDoor
theorem moment_of{n:Int}(h:0≤n∧n≤38399):Ovr.moment n=true:=by
 simp [Ovr.moment,Ovr.within];omega
end Go.Proofs.YtidbmbpeblmliaaGreatDoor.Pl
namespace Go.Proofs.YtidbmbpeblmliaaGreatDoor.Pl
open Go.Sym Go.Proofs.YtidbmbpeblmliaaGreatDoor
theorem rig_valid{w:Wd}{s:Sta}(h:Fea.fits w s=true)(i:Nat)(hi:i<w.telescopes.length):Rig.Valid (w.telescopes.getD i zTel) (s.rigs.getD i zRg)=true:=by
 obtain ⟨h1,h2⟩:=bif_f (by rwa [Fea.fits] at h)
 have h3:=bool_nx (runL_true (k:=Fea.fits_b1_r w s) (fun j=>bool_or _) _ _ h2 i (Nat.zero_le _) om)
 rw [Bool.or_eq_false_iff,Bool.or_eq_false_iff,Bool.not_eq_false'] at h3
 exact h3.1.1
end Go.Proofs.YtidbmbpeblmliaaGreatDoor.Pl
namespace Go.Proofs.YtidbmbpeblmliaaGreatDoor.Pl
open Go.Sym Go.Proofs.YtidbmbpeblmliaaGreatDoor
theorem runL_nx{ρ:Type}{bd:Nat→Unit→Fl Unit ρ}:∀ n i,(∀ j,i≤j→j<i+n→bd j ()=.nx ())→runL bd n i ()=.nx ()
 | 0,i,_=>rfl
 | n+1,i,h=>by
  rw [runL,h i (Nat.le_refl _) om]
  exact runL_nx n (i+1) fun j h1 h2=>h j om om
theorem sameEx_refl(l:List Exc):Hd.SameExclusions l l=true:=by
 rw [Hd.SameExclusions,show (((l.length:Int) != (l.length:Int)))=false by simp,cond_false,runL_nx _ _ fun j g1 g2=>by
  rw [Hd.SameExclusions_b1];simp]
 rfl
theorem sameRq_refl(l:List Rq):Hd.SameRequests l l=true:=by
 rw [Hd.SameRequests,show (((l.length:Int) != (l.length:Int)))=false by simp,cond_false,runL_nx _ _ fun j g1 g2=>by
  rw [Hd.SameRequests_b1];simp]
 rfl
theorem map_getD{α β:Type}(f:α→β){l:List α}{i:Nat}(h:i<l.length)(d:β):(l.map f).getD i d=f l[i]:=by
 simp [gE,h]
end Go.Proofs.YtidbmbpeblmliaaGreatDoor.Pl
namespace Go.Proofs.YtidbmbpeblmliaaGreatDoor.Pl
open Go.Sym Go.Proofs.YtidbmbpeblmliaaGreatDoor
theorem runL_fold{α σ ρ:Type}{bd:Nat→σ→Fl σ ρ}{l:List α}{z:α}(g:σ→α→σ)(h:∀ i x,i<l.length→bd i x=.nx (g x (l.getD i z)))(x0:σ):runL bd l.length 0 x0=.nx (l.foldl g x0):=by
 refine runL_inv (bd:=bd) (n:=l.length) (fun i x=>x=(l.take i).foldl g x0) (fun r=>r=.nx (l.foldl g x0)) ?_ ?_ ?_ ?_ _ 0 _ om rfl
 ·rintro i x y hi rfl hb
  rw [h i _ hi] at hb
  cases hb
  rw [take_snoc hi z,List.foldl_append];rfl
 ·rintro i x y hi rfl hb;rw [h i _ hi] at hb;cases hb
 ·rintro i x y hi rfl hb;rw [h i _ hi] at hb;cases hb
 ·rintro x rfl;rw [List.take_length]
theorem foldl_skip{α σ:Type}{g:σ→α→σ}{p:α→Bool}(h:∀ x e,p e=false→g x e=x):∀ (l:List α) (x:σ),(l.filter p).foldl g x=l.foldl g x
 | [],_=>rfl
 | e :: l,x=>by
  cases hp:p e with
  | true=>simp only [List.filter_cons,hp,if_true,List.foldl_cons];exact foldl_skip h l _
  | false=>simp only [List.filter_cons,hp,List.foldl_cons,h x e hp];exact foldl_skip h l _
theorem foldl_keep{α:Type}(p:α→Bool):∀ (l:List α) (a:List α),l.foldl (fun x e=>bif p e then x++[e] else x) a=a++l.filter p
 | [],a=>by simp
 | e :: l,a=>by
  rw [List.foldl_cons,foldl_keep p l]
  cases hp:p e<;>simp [List.filter_cons,hp]
def inS(m:Int)(e:Spl):Bool:=decide (e.frm≤m)&&decide (m≤e.til)
theorem spells_eq(w:Wd)(c:Scr)(s:Sta)(t:Int)(other:Rg):runL (LwO.Oths_b1 w c s t other) c.spells.length 0 ([]:List Spl)=.nx (c.spells.filter (inS s.mom)):=by
 rw [runL_fold (z:=zSpl) (fun x e=>bif inS s.mom e then x++[e] else x) (fun i x hi=>?_),foldl_keep,List.nil_append]
 rw [LwO.Oths_b1,inS]
 cases (decide ((c.spells.getD i zSpl).frm≤s.mom)&&decide (s.mom≤(c.spells.getD i zSpl).til))<;>rfl
theorem getD_mem{α:Type}{l:List α}{i:Nat}{z:α}(h:i<l.length):l.getD i z∈l:=by
 rw [gE,List.getElem?_eq_getElem h];exact List.getElem_mem h
theorem mem_getD{α:Type}{l:List α}{e z:α}(h:e∈l):∃ i,i<l.length∧l.getD i z=e:=by
 obtain ⟨i,hi,rfl⟩:=List.mem_iff_getElem.1 h
 exact ⟨i,hi,by simp [gE,hi]⟩
theorem all_iff{l:List Spl}:Wea.all l=true↔l.length≤200∧∀ e,e∈l→Wea.formed e=true:=by
 constructor
 ·intro h
  rw [Wea.all] at h
  obtain ⟨h1,h2⟩:=bif_f h
  have h3:=runL_true (fun j=>bool_or _) _ _ h2
  simp only [decide_eq_false_iff_not] at h1
  refine ⟨om,fun e he=>?_⟩
  obtain ⟨i,hi,rfl⟩:=mem_getD (z:=zSpl) he
  have:=bool_nx (h3 i (Nat.zero_le _) om)
  simpa using this
 ·rintro ⟨h1,h2⟩
  rw [Wea.all,decide_eq_false (show ¬ ((l.length:Int)>200) by omega),cond_false,runL_nx _ _ fun j g1 g2=>by
   rw [Wea.all_b1,h2 _ (getD_mem om)];rfl]
  rfl
theorem wea_filter{l:List Spl}{m:Int}(h:Wea.all l=true):Wea.At (l.filter (inS m)) m=Wea.At l m:=by
 have h1:Wea.all (l.filter (inS m))=true:=by
  obtain ⟨g1,g2⟩:=all_iff.1 h
  exact all_iff.2 ⟨Nat.le_trans (List.length_filter_le _ _) g1,fun e he=>g2 e (List.mem_filter.1 he).1⟩
 have hb:∀ (k:List Spl) (a x:Cnd),runL (Wea.At_b2 k m a) k.length 0 x=.nx (k.foldl (fun x e=>bif (!(Wea.within m e.frm e.til)) then x else (bif (e.kind==1) then (⟨(x.clear.set (e.quarter.toNat) e.num),x.seeing,x.opn⟩:Cnd) else (bif (e.kind==2) then (⟨x.clear,e.num,x.opn⟩:Cnd) else (bif (e.kind==3) then (⟨x.clear,x.seeing,false⟩:Cnd) else x)))) x):=fun k a x=>by
  refine runL_fold (z:=zSpl) _ (fun i y hi=>?_) x
  rw [Wea.At_b2]
  cases (!(Wea.within m (k.getD i zSpl).frm (k.getD i zSpl).til)) with
  | true=>rfl
  | false =>
   simp only [cond_false]
   cases ((k.getD i zSpl).kind==1)<;>cases ((k.getD i zSpl).kind==2)<;>cases ((k.getD i zSpl).kind==3)<;>rfl
 have hr:Wea.At_b1_r (l.filter (inS m)) m=Wea.At_b1_r l m:=by
  funext x
  rw [Wea.At_b1_r,Wea.At_b1_r,hb,hb,foldl_skip (fun x e he=>?_)]
  ·rfl
  ·have:Wea.within m e.frm e.til=inS m e:=rfl
   rw [this,he];rfl
 rw [Wea.At,Wea.At,h1,h,hr]
 rfl
def ovF(l:List Ov)(m:Int):List Ov:=l.filter fun e=>Ovr.inF e m
theorem actN_two(l:List Ov)(m:Int):∀ n,n≤l.length→(Ovr.actN l m n).map (·.2)=(l.take n).filter fun e=>Ovr.inF e m
 | 0,_=>rfl
 | n+1,hn=>by
  rw [Ovr.actN,take_snoc (show n<l.length by omega) zOv,List.filter_append,← actN_two l m n om]
  cases h:Ovr.inF (l.getD n zOv) m with
  | true=>rw [if_pos rfl,List.map_append,List.filter_cons,h];rfl
  | false=>rw [if_neg (by simp),List.filter_cons,h];simp
theorem actL_two(l:List Ov)(m:Int):(Ovr.actL l m).map (·.2)=ovF l m:=by
 rw [Ovr.actL,actN_two l m _ (Nat.le_refl _),List.take_length];rfl
theorem actN_ix(l:List Ov)(m:Int):∀ n,∀ a,a∈Ovr.actN l m n→∃ k:Nat,k<n∧a=((k:Int),l.getD k zOv)
 | 0,a,h=>by cases h
 | n+1,a,h=>by
  rw [Ovr.actN] at h
  split at h
  ·rcases List.mem_append.1 h with h | h
   ·obtain ⟨k,h1,h2⟩:=actN_ix l m n a h;exact ⟨k,om,h2⟩
   ·exact ⟨n,om,List.mem_singleton.1 h⟩
  ·obtain ⟨k,h1,h2⟩:=actN_ix l m n a h;exact ⟨k,om,h2⟩
theorem two_getD{l:List Ov}{m:Int}{i:Nat}(h:i<(Ovr.actL l m).length):((Ovr.actL l m).getD i (0,zOv)).2=(ovF l m).getD i zOv:=by
 rw [← actL_two,map_getD _ h]
 simp [gE,h]
theorem two_len(l:List Ov)(m:Int):(Ovr.actL l m).length=(ovF l m).length:=by rw [← actL_two,List.length_map]
theorem ovF_idem(l:List Ov)(m:Int):ovF (ovF l m) m=ovF l m:=by simp [ovF]
theorem active_eq{l:List Ov}{m:Int}(h:Ovr.Valid l=true)(hm:Ovr.moment m=true):LwO.Active l m=((Ovr.actL l m).map (·.1),0):=by
 rw [LwO.Active,h,hm]
 simp only [Bool.not_true,Bool.or_false,cond_false]
 rw [runL_fold (z:=(0,zOv)) (fun x a=>x++[a.1]) (fun i x hi=>by rw [LwO.Active_b1])]
 have:∀ (k:List (Int×Ov)) (x:List Int),k.foldl (fun x a=>x++[a.1]) x=x++k.map (·.1):=fun k=>by
  induction k with
  | nil=>intro x;simp
  | cons a k ih=>intro x;rw [List.foldl_cons,ih];simp
 rw [this];rfl
theorem overrides_eq(w:Wd)(c:Scr)(s:Sta)(t:Int)(other:Rg)(lx1:List Spl)(h:Ovr.Valid c.overrides=true)(hm:Ovr.moment s.mom=true):runL (LwO.Oths_b2 w c s t other lx1) ((LwO.Active c.overrides s.mom).1).length 0 ([]:List Ov)=.nx (ovF c.overrides s.mom):=by
 rw [active_eq h hm,show ((Ovr.actL c.overrides s.mom).map (·.1),0).1.length=(Ovr.actL c.overrides s.mom).length by simp]
 rw [runL_fold (z:=(0,zOv)) (fun x (a:Int×Ov)=>x++[a.2]) (fun i x hi=>?_)]
 ·have:∀ (k:List (Int×Ov)) (x:List Ov),k.foldl (fun x a=>x++[a.2]) x=x++k.map (·.2):=fun k=>by
   induction k with
   | nil=>intro x;simp
   | cons a k ih=>intro x;rw [List.foldl_cons,ih];simp
  rw [this,List.nil_append,actL_two]
 ·rw [LwO.Oths_b2,active_eq h hm]
  have hmem:(Ovr.actL c.overrides s.mom).getD i (0,zOv)∈Ovr.actL c.overrides s.mom:=getD_mem hi
  obtain ⟨k,hk,he⟩:=actN_ix _ _ _ _ hmem
  have h1:((Ovr.actL c.overrides s.mom).map (·.1)).getD i 0=(k:Int):=by
   rw [map_getD _ hi]
   have:(Ovr.actL c.overrides s.mom)[i]=(Ovr.actL c.overrides s.mom).getD i (0,zOv):=by simp [gE,hi]
   rw [this,he]
  simp only [h1]
  rw [decide_eq_false (show ¬ ((k:Int)<0) by omega),decide_eq_false (show ¬ ((k:Int)≥(c.overrides.length:Int)) by omega),he]
  rfl
theorem ovalid_step{k l:List Ov}{i j:Nat}(h:k.getD i zOv=l.getD j zOv):Ovr.Valid_b1 k i ()=Ovr.Valid_b1 l j ():=by
 rw [Ovr.Valid_b1,Ovr.Valid_b1,h]
theorem ovalid_filter{l:List Ov}{m:Int}(h:Ovr.Valid l=true):Ovr.Valid (ovF l m)=true:=by
 rw [Ovr.Valid] at h
 obtain ⟨h1,h2⟩:=bif_f h
 simp only [decide_eq_false_iff_not] at h1
 have hlen:(ovF l m).length≤l.length:=List.length_filter_le _ _
 have hb:∀ j,Ovr.Valid_b1 l j ()=.nx ()∨Ovr.Valid_b1 l j ()=.rt false:=fun j=>by
  rw [Ovr.Valid_b1]
  simp only [cond_eq_ite]
  repeat' split
  all_goals first | exact .inl rfl | exact .inr rfl
 have h3:=runL_true hb _ _ h2
 rw [Ovr.Valid,decide_eq_false (show ¬ (((ovF l m).length:Int)>100) by omega),cond_false,runL_nx _ _ fun j g1 g2=>by
  have hm:=List.mem_filter.1 (getD_mem (z:=zOv) (show j<(ovF l m).length by omega))
  obtain ⟨i,hi,he⟩:=mem_getD (z:=zOv) hm.1
  rw [ovalid_step (k:=ovF l m) (i:=j) (l:=l) (j:=i) he.symm]
  exact h3 i (Nat.zero_le _) om]
 rfl
theorem judge_filter{l:List Ov}(t p k m:Int)(h:Ovr.Valid l=true):Ovr.Judge (ovF l m) t p k m=Ovr.Judge l t p k m:=by
 have hb:∀ i x,i<(ovF l m).length→Ovr.Judge_b1 (ovF l m) t p k m i x=Ovr.Judge_b1 l t p k m i x:=fun i x hi=>by
  rw [Ovr.Judge_b1,Ovr.Judge_b1,two_getD (by rw [two_len,ovF_idem];exact hi),two_getD (by rw [two_len];exact hi),ovF_idem]
 have hr:∀ n i x,i+n≤(ovF l m).length→runL (Ovr.Judge_b1 (ovF l m) t p k m) n i x=runL (Ovr.Judge_b1 l t p k m) n i x:=fun n=>by
  induction n with
  | zero=>intro i x _;rfl
  | succ n ih =>
   intro i x hi
   rw [runL,runL,hb i x om]
   cases Ovr.Judge_b1 l t p k m i x with
   | nx y=>exact ih _ _ om
   | br y=>rfl
   | rt r=>rfl
 rw [Ovr.Judge,Ovr.Judge,ovalid_filter h,h,two_len,two_len,ovF_idem,hr _ _ _ om]
 rfl
theorem stuck_filter{l:List Ov}(t m:Int)(h:Ovr.Valid l=true):Ovr.Stuck (ovF l m) t m=Ovr.Stuck l t m:=by
 have hb:∀ i x,i<(ovF l m).length→Ovr.Stuck_b1 (ovF l m) t m i x=Ovr.Stuck_b1 l t m i x:=fun i x hi=>by
  rw [Ovr.Stuck_b1,Ovr.Stuck_b1,two_getD (by rw [two_len,ovF_idem];exact hi),two_getD (by rw [two_len];exact hi),ovF_idem]
 have hr:∀ n i x,i+n≤(ovF l m).length→runL (Ovr.Stuck_b1 (ovF l m) t m) n i x=runL (Ovr.Stuck_b1 l t m) n i x:=fun n=>by
  induction n with
  | zero=>intro i x _;rfl
  | succ n ih =>
   intro i x hi
   rw [runL,runL,hb i x om]
   cases Ovr.Stuck_b1 l t m i x with
   | nx y=>exact ih _ _ om
   | br y=>rfl
   | rt r=>rfl
 rw [Ovr.Stuck,Ovr.Stuck,ovalid_filter h,h,two_len,two_len,ovF_idem,hr _ _ _ om]
 rfl
structure Rigs (w:Wd) (s:Sta) (t:Int) (R:List Rg):Prop where
 len:R.length=s.rigs.length
 at_:R.getD t.toNat zRg=s.rigs.getD t.toNat zRg
 ok:∀ i,i<w.telescopes.length→Rig.Valid (w.telescopes.getD i zTel) (R.getD i zRg)=true
theorem rig_set{l:List Rg}{i j:Nat}{x:Rg}(hj:j<l.length):(l.set j x).getD i zRg=if j=i then x else l.getD i zRg:=by
 simp only [gE,List.getElem?_set]
 by_cases h:j=i
 ·subst h;simp [hj]
 ·simp [h]
theorem rigs_eq{w:Wd}(c:Scr){s:Sta}{t:Int}(other:Rg)(lx1:List Spl)(lx2:List Ov)(ht:0≤t)(h0:Rigs w s t s.rigs):∃ R,runL (LwO.Oths_b3 w c s t other lx1 lx2) (0+s.rigs.length) 0 s.rigs=.nx R∧Rigs w s t R:=by
 refine runL_inv (bd:=LwO.Oths_b3 w c s t other lx1 lx2) (n:=0+s.rigs.length) (fun i x=>Rigs w s t x) (fun r=>∃ R,r=.nx R∧Rigs w s t R) ?_ ?_ ?_ ?_ _ 0 _ om h0
 ·intro i x y hi hx hb
  rw [LwO.Oths_b3] at hb
  cases hc:(((i:Int) != t)&&(Rig.Valid (w.telescopes.getD i zTel) other)) with
  | false=>rw [hc] at hb;cases hb;exact hx
  | true =>
   rw [hc] at hb;cases hb
   rw [Bool.and_eq_true] at hc
   have h1:(i:Int)≠t:=by simpa using hc.1
   have hl:i<x.length:=by rw [hx.len];omega
   refine ⟨by rw [List.length_set];exact hx.len,?_,fun k hk=>?_⟩
   ·rw [rig_set hl,if_neg om];exact hx.at_
   ·rw [rig_set hl]
    by_cases e:i=k
    ·subst e;rw [if_pos rfl];exact hc.2
    ·rw [if_neg e];exact hx.ok k hk
 ·intro i x y hi hx hb
  rw [LwO.Oths_b3,cond_eq_ite] at hb;split at hb<;>cases hb
 ·intro i x y hi hx hb
  rw [LwO.Oths_b3,cond_eq_ite] at hb;split at hb<;>cases hb
 ·intro x hx;exact ⟨x,rfl,hx⟩
abbrev chS(s:Sta)(R:List Rg):Sta:=⟨s.mom,s.turn,R,LwO.ghoP s,s.courses,s.used,s.opn,[]⟩
theorem gho_at(s:Sta)(i:Nat):(LwO.ghoP s).getD i zPx=zPx:=by
 rw [LwO.ghoP,gE,List.getElem?_replicate]
 split<;>rfl
theorem no_tallies:(Cfm.Confirmed ([]:List Ta) 1).2=0:=by kernel_rfl
theorem fits_chS{w:Wd}{s:Sta}{t:Int}{R:List Rg}(hf:Fea.fits w s=true)(hR:Rigs w s t R):Fea.fits w (chS s R)=true:=by
 obtain ⟨h1,h2⟩:=bif_f (by rwa [Fea.fits] at hf)
 have e1:=runL_end (k:=Fea.fits_b1_r w s) (fun j=>bool_or _) _ _ h2
 have c0:((((((!(Fea.moment (chS s R).mom))||(decide ((chS s R).turn<0)))||(decide ((chS s R).turn≥(w.telescopes.length:Int))))||(((chS s R).rigs.length:Int) != (w.telescopes.length:Int)))||(((chS s R).ghosts.length:Int) != (w.telescopes.length:Int)))||(((chS s R).courses.length:Int) != (w.programmes.length:Int)))=false:=by
  rw [show (chS s R).rigs.length=s.rigs.length from hR.len,show (chS s R).ghosts.length=s.ghosts.length from List.length_replicate]
  exact h1
 rw [Fea.fits,c0,cond_false,runL_nx _ _ fun j g1 g2=>by
  rw [Fea.fits_b1,show (chS s R).rigs=R from rfl,hR.ok j om,show (chS s R).ghosts=LwO.ghoP s from rfl,gho_at]
  rfl]
 show Fea.fits_b1_r w (chS s R) ()=true
 rw [Fea.fits_b1_r] at e1 ⊢
 have hb2:Fea.fits_b2 w (chS s R) ()=Fea.fits_b2 w s ():=rfl
 have hb:∀ j,Fea.fits_b2 w s () j ()=.nx ()∨Fea.fits_b2 w s () j ()=.rt false:=fun j=>by
  rw [Fea.fits_b2]
  cases hc:(((s.courses.getD j []).length:Int) != (((w.programmes.getD j zPrg).tiles).length:Int)) with
  | true=>exact .inr rfl
  | false =>
   rw [cond_false]
   rcases Req.runL_in (ρ:=Unit) (bd:=Fea.fits_b3 w s () j ()) (fun k=>Req.bif_or2 _) (s.courses.getD j []).length 0 with ⟨g1,g2⟩ | g
   ·exact .inl g1
   ·exact .inr g
 have n2:=runL_true hb _ _ e1
 have e2:=runL_end (k:=Fea.fits_b2_r w s ()) hb _ _ e1
 rw [hb2,runL_nx _ _ fun j g1 g2=>n2 j g1 g2]
 show Fea.fits_b2_r w (chS s R) () ()=true
 rw [Fea.fits_b2_r] at e2 ⊢
 rw [Bool.and_eq_true] at e2
 rw [Bool.and_eq_true]
 exact ⟨e2.1,by rw [show (chS s R).tallies=[] from rfl,no_tallies];rfl⟩
abbrev chC(c:Scr)(m:Int):Scr:=⟨0,0,c.spells.filter (inS m),ovF c.overrides m,[],[],[]⟩
theorem slot_sky{w:Wd}{c:Scr}{s:Sta}{t:Int}{R:List Rg}(ha:Wea.all c.spells=true):(slot w (chC c s.mom) (chS s R) t).sky=(slot w c s t).sky:=by
 show (⟨((Wea.At (c.spells.filter (inS s.mom)) s.mom).1).clear,((Wea.At (c.spells.filter (inS s.mom)) s.mom).1).seeing,((Wea.At (c.spells.filter (inS s.mom)) s.mom).1).opn⟩:Cnd)=_
 rw [wea_filter ha];rfl
theorem slot_rig{w:Wd}{c:Scr}{s:Sta}{t:Int}{R:List Rg}(ho:Ovr.Valid c.overrides=true)(hR:Rigs w s t R):(slot w (chC c s.mom) (chS s R) t).rig=(slot w c s t).rig:=by
 show (⟨(R.getD t.toNat zRg).pos,(R.getD t.toNat zRg).filter,(((R.getD t.toNat zRg).stuck)||((Ovr.Stuck (ovF c.overrides s.mom) t s.mom).1))⟩:Rg)=_
 rw [stuck_filter t s.mom ho,hR.at_];rfl
theorem J_ch{w:Wd}{c:Scr}{s:Sta}{t:Int}{R:List Rg}(ha:Wea.all c.spells=true)(ho:Ovr.Valid c.overrides=true)(hR:Rigs w s t R)(a:Rq×Cs):J (slot w (chC c s.mom) (chS s R) t) a=J (slot w c s t) a:=by
 have r1:Slo.runs (slot w (chC c s.mom) (chS s R) t) a.1 a.2=Slo.runs (slot w c s t) a.1 a.2:=rfl
 have r2:Slo.ready (slot w (chC c s.mom) (chS s R) t) a.1 a.2=Slo.ready (slot w c s t) a.1 a.2:=rfl
 have r3:Slo.mounted (slot w (chC c s.mom) (chS s R) t) a.1 a.2=Slo.mounted (slot w c s t) a.1 a.2:=rfl
 have r4:Slo.permitted (slot w (chC c s.mom) (chS s R) t) a.1 a.2=Slo.permitted (slot w c s t) a.1 a.2:=judge_filter t a.1.prog a.1.tile s.mom ho
 have r5:Slo.dry (slot w (chC c s.mom) (chS s R) t) a.1 a.2=Slo.dry (slot w c s t) a.1 a.2:=by rw [Slo.dry,Slo.dry,slot_sky ha]
 have r6:Slo.high (slot w (chC c s.mom) (chS s R) t) a.1 a.2=Slo.high (slot w c s t) a.1 a.2:=rfl
 have r7:Slo.prepared (slot w (chC c s.mom) (chS s R) t) a.1 a.2=Slo.prepared (slot w c s t) a.1 a.2:=by rw [Slo.prepared,Slo.prepared,slot_rig ho hR];rfl
 rw [J,J,Slo.judge,Slo.judge,r1,r2,r3,r4,r5,r6,r7]
theorem worth_ch{w:Wd}{c:Scr}{s:Sta}{t:Int}{R:List Rg}(ha:Wea.all c.spells=true)(a:Rq×Cs):Slo.worth (slot w (chC c s.mom) (chS s R) t) a.1 a.2=Slo.worth (slot w c s t) a.1 a.2:=by
 have h1:∀ j,Slo.worth_k1 (slot w (chC c s.mom) (chS s R) t) a.1 a.2 j=Slo.worth_k1 (slot w c s t) a.1 a.2 j:=fun j=>by
  rw [Slo.worth_k1,Slo.worth_k1,slot_sky ha];rfl
 rw [Slo.worth,Slo.worth,h1,h1];rfl
theorem candP_ch{w:Wd}{s:Sta}{R:List Rg}:∀ n,Cnd.candP w (chS s R) n=Cnd.candP w s n:=by
 have hT:∀ i k,Cnd.candT w (chS s R) i k=Cnd.candT w s i k:=fun i k=>by
  induction k with
  | zero=>rfl
  | succ k ih=>rw [Cnd.candT,Cnd.candT,ih];rfl
 intro n
 induction n with
 | zero=>rfl
 | succ n ih=>rw [Cnd.candP,Cnd.candP,ih,hT]
theorem candL_ch{w:Wd}{s:Sta}{R:List Rg}:Cnd.candL w (chS s R)=Cnd.candL w s:=by
 have hO:∀ n,Cnd.candO (chS s R) n=Cnd.candO s n:=fun n=>by
  induction n with
  | zero=>rfl
  | succ n ih=>rw [Cnd.candO,Cnd.candO,ih];rfl
 rw [Cnd.candL,Cnd.candL,candP_ch,hO]
theorem wea_ok{l:List Spl}{m:Int}(h:(Wea.At l m).2=0):Wea.all l=true:=by
 cases ha:Wea.all l with
 | true=>rfl
 | false=>rw [Wea.At,ha] at h;cases h
theorem req_ch{w:Wd}{c:Scr}{s:Sta}{t:Int}{R:List Rg}(he:(Req.Requests w c s t).2.2=0)(hR:Rigs w s t R):Req.Requests w (chC c s.mom) (chS s R) t=Req.Requests w c s t:=by
 obtain ⟨v1,v2,v3,v4,v5,v6,v7⟩:=req_ok (w:=w) (c:=c) (s:=s) (t:=t) he
 have ha:=wea_ok v5
 have hJ:J (slot w (chC c s.mom) (chS s R) t)=J (slot w c s t):=funext (J_ch ha v4 hR)
 have hr:rOf (slot w (chC c s.mom) (chS s R) t)=rOf (slot w c s t):=by funext a;rw [rOf,rOf,worth_ch ha]
 have hx:xOf (slot w (chC c s.mom) (chS s R) t)=xOf (slot w c s t):=by funext a;rw [xOf,xOf,hJ]
 have hq:rqs (slot w (chC c s.mom) (chS s R) t) (Cnd.candL w s)=rqs (slot w c s t) (Cnd.candL w s):=by rw [rqs,rqs,hJ,hr]
 have hz:exs (slot w (chC c s.mom) (chS s R) t) (Cnd.candL w s)=exs (slot w c s t) (Cnd.candL w s):=by rw [exs,exs,hJ,hx]
 have v5':(Wea.At (chC c s.mom).spells (chS s R).mom).2=0:=by
  show (Wea.At (c.spells.filter (inS s.mom)) s.mom).2=0
  rw [wea_filter ha];exact v5
 rw [v7,Req.Requests,v1,fits_chS v2 hR,show (chC c s.mom).overrides=ovF c.overrides s.mom from rfl,ovalid_filter v4,decide_eq_false (show ¬ t<0 by omega),decide_eq_false (show ¬ t≥(w.telescopes.length:Int) by omega),v5']
 simp only [Bool.not_true,Bool.or_false,bne_self_eq_false,cond_false]
 rw [req_loop,candL_ch,hq,hz]
 show Req.Requests_b1_r w (chC c s.mom) (chS s R) t (exs (slot w c s t) (Cnd.candL w s),rqs (slot w c s t) (Cnd.candL w s))=_
 rw [Req.Requests_b1_r]
 dsimp only
 rw [decide_eq_false (show ¬ (((rqs (slot w c s t) (Cnd.candL w s)).length:Int)>200) by omega),cond_false]
set_option maxRecDepth 100000 in
theorem Oths_true (w:Wd) (c:Scr) (s:Sta) (t:Int) (other:Rg):LwO.Oths w c s t other=true:=by
 rw [LwO.Oths,head_true]
 cases hfew:(!(Lw.few w c s)) with
 | true=>rfl
 | false =>
  rw [cond_false]
  cases he:((Req.Requests w c s t).2.2 != 0) with
  | true=>rfl
  | false =>
   have he0:(Req.Requests w c s t).2.2=0:=by simpa using he
   obtain ⟨v1,v2,v3,v4,v5,v6,v7⟩:=req_ok (w:=w) (c:=c) (s:=s) (t:=t) he0
   have hm:=moment_of (Req.fits_facts v2).2.2.1
   rw [cond_false,spells_eq]
   show LwO.Oths_b1_r w c s t other (c.spells.filter (inS s.mom))=true
   rw [LwO.Oths_b1_r,overrides_eq w c s t other _ v4 hm,active_eq v4 hm]
   show LwO.Oths_b2_r w c s t other (c.spells.filter (inS s.mom)) (ovF c.overrides s.mom)=true
   have h0:Rigs w s t s.rigs:=⟨rfl,rfl,fun i hi=>rig_valid v2 i hi⟩
   obtain ⟨R,hR1,hR2⟩:=rigs_eq c other (c.spells.filter (inS s.mom)) (ovF c.overrides s.mom) v3.1 h0
   rw [LwO.Oths_b2_r,hR1]
   show LwO.Oths_b3_r w c s t other (c.spells.filter (inS s.mom)) (ovF c.overrides s.mom) R=true
   have hq:=req_ch he0 hR2
   rw [LwO.Oths_b3_r,head_true]
   show (((true&&(((Req.Requests w (chC c s.mom) (chS s R) t).2.2)==0))&&(Hd.SameRequests ((Req.Requests w c s t).1) ((Req.Requests w (chC c s.mom) (chS s R) t).1)))&&(Hd.SameExclusions ((Req.Requests w c s t).2.1) ((Req.Requests w (chC c s.mom) (chS s R) t).2.1)))=true
   rw [hq,he0,sameRq_refl,sameEx_refl]
   rfl
theorem others(w:Wd)(c:Scr)(s:Sta)(t:Int)(other:Rg):FCall Tryz.prog 8 [.agg (encWd w),.agg (encScr c),.agg (encSta s),vI t,.agg (encRg other)] (.v (vB true)):=by
 have:=LwO.Oths_c w c s t other
 rw [Oths_true] at this
 exact this
end Go.Proofs.YtidbmbpeblmliaaGreatDoor.Pl
