/- Part of the proof of the statement that the claim's last text names: contracts of functions and laws of the symbolic layer. -/
import Derived.Test.YtidbmbpeblmliaaGreatDoorN14
import Derived.Test.YtidbmbpeblmliaaGreatDoorN27
import Derived.Test.YtidbmbpeblmliaaGreatDoorN31
set_option linter.unusedVariables false
set_option linter.unusedSimpArgs false
namespace Go.Proofs.YtidbmbpeblmliaaGreatDoor.Pl
open Go.Sym Go.Proofs.YtidbmbpeblmliaaGreatDoor
structure Ok (w:Wd) (c:Scr) (s:Sta) (t:Int):Prop where
 v:Fea.Valid w=true
 f:Fea.fits w s=true
 t0:0≤t∧t<(w.telescopes.length:Int)
 o:Ovr.Valid c.overrides=true
 wea:(Wea.At c.spells s.mom).2=0
 r1:(Req.Requests w c s t).1=rqs (slot w c s t) (Cnd.candL w s)
 r2:(Req.Requests w c s t).2.1=exs (slot w c s t) (Cnd.candL w s)
theorem ok_of{w:Wd}{c:Scr}{s:Sta}{t:Int}(h:((Req.Requests w c s t).2.2 != 0)=false):Ok w c s t:=by
 obtain ⟨v1,v2,v3,v4,v5,v6,v7⟩:=req_ok (w:=w) (c:=c) (s:=s) (t:=t) (by simpa using h)
 exact ⟨v1,v2,v3,v4,v5,by rw [v7],by rw [v7]⟩
theorem Ok.el{w:Wd}{c:Scr}{s:Sta}{t:Int}(h:Ok w c s t){a:Rq×Cs}(ha:a∈Cnd.candL w s):0≤a.1.prog∧a.1.prog<(w.programmes.length:Int)∧0≤a.1.tile∧a.1.tile<512:=by
 obtain ⟨j,hj,rfl⟩:=List.mem_iff_getElem.1 ha
 have:=(Req.cand_ok (t:=t) h.v h.f).el j hj
 simpa [gE,hj] using this
end Go.Proofs.YtidbmbpeblmliaaGreatDoor.Pl
namespace Go.Proofs.YtidbmbpeblmliaaGreatDoor.Pl
open Go.Sym Go.Proofs.YtidbmbpeblmliaaGreatDoor
def up(w:Wd)(P:List Prg):Wd:=⟨w.telescopes,w.partners,P,w.fast,w.budget,w.subs,w.tape,w.limit⟩
structure Like (L P:List Prg):Prop where
 len:P.length=L.length
 id:∀ i,(P.getD i zPrg).id=(L.getD i zPrg).id
 par:∀ i,(P.getD i zPrg).partner=(L.getD i zPrg).partner
 frm:∀ i,(P.getD i zPrg).frm=(L.getD i zPrg).frm
 til:∀ i,(P.getD i zPrg).til=(L.getD i zPrg).til
 tiles:∀ i,(P.getD i zPrg).tiles=(L.getD i zPrg).tiles
 seq:∀ i,(P.getD i zPrg).seq=(L.getD i zPrg).seq
theorem runL_nx{ρ:Type}{bd:Nat→Unit→Fl Unit ρ}:∀ n i,(∀ j,i≤j→j<i+n→bd j ()=.nx ())→runL bd n i ()=.nx ()
 | 0,i,_=>rfl
 | n+1,i,h=>by
  rw [runL,h i (Nat.le_refl _) om]
  exact runL_nx n (i+1) fun j h1 h2=>h j om om
theorem diff3_like{L P:List Prg}(h:Like L P):Dif.diff3 P=Dif.diff3 L:=by
 have hb:Dif.diff3_b1 P=Dif.diff3_b1 L:=by
  funext i x
  rw [Dif.diff3_b1,Dif.diff3_b1,Dif.key3,Dif.key3,h.id]
 rw [Dif.diff3,Dif.diff3,hb,h.len]
 rfl
theorem valid_like{w:Wd}{P:List Prg}(h:Like w.programmes P)(hv:Fea.Valid w=true)(hp:∀ i,i<P.length→Prg.Valid (P.getD i zPrg)=true):Fea.Valid (up w P)=true:=by
 obtain ⟨h1,h2⟩:=bif_f (by rwa [Fea.Valid] at hv)
 have n1:=runL_true (k:=Fea.Valid_b1_r w) (fun j=>bool_or _) _ _ h2
 have e1:=runL_end (k:=Fea.Valid_b1_r w) (fun j=>bool_or _) _ _ h2
 rw [Fea.Valid_b1_r] at e1
 have n2:=runL_true (k:=Fea.Valid_b2_r w ()) (fun j=>bool_or _) _ _ e1
 have e2:=runL_end (k:=Fea.Valid_b2_r w ()) (fun j=>bool_or _) _ _ e1
 rw [Fea.Valid_b2_r] at e2
 have n3:=runL_true (k:=Fea.Valid_b3_r w () ()) (fun j=>bool_or _) _ _ e2
 have e3:=runL_end (k:=Fea.Valid_b3_r w () ()) (fun j=>bool_or _) _ _ e2
 rw [Fea.Valid_b3_r] at e3
 have n4:=runL_true (k:=Fea.Valid_b4_r w () () ()) (fun j=>bool_or _) _ _ e3
 have e4:=runL_end (k:=Fea.Valid_b4_r w () () ()) (fun j=>bool_or _) _ _ e3
 have c0:((((!(Fea.within1 (up w P).telescopes 1 6))||(!(Fea.within2 (up w P).partners 1 16)))||(!(Fea.within3 (up w P).programmes 1 64)))||(!(Fea.within4 (up w P).subs 0 64)))=false:=by
  have:Fea.within3 (up w P).programmes 1 64=Fea.within3 w.programmes 1 64:=by
   show Fea.within3 P 1 64=_
   rw [Fea.within3,Fea.within3,h.len]
  rw [this];exact h1
 rw [Fea.Valid,c0,cond_false]
 rw [show runL (Fea.Valid_b1 (up w P)) (up w P).telescopes.length 0 ()=.nx () from runL_nx _ _ fun j g1 g2=>n1 j g1 g2]
 show Fea.Valid_b1_r (up w P) ()=true
 rw [Fea.Valid_b1_r,show runL (Fea.Valid_b2 (up w P) ()) (up w P).partners.length 0 ()=.nx () from runL_nx _ _ fun j g1 g2=>n2 j g1 g2]
 show Fea.Valid_b2_r (up w P) () ()=true
 rw [Fea.Valid_b2_r,show runL (Fea.Valid_b3 (up w P) () ()) (up w P).programmes.length 0 ()=.nx () from runL_nx _ _ fun j g1 g2=>by
  have g3:=bool_nx (n3 j g1 (by have:(up w P).programmes.length=P.length:=rfl;have:=h.len;omega))
  rw [Bool.or_eq_false_iff] at g3
  have g4:decide ((P.getD j zPrg).partner≥(w.partners.length:Int))=false:=by rw [h.par];exact g3.2
  show (bif ((!(Prg.Valid (P.getD j zPrg)))||(decide (((P.getD j zPrg).partner)≥(w.partners.length:Int)))) then (Fl.rt false:Fl Unit Bool) else .nx ())=.nx ()
  rw [hp j (by have:(up w P).programmes.length=P.length:=rfl;omega),g4]
  rfl]
 show Fea.Valid_b3_r (up w P) () () ()=true
 rw [Fea.Valid_b3_r,show runL (Fea.Valid_b4 (up w P) () () ()) (up w P).subs.length 0 ()=.nx () from runL_nx _ _ fun j g1 g2=>by
  have g3:=n4 j g1 g2
  rw [Fea.Valid_b4] at g3 ⊢
  show (bif ((!(Flt.Valid (w.subs.getD j zSub)))||(decide (((w.subs.getD j zSub).prog)≥(P.length:Int)))) then (Fl.rt false:Fl Unit Bool) else .nx ())=.nx ()
  rw [h.len];exact g3]
 show Fea.Valid_b4_r (up w P) () () () ()=true
 rw [Fea.Valid_b4_r] at e4 ⊢
 show (((((((((Dif.diff1 w.telescopes)&&(Dif.diff2 w.partners))&&(Dif.diff3 P))&&(Flw.Valid w.fast))&&(decide (w.budget≥0)))&&(decide (w.budget≤10000)))&&(Noi.Valid w.tape))&&(decide (w.limit≥100)))&&(decide (w.limit≤900)))=true
 rw [diff3_like h];exact e4
theorem fits_like{w:Wd}{P:List Prg}(h:Like w.programmes P)(s:Sta):Fea.fits (up w P) s=Fea.fits w s:=by
 have ho:Fea.open_ (up w P) s.opn=Fea.open_ w s.opn:=by
  have hb:Fea.open__b1 (up w P) s.opn=Fea.open__b1 w s.opn:=by
   funext i x
   rw [Fea.open__b1,Fea.open__b1,show (up w P).programmes=P from rfl,h.len]
  rw [Fea.open_,Fea.open_,hb];rfl
 have h2:Fea.fits_b2 (up w P) s=Fea.fits_b2 w s:=by
  funext a i x
  have h3:Fea.fits_b3 (up w P) s a i x=Fea.fits_b3 w s a i x:=by
   funext k y
   rw [Fea.fits_b3,Fea.fits_b3,show (up w P).programmes=P from rfl,h.seq]
  rw [Fea.fits_b2,Fea.fits_b2,h3,show (up w P).programmes=P from rfl,h.tiles];rfl
 have hr:Fea.fits_b2_r (up w P) s=Fea.fits_b2_r w s:=by
  funext a x
  rw [Fea.fits_b2_r,Fea.fits_b2_r,ho];rfl
 have h1:Fea.fits_b1_r (up w P) s=Fea.fits_b1_r w s:=by
  funext a
  rw [Fea.fits_b1_r,Fea.fits_b1_r,h2,hr,show (up w P).programmes=P from rfl,h.len]
 rw [Fea.fits,Fea.fits,h1,show (up w P).programmes=P from rfl,h.len];rfl
theorem cOne_like{w:Wd}{P:List Prg}(h:Like w.programmes P)(s:Sta)(i k:Nat):Cnd.cOne (up w P) s i k=Cnd.cOne w s i k:=by
 rw [Cnd.cOne,Cnd.cOne,show (up w P).programmes=P from rfl,h.tiles,h.seq]
theorem candT_like{w:Wd}{P:List Prg}(h:Like w.programmes P)(s:Sta)(i:Nat):∀ k,Cnd.candT (up w P) s i k=Cnd.candT w s i k
 | 0=>rfl
 | k+1=>by rw [Cnd.candT,Cnd.candT,candT_like h s i k,cOne_like h]
theorem candP_like{w:Wd}{P:List Prg}(h:Like w.programmes P)(s:Sta):∀ n,Cnd.candP (up w P) s n=Cnd.candP w s n
 | 0=>rfl
 | n+1=>by rw [Cnd.candP,Cnd.candP,candP_like h s n,candT_like h,show (up w P).programmes=P from rfl,h.tiles]
theorem candL_like{w:Wd}{P:List Prg}(h:Like w.programmes P)(s:Sta):Cnd.candL (up w P) s=Cnd.candL w s:=by
 rw [Cnd.candL,Cnd.candL,candP_like h,show (up w P).programmes=P from rfl,h.len]
theorem J_like{w:Wd}{P:List Prg}(h:Like w.programmes P)(c:Scr)(s:Sta)(t:Int)(a:Rq×Cs):J (slot (up w P) c s t) a=J (slot w c s t) a:=by
 have r1:Slo.runs (slot (up w P) c s t) a.1 a.2=Slo.runs (slot w c s t) a.1 a.2:=by
  rw [Slo.runs,Slo.runs,show (slot (up w P) c s t).w.programmes=P from rfl,h.frm,h.til];rfl
 have r2:Slo.ready (slot (up w P) c s t) a.1 a.2=Slo.ready (slot w c s t) a.1 a.2:=by
  rw [Slo.ready,Slo.ready,show (slot (up w P) c s t).w.programmes=P from rfl,h.seq];rfl
 have r3:Slo.mounted (slot (up w P) c s t) a.1 a.2=Slo.mounted (slot w c s t) a.1 a.2:=rfl
 have r4:Slo.permitted (slot (up w P) c s t) a.1 a.2=Slo.permitted (slot w c s t) a.1 a.2:=rfl
 have r5:Slo.dry (slot (up w P) c s t) a.1 a.2=Slo.dry (slot w c s t) a.1 a.2:=rfl
 have r6:Slo.high (slot (up w P) c s t) a.1 a.2=Slo.high (slot w c s t) a.1 a.2:=rfl
 have r7:Slo.prepared (slot (up w P) c s t) a.1 a.2=Slo.prepared (slot w c s t) a.1 a.2:=rfl
 rw [J,J,Slo.judge,Slo.judge,r1,r2,r3,r4,r5,r6,r7]
theorem exs_like{w:Wd}{P:List Prg}(h:Like w.programmes P)(c:Scr)(s:Sta)(t:Int)(l:List (Rq×Cs)):exs (slot (up w P) c s t) l=exs (slot w c s t) l:=by
 have hJ:J (slot (up w P) c s t)=J (slot w c s t):=funext (J_like h c s t)
 have hx:xOf (slot (up w P) c s t)=xOf (slot w c s t):=by funext a;rw [xOf,xOf,hJ]
 rw [exs,exs,hJ,hx]
theorem rqs_like{w:Wd}{P:List Prg}(h:Like w.programmes P)(c:Scr)(s:Sta)(t:Int)(l:List (Rq×Cs)):rqs (slot (up w P) c s t) l=(l.filter fun a=>J (slot w c s t) a==0).map (rOf (slot (up w P) c s t)):=by
 have hJ:J (slot (up w P) c s t)=J (slot w c s t):=funext (J_like h c s t)
 rw [rqs,hJ]
theorem req_like{w:Wd}{P:List Prg}(h:Like w.programmes P){c:Scr}{s:Sta}{t:Int}(hp:∀ i,i<P.length→Prg.Valid (P.getD i zPrg)=true)(he:(Req.Requests w c s t).2.2=0):
  Req.Requests (up w P) c s t=(rqs (slot (up w P) c s t) (Cnd.candL w s),exs (slot w c s t) (Cnd.candL w s),0):=by
 obtain ⟨v1,v2,v3,v4,v5,v6,v7⟩:=req_ok (w:=w) (c:=c) (s:=s) (t:=t) he
 have hl:(rqs (slot (up w P) c s t) (Cnd.candL w s)).length=(rqs (slot w c s t) (Cnd.candL w s)).length:=by rw [rqs_like h,rqs,List.length_map,List.length_map]
 rw [Req.Requests,valid_like h v1 hp,fits_like h,v2,v4,show (up w P).telescopes=w.telescopes from rfl,decide_eq_false (show ¬ t<0 by omega),decide_eq_false (show ¬ t≥(w.telescopes.length:Int) by omega),v5]
 simp only [Bool.not_true,Bool.or_false,bne_self_eq_false,cond_false]
 rw [req_loop,candL_like h,exs_like h]
 show Req.Requests_b1_r (up w P) c s t (exs (slot w c s t) (Cnd.candL w s),rqs (slot (up w P) c s t) (Cnd.candL w s))=_
 rw [Req.Requests_b1_r]
 dsimp only
 rw [decide_eq_false (show ¬ ((((rqs (slot (up w P) c s t) (Cnd.candL w s)).length:Nat):Int)>200) by omega),cond_false]
abbrev kI(w:Wd)(which:Int):Int:=(IntKind.i64.wrap which).tmod (w.programmes.length:Int)
theorem getD_set{l:List Prg}{i j:Nat}{x:Prg}(hj:j<l.length):(l.set j x).getD i zPrg=if j=i then x else l.getD i zPrg:=by
 simp only [gE,List.getElem?_set]
 by_cases h:j=i
 ·subst h;simp [hj]
 ·simp [h]
theorem chg_at{w:Wd}{which:Int}{merit:List Nd}{bonus:Int}(hk:(kI w which).toNat<w.programmes.length)(i:Nat):
  (LwM.chgP w which merit bonus).getD i zPrg=if (kI w which).toNat=i then ⟨(w.programmes.getD (kI w which).toNat zPrg).id,(w.programmes.getD (kI w which).toNat zPrg).partner,merit,(w.programmes.getD (kI w which).toNat zPrg).frm,(w.programmes.getD (kI w which).toNat zPrg).til,(w.programmes.getD (kI w which).toNat zPrg).tiles,(w.programmes.getD (kI w which).toNat zPrg).seq,(w.programmes.getD (kI w which).toNat zPrg).follow,bonus⟩ else w.programmes.getD i zPrg:=by
 rw [LwM.chgP,LwM.chgP0]
 generalize hK:((IntKind.i64.wrap which).tmod (w.programmes.length:Int)).toNat=K
 have hK':(kI w which).toNat=K:=hK
 rw [hK'] at hk
 rw [getD_set (by rw [List.length_set];exact hk),getD_set hk]
 by_cases h:K=i
 ·subst h
  rw [if_pos rfl,if_pos rfl]
  simp only [getD_set hk,ite_true]
 ·rw [if_neg h,if_neg h,getD_set hk,if_neg h]
theorem chg_like{w:Wd}{which:Int}{merit:List Nd}{bonus:Int}(hk:(kI w which).toNat<w.programmes.length):Like w.programmes (LwM.chgP w which merit bonus):=by
 refine ⟨by simp [LwM.chgP,LwM.chgP0],fun i=>?_,fun i=>?_,fun i=>?_,fun i=>?_,fun i=>?_,fun i=>?_⟩ <;>
 ·rw [chg_at hk]
  by_cases h:(kI w which).toNat=i
  ·rw [if_pos h,h]
  ·rw [if_neg h]
theorem worth_other{w:Wd}{which:Int}{merit:List Nd}{bonus:Int}(hk:(kI w which).toNat<w.programmes.length)(c:Scr)(s:Sta)(t:Int)(a:Rq×Cs)(h:(kI w which).toNat≠a.1.prog.toNat):
  Slo.worth (slot (up w (LwM.chgP w which merit bonus)) c s t) a.1 a.2=Slo.worth (slot w c s t) a.1 a.2:=by
 have hp:(slot (up w (LwM.chgP w which merit bonus)) c s t).w.programmes.getD a.1.prog.toNat zPrg=(slot w c s t).w.programmes.getD a.1.prog.toNat zPrg:=by
  show (LwM.chgP w which merit bonus).getD a.1.prog.toNat zPrg=w.programmes.getD a.1.prog.toNat zPrg
  rw [chg_at hk,if_neg h]
 have h1:∀ j,Slo.worth_k1 (slot (up w (LwM.chgP w which merit bonus)) c s t) a.1 a.2 j=Slo.worth_k1 (slot w c s t) a.1 a.2 j:=fun j=>by
  rw [Slo.worth_k1,Slo.worth_k1,hp];rfl
 rw [Slo.worth,Slo.worth,h1,h1];rfl
theorem sameEx_refl(l:List Exc):Hd.SameExclusions l l=true:=by
 rw [Hd.SameExclusions,show (((l.length:Int) != (l.length:Int)))=false by simp,cond_false,runL_nx _ _ fun j g1 g2=>by
  rw [Hd.SameExclusions_b1];simp]
 rfl
theorem map_getD{α β:Type}(f:α→β){l:List α}{i:Nat}(h:i<l.length)(d:β):(l.map f).getD i d=f l[i]:=by
 simp [gE,h]
theorem mers_round{w:Wd}{c:Scr}{s:Sta}{t which:Int}{merit:List Nd}{bonus:Int}(hw:0≤which∧which≤255)(hn:1≤w.programmes.length)(ok:Ok w c s t)(h2:(Req.Requests (up w (LwM.chgP w which merit bonus)) c s t).1=rqs (slot (up w (LwM.chgP w which merit bonus)) c s t) (Cnd.candL w s)) 
  (i:Nat) (hi:i<((Req.Requests w c s t).1).length):LwM.Mers_b1 w c s t which merit bonus i ()=.nx ():=by
 have hkk:=LwM.kK hw hn
 have hL:=chg_like (merit:=merit) (bonus:=bonus) hkk.2
 rw [ok.r1] at hi
 have hi':i<((Cnd.candL w s).filter fun a=>J (slot w c s t) a==0).length:=by simpa [rqs] using hi
 obtain ⟨a,ha⟩:∃ a,((Cnd.candL w s).filter fun a=>J (slot w c s t) a==0)[i]=a:=⟨_,rfl⟩
 have hmem:a∈Cnd.candL w s:=(List.mem_filter.1 (ha▸List.getElem_mem hi')).1
 have hel:=ok.el hmem
 have g1:(Req.Requests w c s t).1.getD i zRq=rOf (slot w c s t) a:=by rw [ok.r1,rqs,map_getD _ hi',ha]
 have g2:(Req.Requests (LwM.chgW w which merit bonus) c s t).1.getD i zRq=rOf (slot (up w (LwM.chgP w which merit bonus)) c s t) a:=by
  show (Req.Requests (up w (LwM.chgP w which merit bonus)) c s t).1.getD i zRq=_
  rw [h2,rqs_like hL,map_getD _ hi',ha]
 rw [LwM.Mers_b1,g1,g2]
 have e1:(rOf (slot w c s t) a).prog=a.1.prog:=rfl
 rw [e1]
 cases hb:(a.1.prog==(IntKind.i64.wrap which).tmod (w.programmes.length:Int)) with
 | true =>
  rw [cond_true,LwM.Mers_k1]
  simp [rOf]
 | false =>
  rw [cond_false,LwM.Mers_k1]
  have hne:(kI w which).toNat≠a.1.prog.toNat:=by
   have h3:a.1.prog≠kI w which:=by simpa using hb
   have h4:0≤kI w which:=hkk.1.1
   omega
  have:=worth_other (merit:=merit) (bonus:=bonus) hkk.2 c s t a hne
  simp [rOf,this]
set_option maxRecDepth 100000 in
theorem Mers_true (w:Wd) (c:Scr) (s:Sta) (t which:Int) (merit:List Nd) (bonus:Int) (hw:0≤which∧which≤255):LwM.Mers w c s t which merit bonus=true:=by
 rw [LwM.Mers,head_true]
 cases hfew:(((!(Lw.few w c s))||(decide ((merit.length:Int)>30)))||((w.programmes.length:Int)==0)) with
 | true=>rfl
 | false =>
  have hn:=LwM.mers_few hfew
  have hkk:=LwM.kK hw hn.1
  have hL:=chg_like (merit:=merit) (bonus:=bonus) hkk.2
  rw [cond_false]
  cases hv:((!(Exp.Valid merit))||(!(Prg.Valid (((LwM.chgW w which merit bonus).programmes).getD (((IntKind.i64.wrap which).tmod (w.programmes.length:Int)).toNat) zPrg)))) with
  | true=>rfl
  | false =>
   rw [cond_false]
   cases he:((Req.Requests w c s t).2.2 != 0) with
   | true=>rfl
   | false =>
    rw [cond_false]
    have ok:=ok_of he
    rw [Bool.or_eq_false_iff,Bool.not_eq_false',Bool.not_eq_false'] at hv
    have hp:∀ i,i<(LwM.chgP w which merit bonus).length→Prg.Valid ((LwM.chgP w which merit bonus).getD i zPrg)=true:=fun i hi=>by
     by_cases h:(kI w which).toNat=i
     ·rw [← h];exact hv.2
     ·rw [chg_at hkk.2,if_neg h];exact Req.valid_prg ok.v i (by rw [hL.len] at hi;exact hi)
    have hr:=req_like hL hp (show (Req.Requests w c s t).2.2=0 by simpa using he)
    have hq:Req.Requests (LwM.chgW w which merit bonus) c s t=(rqs (slot (up w (LwM.chgP w which merit bonus)) c s t) (Cnd.candL w s),exs (slot w c s t) (Cnd.candL w s),0):=hr
    have hlen:(rqs (slot (up w (LwM.chgP w which merit bonus)) c s t) (Cnd.candL w s)).length=(rqs (slot w c s t) (Cnd.candL w s)).length:=by rw [rqs_like hL,rqs,List.length_map,List.length_map]
    rw [hq,ok.r2,sameEx_refl,ok.r1,hlen]
    rw [show ((((0:Int) != 0)||!true)||((rqs (slot w c s t) (Cnd.candL w s)).length:Int) != ((rqs (slot w c s t) (Cnd.candL w s)).length:Int))=false by simp,cond_false]
    rw [runL_nx _ _ fun j g1 g2=>mers_round hw hn.1 ok (by rw [hr]) j (by rw [ok.r1];omega)]
    show LwM.Mers_b1_r w c s t which merit bonus ()=true
    rw [LwM.Mers_b1_r,head_true]
theorem merits(w:Wd)(c:Scr)(s:Sta)(t which:Int)(merit:List Nd)(bonus:Int)(hw:0≤which∧which≤255):FCall Tryz.prog 7 [.agg (encWd w),.agg (encScr c),.agg (encSta s),vI t,.c (.int .u8 which),.c (.lst 4 merit.length (elM encNd zNd merit)),vI bonus] (.v (vB true)):=by
 have:=LwM.Mers_c w c s t which merit bonus hw
 rw [Mers_true _ _ _ _ _ _ _ hw] at this
 exact this
end Go.Proofs.YtidbmbpeblmliaaGreatDoor.Pl
