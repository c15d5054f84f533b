/- Part of the proof of the statement that the claim's last text names: contracts of functions and laws of the symbolic layer. -/
import Derived.Test.YtidbmbpeblmliaaGreatDoorM31
import Derived.Test.YtidbmbpeblmliaaGreatDoorM27
import Derived.Test.YtidbmbpeblmliaaGreatDoorM14
set_option linter.unusedVariables false
set_option linter.unusedSimpArgs false
namespace Go.Proofs.YtidbmbpeblmliaaGreatDoor.Pl
open Go.Sym Go.Proofs.YtidbmbpeblmliaaGreatDoor
theorem rqs_at{x:Slt}{l:List (Rq×Cs)}{i:Nat}(h:i<(rqs x l).length):∃ a,a∈l∧J x a=0∧(rqs x l).getD i zRq=rOf x a:=by
 have h1:(rqs x l).getD i zRq∈rqs x l:=by
  rw [gE,List.getElem?_eq_getElem h];exact List.getElem_mem h
 generalize (rqs x l).getD i zRq=r at h1
 obtain ⟨a,ha,rfl⟩:=List.mem_map.1 h1
 obtain ⟨h2,h3⟩:=List.mem_filter.1 ha
 exact ⟨a,h2,by simpa using h3,rfl⟩
theorem exs_at{x:Slt}{l:List (Rq×Cs)}{i:Nat}(h:i<(exs x l).length):∃ a,a∈l∧J x a≠0∧(exs x l).getD i zExc=xOf x a:=by
 have h1:(exs x l).getD i zExc∈exs x l:=by
  rw [gE,List.getElem?_eq_getElem h];exact List.getElem_mem h
 generalize (exs x l).getD i zExc=r at h1
 obtain ⟨a,ha,rfl⟩:=List.mem_map.1 h1
 obtain ⟨h2,h3⟩:=List.mem_filter.1 ha
 exact ⟨a,h2,by simpa using h3,rfl⟩
theorem bif_ne{a b:Int}(h:(bif a != 0 then a else b)=0):a=0∧b=0:=by
 cases e:(a != 0) with
 | true=>rw [e] at h;simp at e;exact absurd h e
 | false=>rw [e] at h;exact ⟨by simpa using e,h⟩
theorem judge_zero{x:Slt}{r:Rq}{c:Cs}(h:Slo.judge x r c=0):Slo.runs x r c=0∧Slo.ready x r c=0∧Slo.mounted x r c=0∧Slo.permitted x r c=0∧Slo.dry x r c=0∧Slo.high x r c=0∧Slo.prepared x r c=0:=by
 rw [Slo.judge] at h
 obtain ⟨h1,h⟩:=bif_ne h
 obtain ⟨h2,h⟩:=bif_ne h
 obtain ⟨h3,h⟩:=bif_ne h
 obtain ⟨h4,h⟩:=bif_ne h
 obtain ⟨h5,h⟩:=bif_ne h
 obtain ⟨h6,h⟩:=bif_ne h
 obtain ⟨h7,_⟩:=bif_ne h
 exact ⟨h1,h2,h3,h4,h5,h6,h7⟩
theorem bif_lit{b:Bool}{n:Int}(hn:n≠0)(h:(bif b then n else 0)=0):b=false:=by
 cases b with
 | true=>exact absurd h hn
 | false=>rfl
theorem course_go{w:Wd}{s:Sta}{i:Nat}(hd:(w.programmes.getD i zPrg).tiles.Nodup){m:Nat}(hm:m<(w.programmes.getD i zPrg).tiles.length)(hc:m<(s.courses.getD i []).length)(hl:(w.programmes.getD i zPrg).tiles.length≤1000000):
  ∀ d k n,k+d=m→d<n→runW (Lw.course_b1 w s (i:Int) ((w.programmes.getD i zPrg).tiles.getD m 0)) n (k:Int)=.rt (Cnd.crs s i m,true)
 | d,k,0,h1,h2=>absurd h2 (Nat.not_lt_zero _)
 | d,k,n+1,h1,h2=>by
  rw [runW]
  have hb:Lw.course_b1 w s (i:Int) ((w.programmes.getD i zPrg).tiles.getD m 0) (k:Int)=bif ((w.programmes.getD i zPrg).tiles.getD k 0==(w.programmes.getD i zPrg).tiles.getD m 0) then .rt (Cnd.crs s i k,true) else .nx ((k+1:Nat):Int):=by
   rw [Lw.course_b1]
   simp only [Int.toNat_natCast]
   rw [decide_eq_true (show (k:Int)<((w.programmes.getD i zPrg).tiles.length:Int) by omega),decide_eq_true (show (k:Int)<((s.courses.getD i []).length:Int) by omega),w64 ((k:Int)+1) om om]
   rfl
  rw [hb]
  rcases Nat.eq_or_lt_of_le (show k≤m by omega) with e | e
  ·subst e
   rw [show (((w.programmes.getD i zPrg).tiles.getD k 0==(w.programmes.getD i zPrg).tiles.getD k 0):Bool)=true from beq_self_eq_true _]
   rfl
  ·have hne:((w.programmes.getD i zPrg).tiles.getD k 0==(w.programmes.getD i zPrg).tiles.getD m 0)=false:=by
    rw [beq_eq_false_iff_ne]
    intro h
    have:=nodup_getD hd (show k<_ by omega) hm h
    omega
   rw [hne,cond_false]
   cases d with
   | zero=>omega
   | succ d=>exact course_go hd hm hc hl d (k+1) n om om
theorem course_at{w:Wd}{s:Sta}{i m:Nat}(hd:(w.programmes.getD i zPrg).tiles.Nodup)(hm:m<(w.programmes.getD i zPrg).tiles.length)(hc:m<(s.courses.getD i []).length)(hl:(w.programmes.getD i zPrg).tiles.length≤1000000):
  Lw.course w s (i:Int) ((w.programmes.getD i zPrg).tiles.getD m 0)=(Cnd.crs s i m,true):=by
 have:=course_go hd hm hc hl m 0 (((((w.programmes.getD i zPrg).tiles).length:Int) - 0).toNat+1) om om
 rw [Lw.course,Int.toNat_natCast]
 exact congrArg (Fl.fin _) this
theorem moment_of{n:Int}(h:0≤n∧n≤38399):Ovr.moment n=true:=by
 simp [Ovr.moment,Ovr.within];omega
theorem stuck_ok{l:List Ov}{t m:Int}(h1:Ovr.Valid l=true)(h2:0≤m∧m≤38399)(h3:0≤t∧t<6):(Ovr.Stuck l t m).2=0:=by
 rw [Ovr.Stuck,h1,moment_of h2,show Ovr.within t 6=true by simp [Ovr.within];omega]
 simp only [Bool.not_true,Bool.or_false,cond_false]
 refine runL_inv (bd:=Ovr.Stuck_b1 l t m) (fun _ _=>True) (fun q=>(q.fin (Ovr.Stuck_b1_r l t m)).2=0) (n:=(Ovr.actL l m).length) (fun _ _ _ _ _ _=>trivial) (fun i x y hi hx hb=>?_) (fun i x q hi hx hb=>?_) (fun x hx=>rfl) _ 0 () om trivial
 ·rw [Ovr.Stuck_b1,cond_eq_ite] at hb;split at hb<;>cases hb
 ·rw [Ovr.Stuck_b1,cond_eq_ite] at hb
  split at hb
  ·cases hb;rfl
  ·cases hb
theorem height_err{site tile m:Int}(h:(Air.Height site tile m).2≠0):(Air.Height site tile m).1=0:=by
 rw [Air.Height] at h ⊢
 cases h1:(!(Air.exists' site tile)) with
 | true=>rfl
 | false =>
  rw [h1,cond_false] at h
  rw [cond_false]
  cases h2:(((Air.Hour (tile.tmod 32) m).2) != 0) with
  | true=>rfl
  | false=>rw [h2] at h;exact absurd rfl h
theorem limit_pos{w:Wd}(h:Fea.Valid w=true):100≤w.limit:=by
 have h1:=(bif_f (by rwa [Fea.Valid] at h)).2
 have h2:=runL_end (k:=Fea.Valid_b1_r w) (fun j=>bool_or _) _ _ h1
 rw [Fea.Valid_b1_r] at h2
 have h3:=runL_end (k:=Fea.Valid_b2_r w ()) (fun j=>bool_or _) _ _ h2
 rw [Fea.Valid_b2_r] at h3
 have h4:=runL_end (k:=Fea.Valid_b3_r w () ()) (fun j=>bool_or _) _ _ h3
 rw [Fea.Valid_b3_r] at h4
 have h5:=runL_end (k:=Fea.Valid_b4_r w () () ()) (fun j=>bool_or _) _ _ h4
 rw [Fea.Valid_b4_r] at h5
 simp only [Bool.and_eq_true,decide_eq_true_eq] at h5
 omega
structure Ok (w:Wd) (c:Scr) (s:Sta) (t:Int):Prop where
 v:Fea.Valid w=true
 f:Fea.fits w s=true
 t0:0≤t∧t<(w.telescopes.length:Int)
 o:Ovr.Valid c.overrides=true
 wea:(Wea.At c.spells s.mom).2=0
 r1:(Req.Requests w c s t).1=rqs (slot w c s t) (Cnd.candL w s)
 r2:(Req.Requests w c s t).2.1=exs (slot w c s t) (Cnd.candL w s)
theorem ok_of{w:Wd}{c:Scr}{s:Sta}{t:Int}(h:((Req.Requests w c s t).2.2 != 0)=false):Ok w c s t:=by
 obtain ⟨v1,v2,v3,v4,v5,v6,v7⟩:=req_ok (w:=w) (c:=c) (s:=s) (t:=t) (by simpa using h)
 exact ⟨v1,v2,v3,v4,v5,by rw [v7],by rw [v7]⟩
theorem Ok.el{w:Wd}{c:Scr}{s:Sta}{t:Int}(h:Ok w c s t){a:Rq×Cs}(ha:a∈Cnd.candL w s):0≤a.1.prog∧a.1.prog<(w.programmes.length:Int)∧0≤a.1.tile∧a.1.tile<512:=by
 obtain ⟨j,hj,rfl⟩:=List.mem_iff_getElem.1 ha
 have:=(Req.cand_ok (t:=t) h.v h.f).el j hj
 simpa [gE,hj] using this
theorem Ok.place{w:Wd}{c:Scr}{s:Sta}{t:Int}(h:Ok w c s t){a:Rq×Cs}(ha:a∈Cnd.candL w s):Lw.place w s t a.1.prog=true:=by
 have h1:=h.el ha
 have h2:=h.t0
 have h3:=Req.cand_ok (t:=t) h.v h.f
 have h4:=h3.tels
 have h5:=h3.courses
 simp only [Lw.place,Bool.and_eq_true,decide_eq_true_eq]
 omega
theorem Ok.course{w:Wd}{c:Scr}{s:Sta}{t:Int}(h:Ok w c s t){a:Rq×Cs}(ha:a∈Cnd.candL w s)(hn:a.1.alert=false):Lw.course w s a.1.prog a.1.tile=(a.2,true):=by
 rcases List.mem_append.1 ha with ha | ha
 ·obtain ⟨i,m,hi,hm,e⟩:=candP_at _ a ha
  have h3:=Req.cand_ok (t:=t) h.v h.f
  have:=course_at (s:=s) (tiles_nodup (Req.valid_prg h.v i hi)) hm (h3.steps i m hi hm).1 (h3.progs.2 i hi)
  rw [e];exact this
 ·rw [(candO_at _ a ha).2.1] at hn;cases hn
theorem req_round{w:Wd}{c:Scr}{s:Sta}{t:Int}(h:Ok w c s t)(i:Nat)(hi:i<((Req.Requests w c s t).1).length):LwQ.Reqs_b1 w c s t i ()=.nx ():=by
 rw [h.r1] at hi
 obtain ⟨a,ha,hj,hr⟩:=rqs_at hi
 obtain ⟨j1,j2,j3,j4,j5,j6,j7⟩:=judge_zero hj
 have hm:=(Req.fits_facts h.f).2.2.1
 have ht:=h.t0
 have hl:=(Req.valid_lens h.v).1
 rw [LwQ.Reqs_b1,h.r1,hr]
 have e1:(rOf (slot w c s t) a).prog=a.1.prog:=rfl
 have e2:(rOf (slot w c s t) a).tile=a.1.tile:=rfl
 have e3:(rOf (slot w c s t) a).filter=a.1.filter:=rfl
 have e4:(rOf (slot w c s t) a).alert=a.1.alert:=rfl
 rw [e1,e2,e3,e4,h.place ha,h.wea,stuck_ok h.o hm ⟨ht.1,om⟩]
 have k1:=bif_lit (by decide) j1
 have k5:=bif_lit (by decide) j5
 have k6:=bif_lit (by decide) j6
 have k6':¬ ((Air.Height ((w.telescopes.getD t.toNat zTel).site) a.1.tile s.mom).1<w.limit):=of_decide_eq_false k6
 have k0:(Air.Height ((w.telescopes.getD t.toNat zTel).site) a.1.tile s.mom).2=0:=by
  refine Classical.byContradiction fun hc=>?_
  have:=height_err hc
  have:=limit_pos h.v
  omega
 have k4:Ovr.Judge c.overrides t a.1.prog a.1.tile s.mom=0:=j4
 have k7:(Rig.Prepare (w.telescopes.getD t.toNat zTel) (⟨(s.rigs.getD t.toNat zRg).pos,(s.rigs.getD t.toNat zRg).filter,(((s.rigs.getD t.toNat zRg).stuck)||((Ovr.Stuck c.overrides t s.mom).1))⟩:Rg) (a.1.tile.tmod 32) a.1.filter).2.2=0:=j7
 have k5':((Wea.At c.spells s.mom).1).opn=true:=by
  have:(!((Wea.At c.spells s.mom).1).opn)=false:=k5
  simpa using this
 rw [Bool.or_eq_false_iff] at k1
 have k1a:decide (s.mom<((w.programmes.getD a.1.prog.toNat zPrg).frm))=false:=k1.1
 have k1b:decide (s.mom>((w.programmes.getD a.1.prog.toNat zPrg).til))=false:=k1.2
 rw [k0,k4,k7,k5',k1a,k1b,decide_eq_false k6']
 simp only [BEq.rfl,bne_self_eq_false,Bool.not_true,Bool.or_false,cond_false]
 cases hn:a.1.alert with
 | true=>rfl
 | false =>
  have j2':Cad.Ready ((w.programmes.getD a.1.prog.toNat zPrg).seq) a.2 s.mom=0:=by
   have:(bif a.1.alert then 0 else Cad.Ready ((w.programmes.getD a.1.prog.toNat zPrg).seq) a.2 s.mom)=0:=j2
   rwa [hn,cond_false] at this
  rw [h.course ha hn,j2']
  rfl
set_option maxRecDepth 100000 in
theorem Reqs_true (w:Wd) (c:Scr) (s:Sta) (t:Int):LwQ.Reqs w c s t=true:=by
 rw [LwQ.Reqs,head_true]
 cases hfew:(!(Lw.few w c s)) with
 | true=>rfl
 | false =>
  rw [cond_false]
  cases he:((Req.Requests w c s t).2.2 != 0) with
  | true=>rfl
  | false =>
   rw [cond_false]
   refine runL_inv (bd:=LwQ.Reqs_b1 w c s t) (fun _ _=>True) (fun q=>q.fin (LwQ.Reqs_b1_r w c s t)=true) (n:=((Req.Requests w c s t).1).length) (fun _ _ _ _ _ _=>trivial) (fun i x y hi hx hb=>?_) (fun i x q hi hx hb=>?_) (fun x hx=>?_) _ 0 () om trivial
   ·rw [req_round (ok_of he) i hi] at hb;cases hb
   ·rw [req_round (ok_of he) i hi] at hb;cases hb
   ·show LwQ.Reqs_b1_r w c s t x=true
    rw [LwQ.Reqs_b1_r,head_true]
theorem requests(w:Wd)(c:Scr)(s:Sta)(t:Int):FCall Tryz.prog 5 [.agg (encWd w),.agg (encScr c),.agg (encSta s),vI t] (.v (vB true)):=by
 have:=LwQ.Reqs_c w c s t
 rw [Reqs_true] at this
 exact this
end Go.Proofs.YtidbmbpeblmliaaGreatDoor.Pl
