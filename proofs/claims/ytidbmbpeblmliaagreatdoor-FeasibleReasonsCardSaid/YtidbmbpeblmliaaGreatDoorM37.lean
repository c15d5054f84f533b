/- Part of the proof of the statement that the claim's last text names: contracts of functions and laws of the symbolic layer. -/
import Derived.Test.YtidbmbpeblmliaaGreatDoorM32
import Derived.Test.YtidbmbpeblmliaaGreatDoorM14
set_option linter.unusedVariables false
set_option linter.unusedSimpArgs false
namespace Go.Proofs.YtidbmbpeblmliaaGreatDoor.Pl
open Go.Sym Go.Proofs.YtidbmbpeblmliaaGreatDoor
theorem candT_st{w:Wd}{s:Sta}{i:Nat}:∀ k,∀ a,a∈Cnd.candT w s i k→∃ m,m<k∧a=((⟨i,(w.programmes.getD i zPrg).tiles.getD m 0,((w.programmes.getD i zPrg).seq.l.getD (Cnd.crs s i m).next.toNat zStp).f,0,false⟩:Rq),Cnd.crs s i m)∧(Cnd.crs s i m).over=false
 | 0,a,ha=>by cases ha
 | k+1,a,ha=>by
  rw [Cnd.candT] at ha
  rcases List.mem_append.1 ha with ha | ha
  ·obtain ⟨m,h1,h2⟩:=candT_st k a ha
   exact ⟨m,om,h2⟩
  ·rw [Cnd.cOne] at ha
   split at ha
   ·cases ha
   ·rename_i ho
    rw [List.mem_singleton.1 ha]
    exact ⟨k,om,rfl,by simpa using ho⟩
theorem candP_st{w:Wd}{s:Sta}:∀ n,∀ a,a∈Cnd.candP w s n→∃ i m,i<n∧m<(w.programmes.getD i zPrg).tiles.length∧a=((⟨(i:Int),(w.programmes.getD i zPrg).tiles.getD m 0,((w.programmes.getD i zPrg).seq.l.getD (Cnd.crs s i m).next.toNat zStp).f,0,false⟩:Rq),Cnd.crs s i m)∧(Cnd.crs s i m).over=false
 | 0,a,ha=>by cases ha
 | n+1,a,ha=>by
  rw [Cnd.candP] at ha
  rcases List.mem_append.1 ha with ha | ha
  ·obtain ⟨i,m,h1,h2⟩:=candP_st n a ha
   exact ⟨i,m,om,h2⟩
  ·obtain ⟨m,h1,h2⟩:=candT_st _ a ha
   exact ⟨n,m,om,h1,h2⟩
theorem seq_valid{p:Prg}(h:Prg.Valid p=true):Cad.Valid p.seq=true:=by
 rw [Prg.Valid] at h
 obtain ⟨_,h1⟩:=bif_f h
 obtain ⟨_,h2⟩:=bif_f h1
 simp only [Bool.and_eq_true] at h2
 exact h2.1.1.2
theorem seq_f{q:Sq}(h:Cad.Valid q=true)(j:Nat):0≤(q.l.getD j zStp).f:=by
 by_cases hj:j<q.l.length
 ·rw [Cad.Valid] at h
  obtain ⟨_,h1⟩:=bif_f h
  have h2:=bool_nx (runL_true (k:=Cad.Valid_b1_r q) (fun j=>bool_or _) _ _ h1 j (Nat.zero_le _) om)
  simp only [Bool.or_eq_false_iff,Bool.not_eq_false',Cad.within,Bool.and_eq_true,decide_eq_true_eq] at h2
  omega
 ·rw [gE,List.getElem?_eq_none om]
  exact Int.le_refl 0
theorem open_f{w:Wd}{l:List Fol}(h:Fea.open_ w l=true)(i:Nat)(hi:i<l.length):0≤(l.getD i zFol).filter:=by
 have h1:=runL_true (fun j=>bool_or _) _ _ h
 have:=bool_nx (h1 i (Nat.zero_le _) om)
 simp only [Bool.or_eq_false_iff,decide_eq_false_iff_not] at this
 omega
theorem candO_st{s:Sta}:∀ n,∀ a,a∈Cnd.candO s n→∃ i,i<n∧a=Cnd.oOne s i:=Req.candO_mem
theorem Ok.filter{w:Wd}{c:Scr}{s:Sta}{t:Int}(h:Ok w c s t){a:Rq×Cs}(ha:a∈Cnd.candL w s):0≤a.1.filter:=by
 rcases List.mem_append.1 ha with ha | ha
 ·obtain ⟨i,m,hi,hm,e,_⟩:=candP_st _ a ha
  rw [e]
  exact seq_f (seq_valid (Req.valid_prg h.v i hi)) _
 ·obtain ⟨i,hi,rfl⟩:=candO_st _ a ha
  exact open_f (Req.fits_facts h.f).2.2.2.1 i hi
theorem rig_valid{w:Wd}{s:Sta}(h:Fea.fits w s=true)(i:Nat)(hi:i<w.telescopes.length):Rig.Valid (w.telescopes.getD i zTel) (s.rigs.getD i zRg)=true:=by
 obtain ⟨h1,h2⟩:=bif_f (by rwa [Fea.fits] at h)
 have h3:=bool_nx (runL_true (k:=Fea.fits_b1_r w s) (fun j=>bool_or _) _ _ h2 i (Nat.zero_le _) om)
 rw [Bool.or_eq_false_iff,Bool.or_eq_false_iff,Bool.not_eq_false'] at h3
 exact h3.1.1
theorem ready_range{q:Sq}{k:Cs}{m:Int}(hv:Cad.valid q k=true)(ho:k.over=false)(hm:0≤m∧m≤38399):Cad.Ready q k m=0∨Cad.Ready q k m=16∨Cad.Ready q k m=17:=by
 rw [Cad.Ready,Cad.first]
 have h1:Cad.rd1 q k m=true:=by rw [Cad.rd1,hv];simp [Cad.within];omega
 have h2:Cad.rd2 k=true:=by rw [Cad.rd2,ho];rfl
 rw [h1,h2]
 cases Cad.rd3 m q k<;>cases Cad.rd4 m q k<;>simp
theorem Ok.ready{w:Wd}{c:Scr}{s:Sta}{t:Int}(h:Ok w c s t){a:Rq×Cs}(ha:a∈Cnd.candL w s)(hn:a.1.alert=false):Cad.Ready ((w.programmes.getD a.1.prog.toNat zPrg).seq) a.2 s.mom=0∨Cad.Ready ((w.programmes.getD a.1.prog.toNat zPrg).seq) a.2 s.mom=16∨Cad.Ready ((w.programmes.getD a.1.prog.toNat zPrg).seq) a.2 s.mom=17:=by
 obtain ⟨f1,f2,f3,f4,f5⟩:=Req.fits_facts h.f
 rcases List.mem_append.1 ha with ha | ha
 ·obtain ⟨i,m,hi,hm,e,ho⟩:=candP_st _ a ha
  obtain ⟨g1,g2⟩:=f5 i hi
  rw [e]
  exact ready_range (g2 m om) ho f3
 ·rw [(candO_at _ a ha).2.1] at hn;cases hn
theorem judge_range{l:List Ov}{t p k m:Int}(h1:Ovr.Valid l=true)(h2:0≤m∧m≤38399)(h3:0≤t∧t<6)(h4:0≤p∧p<64)(h5:0≤k∧k<512):Ovr.Judge l t p k m=0∨Ovr.Judge l t p k m=18∨Ovr.Judge l t p k m=22:=by
 rw [Ovr.Judge,h1,moment_of h2,show Ovr.cvalid ⟨t,p,k⟩=true by simp [Ovr.cvalid,Ovr.within];omega]
 simp only [Bool.not_true,Bool.or_false,cond_false]
 refine runL_inv (bd:=Ovr.Judge_b1 l t p k m) (fun _ _=>True) (fun q=>q.fin (Ovr.Judge_b1_r l t p k m)=0∨q.fin (Ovr.Judge_b1_r l t p k m)=18∨q.fin (Ovr.Judge_b1_r l t p k m)=22) (n:=(Ovr.actL l m).length) (fun _ _ _ _ _ _=>trivial) (fun i x y hi hx hb=>?_) (fun i x q hi hx hb=>?_) (fun x hx=>.inl rfl) _ 0 () om trivial
 ·rw [Ovr.Judge_b1] at hb
  simp only [cond_eq_ite] at hb
  repeat' split at hb
  all_goals cases hb
 ·rw [Ovr.Judge_b1] at hb
  simp only [cond_eq_ite] at hb
  repeat' split at hb
  all_goals first | (cases hb;done) | (cases hb;simp [Fl.fin])
theorem move_ok{p k:Int}(h1 : -48≤p∧p≤48)(h2:0≤k∧k<32):(Pln.move p k).2.2=0:=by
 rw [Pln.move]
 have:(Pln.plan1 p k).2.2=0:=by
  rw [Pln.plan1,show Mnt.is p=true by simp [Mnt.is];omega,show Mnt.column k=true by simp [Mnt.column];omega]
  simp only [Bool.not_true,Bool.or_false,cond_false]
  refine runL_inv (bd:=Pln.plan1_b3 p k) (fun _ _=>True) (fun q=>(q.fin (Pln.plan1_b3_r p k)).2.2=0) (n:=((Mnt.Reach k).1).length) (fun _ _ _ _ _ _=>trivial) (fun i x y hi hx hb=>?_) (fun i x q hi hx hb=>?_) (fun x hx=>rfl) _ 0 () om trivial
  ·rw [Pln.plan1_b3,cond_eq_ite] at hb;split at hb<;>cases hb
  ·rw [Pln.plan1_b3,cond_eq_ite] at hb
   split at hb
   ·cases hb;rfl
   ·cases hb
 rw [this];rfl
theorem prepare_range{e:Tel}{r:Rg}{k f:Int}(h1:Rig.Valid e r=true)(h2:0≤f∧f<e.filters)(h3:0≤k∧k<32):(Rig.Prepare e r k f).2.2=0∨(Rig.Prepare e r k f).2.2=20∨(Rig.Prepare e r k f).2.2=21:=by
 have h4:=h1
 simp only [Rig.Valid,Rig.telescope,Rig.within,Bool.and_eq_true,decide_eq_true_eq] at h4
 have hw:IntKind.i64.wrap (e.filters - 1)=e.filters - 1:=w64 _ om om
 rw [Rig.Prepare,h1,show Rig.within f 0 (IntKind.i64.wrap (e.filters - 1))=true by rw [hw];simp [Rig.within];omega,move_ok (p:=r.pos) (k:=k) om h3]
 simp only [Bool.not_true,Bool.or_false,cond_false,bne_self_eq_false,cond_eq_ite]
 repeat' split
 all_goals first | exact .inl rfl | exact .inr (.inl rfl) | exact .inr (.inr rfl) | (rename_i hh;exact absurd hh (by simp)) | (simp_all;done)
theorem Ok.prepare{w:Wd}{c:Scr}{s:Sta}{t:Int}(h:Ok w c s t){a:Rq×Cs}(ha:a∈Cnd.candL w s)(hf:a.1.filter<(w.telescopes.getD t.toNat zTel).filters)(b:Bool):
  (Rig.Prepare (w.telescopes.getD t.toNat zTel) ⟨(s.rigs.getD t.toNat zRg).pos,(s.rigs.getD t.toNat zRg).filter,b⟩ (a.1.tile.tmod 32) a.1.filter).2.2=0∨(Rig.Prepare (w.telescopes.getD t.toNat zTel) ⟨(s.rigs.getD t.toNat zRg).pos,(s.rigs.getD t.toNat zRg).filter,b⟩ (a.1.tile.tmod 32) a.1.filter).2.2=20∨(Rig.Prepare (w.telescopes.getD t.toNat zTel) ⟨(s.rigs.getD t.toNat zRg).pos,(s.rigs.getD t.toNat zRg).filter,b⟩ (a.1.tile.tmod 32) a.1.filter).2.2=21:=by
 have h1:=rig_valid h.f t.toNat (by have:=h.t0;omega)
 have h2:=h.el ha
 have h3:=Int.tmod_nonneg 32 h2.2.2.1
 have h4:=Int.tmod_lt_of_pos a.1.tile (show (0 :Int)<32 by decide)
 exact prepare_range h1 ⟨h.filter ha,hf⟩ ⟨h3,h4⟩
theorem bif_cases{a b:Int}(h:(bif a != 0 then a else b)≠0):(a≠0∧(bif a != 0 then a else b)=a)∨(a=0∧(bif a != 0 then a else b)=b∧b≠0):=by
 cases e:(a != 0) with
 | true=>exact .inl ⟨by simpa using e,rfl⟩
 | false=>rw [e] at h;exact .inr ⟨by simpa using e,rfl,h⟩
theorem judge_cases{x:Slt}{r:Rq}{c:Cs}(h:Slo.judge x r c≠0):(Slo.runs x r c≠0∧Slo.judge x r c=Slo.runs x r c)∨(Slo.ready x r c≠0∧Slo.judge x r c=Slo.ready x r c)∨(Slo.mounted x r c≠0∧Slo.judge x r c=Slo.mounted x r c)∨(Slo.permitted x r c≠0∧Slo.judge x r c=Slo.permitted x r c) ∨
  (Slo.dry x r c≠0∧Slo.judge x r c=Slo.dry x r c)∨(Slo.high x r c≠0∧Slo.judge x r c=Slo.high x r c)∨(Slo.mounted x r c=0∧Slo.prepared x r c≠0∧Slo.judge x r c=Slo.prepared x r c):=by
 rw [Slo.judge] at h ⊢
 rcases bif_cases h with ⟨g,e⟩ | ⟨g1,e1,h⟩
 ·exact .inl ⟨g,e⟩
 rw [e1];refine .inr ?_
 rcases bif_cases h with ⟨g,e⟩ | ⟨g2,e2,h⟩
 ·exact .inl ⟨g,e⟩
 rw [e2];refine .inr ?_
 rcases bif_cases h with ⟨g,e⟩ | ⟨g3,e3,h⟩
 ·exact .inl ⟨g,e⟩
 rw [e3];refine .inr ?_
 rcases bif_cases h with ⟨g,e⟩ | ⟨g4,e4,h⟩
 ·exact .inl ⟨g,e⟩
 rw [e4];refine .inr ?_
 rcases bif_cases h with ⟨g,e⟩ | ⟨g5,e5,h⟩
 ·exact .inl ⟨g,e⟩
 rw [e5];refine .inr ?_
 rcases bif_cases h with ⟨g,e⟩ | ⟨g6,e6,h⟩
 ·exact .inl ⟨g,e⟩
 rw [e6];refine .inr ?_
 rcases bif_cases h with ⟨g,e⟩ | ⟨g7,e7,h⟩
 ·exact ⟨g3,g,e⟩
 ·exact absurd rfl h
theorem bif_lit2{b:Bool}{n:Int}(h:(bif b then n else 0)≠0):b=true∧(bif b then n else 0)=n:=by
 cases b with
 | true=>exact ⟨rfl,rfl⟩
 | false=>exact absurd rfl h
set_option maxRecDepth 100000 in
theorem reas_round {w:Wd} {c:Scr} {s:Sta} {t:Int} (h:Ok w c s t) (i:Nat) (hi:i<((Req.Requests w c s t).2.1).length):LwQ.Reas_b1 w c s t i ()=.nx ():=by
 rw [h.r2] at hi
 obtain ⟨a,ha,hj,hr⟩:=exs_at hi
 have hm:=(Req.fits_facts h.f).2.2.1
 have ht:=h.t0
 have hl:=Req.valid_lens h.v
 have hel:=h.el ha
 have e1:(xOf (slot w c s t) a).prog=a.1.prog:=rfl
 have e2:(xOf (slot w c s t) a).tile=a.1.tile:=rfl
 have e3:(xOf (slot w c s t) a).filter=a.1.filter:=rfl
 have e4:(xOf (slot w c s t) a).alert=a.1.alert:=rfl
 have e5:(xOf (slot w c s t) a).reason=J (slot w c s t) a:=rfl
 simp only [LwQ.Reas_b1,LwQ.Reas_k1,LwQ.Reas_k2,LwQ.Reas_k3,h.r2,hr,e1,e2,e3,e4,e5,h.place ha]
 rcases judge_cases hj with ⟨g,e⟩ | ⟨g,e⟩ | ⟨g,e⟩ | ⟨g,e⟩ | ⟨g,e⟩ | ⟨g,e⟩ | ⟨g0,g,e⟩
 ·obtain ⟨k1,k2⟩:=bif_lit2 g
  have hJ:J (slot w c s t) a=11:=e.trans k2
  have k1':(decide (s.mom<((w.programmes.getD a.1.prog.toNat zPrg).frm))||decide (s.mom>((w.programmes.getD a.1.prog.toNat zPrg).til)))=true:=k1
  rw [hJ,k1'];rfl
 ·have g':(bif a.1.alert then 0 else Cad.Ready ((w.programmes.getD a.1.prog.toNat zPrg).seq) a.2 s.mom)≠0:=g
  have e':J (slot w c s t) a=(bif a.1.alert then 0 else Cad.Ready ((w.programmes.getD a.1.prog.toNat zPrg).seq) a.2 s.mom):=e
  cases hn:a.1.alert with
  | true=>rw [hn] at g';exact absurd rfl g'
  | false =>
   rw [hn,cond_false] at g' e'
   rw [h.course ha hn,e']
   rcases h.ready ha hn with k | k | k
   ·exact absurd k g'
   ·rw [k];rfl
   ·rw [k];rfl
 ·obtain ⟨k1,k2⟩:=bif_lit2 g
  have hJ:J (slot w c s t) a=9:=e.trans k2
  have k1':decide (a.1.filter≥(w.telescopes.getD t.toNat zTel).filters)=true:=k1
  rw [hJ,k1'];rfl
 ·have g':Ovr.Judge c.overrides t a.1.prog a.1.tile s.mom≠0:=g
  have e':J (slot w c s t) a=Ovr.Judge c.overrides t a.1.prog a.1.tile s.mom:=e
  rcases judge_range h.o hm ⟨ht.1,om⟩ (p:=a.1.prog) om (k:=a.1.tile) om with k | k | k
  ·exact absurd k g'
  ·rw [e',k];rfl
  ·rw [e',k];rfl
 ·obtain ⟨k1,k2⟩:=bif_lit2 g
  have hJ:J (slot w c s t) a=18:=e.trans k2
  have k1':(!((Wea.At c.spells s.mom).1).opn)=true:=k1
  rw [hJ,k1',Bool.or_true];rfl
 ·obtain ⟨k1,k2⟩:=bif_lit2 g
  have hJ:J (slot w c s t) a=19:=e.trans k2
  have k1':decide ((Air.Height ((w.telescopes.getD t.toNat zTel).site) a.1.tile s.mom).1<w.limit)=true:=k1
  rw [hJ,k1'];rfl
 ·have k3:=bif_lit (by decide) g0
  have k3':¬ (a.1.filter≥(w.telescopes.getD t.toNat zTel).filters):=of_decide_eq_false k3
  have g':(Rig.Prepare (w.telescopes.getD t.toNat zTel) (⟨(s.rigs.getD t.toNat zRg).pos,(s.rigs.getD t.toNat zRg).filter,(((s.rigs.getD t.toNat zRg).stuck)||((Ovr.Stuck c.overrides t s.mom).1))⟩:Rg) (a.1.tile.tmod 32) a.1.filter).2.2≠0:=g
  have e':J (slot w c s t) a=(Rig.Prepare (w.telescopes.getD t.toNat zTel) (⟨(s.rigs.getD t.toNat zRg).pos,(s.rigs.getD t.toNat zRg).filter,(((s.rigs.getD t.toNat zRg).stuck)||((Ovr.Stuck c.overrides t s.mom).1))⟩:Rg) (a.1.tile.tmod 32) a.1.filter).2.2:=e
  rcases h.prepare ha om ((s.rigs.getD t.toNat zRg).stuck||(Ovr.Stuck c.overrides t s.mom).1) with k | k | k
  ·exact absurd k g'
  ·rw [e',k];rfl
  ·rw [e',k];rfl
set_option maxRecDepth 100000 in
theorem Reas_true (w:Wd) (c:Scr) (s:Sta) (t:Int):LwQ.Reas w c s t=true:=by
 rw [LwQ.Reas,head_true]
 cases hfew:(!(Lw.few w c s)) with
 | true=>rfl
 | false =>
  rw [cond_false]
  cases he:((Req.Requests w c s t).2.2 != 0) with
  | true=>rfl
  | false =>
   rw [cond_false]
   refine runL_inv (bd:=LwQ.Reas_b1 w c s t) (fun _ _=>True) (fun q=>q.fin (LwQ.Reas_b1_r w c s t)=true) (n:=((Req.Requests w c s t).2.1).length) (fun _ _ _ _ _ _=>trivial) (fun i x y hi hx hb=>?_) (fun i x q hi hx hb=>?_) (fun x hx=>?_) _ 0 () om trivial
   ·rw [reas_round (ok_of he) i hi] at hb;cases hb
   ·rw [reas_round (ok_of he) i hi] at hb;cases hb
   ·show LwQ.Reas_b1_r w c s t x=true
    rw [LwQ.Reas_b1_r,head_true]
theorem reasons(w:Wd)(c:Scr)(s:Sta)(t:Int):FCall Tryz.prog 6 [.agg (encWd w),.agg (encScr c),.agg (encSta s),vI t] (.v (vB true)):=by
 have:=LwQ.Reas_c w c s t
 rw [Reas_true] at this
 exact this
end Go.Proofs.YtidbmbpeblmliaaGreatDoor.Pl
