/- Part of the proof of the statement that the claim's last text names: contracts of functions and laws of the symbolic layer. -/
import Derived.Test.YtidbmbpeblmliaaGreatDoorK28
import Derived.Test.YtidbmbpeblmliaaGreatDoorK14
import Derived.Test.YtidbmbpeblmliaaGreatDoorRows
import Derived.Test.YtidbmbpeblmliaaGreatDoorTie
import Derived.Test.YtidbmbpeblmliaaGreatDoorCards
import Derived.WalkKit
import Derived.ProofKit
import Derived.JoinedOf
import Derived.ChangeSame
import Derived.ChangeVars
import Derived.LaidLaws
import Derived.LaidHandle
import Derived.Lib.LaidTab
import Derived.SevenTiedAt
import Derived.Stop.Joined
import Derived.Test.YtidbmbpeblmliaaGreatDoorK13
import Derived.Test.YtidbmbpeblmliaaGreatDoorK27
namespace Go.Proofs.YtidbmbpeblmliaaGreatDoor.Pl
open Go.Sym Go.Proofs.YtidbmbpeblmliaaGreatDoor
set_option linter.unusedVariables false
set_option linter.unusedSimpArgs false
def slot(w:Wd)(c:Scr)(s:Sta)(t:Int):Slt:=(⟨w,c,s,t,(⟨(((Wea.At c.spells s.mom).1).clear),((Wea.At c.spells s.mom).1).seeing,((Wea.At c.spells s.mom).1).opn⟩:Cnd),(⟨(s.rigs.getD t.toNat zRg).pos,(s.rigs.getD t.toNat zRg).filter,(((s.rigs.getD t.toNat zRg).stuck)||((Ovr.Stuck c.overrides t s.mom).1))⟩:Rg)⟩:Slt)
def J(x:Slt)(a:Rq×Cs):Int:=Slo.judge x a.1 a.2
def xOf(x:Slt)(a:Rq×Cs):Exc:=⟨a.1.prog,a.1.tile,a.1.filter,a.1.alert,J x a⟩
def rOf(x:Slt)(a:Rq×Cs):Rq:=⟨a.1.prog,a.1.tile,a.1.filter,Slo.worth x a.1 a.2,a.1.alert⟩
def exs(x:Slt)(l:List (Rq×Cs)):List Exc:=(l.filter fun a=>J x a != 0).map (xOf x)
def rqs(x:Slt)(l:List (Rq×Cs)):List Rq:=(l.filter fun a=>J x a==0).map (rOf x)
theorem take_snoc{α:Type}{l:List α}{i:Nat}(h:i<l.length)(d:α):l.take (i+1)=l.take i++[l.getD i d]:=by
 rw [List.take_succ_eq_append_getElem h]
 simp [List.getD_eq_getElem?_getD,h]
theorem exs_snoc(x:Slt)(l:List (Rq×Cs))(a:Rq×Cs):exs x (l++[a])=exs x l++(if J x a != 0 then [xOf x a] else []):=by
 rw [exs,List.filter_append,List.map_append]
 cases h:(J x a != 0)<;>simp [exs,h]
theorem rqs_snoc (x : Slt) (l : List (Rq × Cs)) (a : Rq × Cs) : rqs x (l ++ [a]) = rqs x l ++ (if J x a != 0 then [] else [rOf x a]) := by
  rw [rqs, List.filter_append, List.map_append]
  cases h : (J x a != 0) with
  | true => have : (J x a == 0) = false := by simpa using h
            simp [rqs, this]
  | false => have : (J x a == 0) = true := by simpa using h
             simp [rqs, this]
theorem req_loop(w:Wd)(c:Scr)(s:Sta)(t:Int):runL (Req.Requests_b1 w c s t) ((Cnd.candL w s).length) 0 (([]:List Exc),([]:List Rq))=.nx (exs (slot w c s t) (Cnd.candL w s),rqs (slot w c s t) (Cnd.candL w s)):=by
 refine runL_inv (bd:=Req.Requests_b1 w c s t) (n:=(Cnd.candL w s).length) (fun i x=>x=(exs (slot w c s t) ((Cnd.candL w s).take i),rqs (slot w c s t) ((Cnd.candL w s).take i))) (fun r=>r=.nx (exs (slot w c s t) (Cnd.candL w s),rqs (slot w c s t) (Cnd.candL w s))) ?_ ?_ ?_ ?_ _ 0 _ om (by simp [exs,rqs])
 ·rintro i x y hi rfl hb
  rw [take_snoc hi (zRq,zCs),exs_snoc,rqs_snoc]
  generalize ha:(Cnd.candL w s).getD i (zRq,zCs)=a
  simp only [Req.Requests_b1,ha] at hb
  change (bif J (slot w c s t) a != 0 then Fl.nx (exs (slot w c s t) ((Cnd.candL w s).take i)++[xOf (slot w c s t) a],rqs (slot w c s t) ((Cnd.candL w s).take i)) else Fl.nx (exs (slot w c s t) ((Cnd.candL w s).take i),rqs (slot w c s t) ((Cnd.candL w s).take i)++[rOf (slot w c s t) a]))=Fl.nx y at hb
  cases hj:(J (slot w c s t) a != 0) with
  | true=>rw [hj] at hb;cases hb;simp
  | false=>rw [hj] at hb;cases hb;simp
 ·rintro i x y hi rfl hb
  simp only [Req.Requests_b1,cond_eq_ite] at hb
  split at hb<;>cases hb
 ·rintro i x y hi rfl hb
  simp only [Req.Requests_b1,cond_eq_ite] at hb
  split at hb<;>cases hb
 ·rintro x rfl
  rw [List.take_length]
theorem cand_loop(w:Wd)(s:Sta)(t:Int):runL (Req.Candidates_b1 w s t) ((Cnd.candL w s).length) 0 ([]:List Rq)=.nx ((Cnd.candL w s).map (·.1)):=by
 refine runL_inv (bd:=Req.Candidates_b1 w s t) (n:=(Cnd.candL w s).length) (fun i x=>x=((Cnd.candL w s).take i).map (·.1)) (fun r=>r=.nx ((Cnd.candL w s).map (·.1))) ?_ ?_ ?_ ?_ _ 0 _ om (by simp)
 ·rintro i x y hi rfl hb
  rw [take_snoc hi (zRq,zCs),List.map_append]
  cases hb
  rfl
 ·rintro i x y hi rfl hb;cases hb
 ·rintro i x y hi rfl hb;cases hb
 ·rintro x rfl
  rw [List.take_length]
theorem req_ok{w:Wd}{c:Scr}{s:Sta}{t:Int}(h:(Req.Requests w c s t).2.2=0):Fea.Valid w=true∧Fea.fits w s=true∧(0≤t∧t<(w.telescopes.length:Int))∧Ovr.Valid c.overrides=true∧(Wea.At c.spells s.mom).2=0 ∧
  (rqs (slot w c s t) (Cnd.candL w s)).length≤200∧Req.Requests w c s t=(rqs (slot w c s t) (Cnd.candL w s),exs (slot w c s t) (Cnd.candL w s),0):=by
 rw [Req.Requests] at h ⊢
 cases h1:((((!(Fea.Valid w))||(!(Fea.fits w s)))||(decide (t<0)))||(decide (t≥(w.telescopes.length:Int))))||(!(Ovr.Valid c.overrides)) with
 | true=>rw [h1] at h;cases h
 | false =>
  rw [h1,cond_false] at h
  cases h2:(((Wea.At c.spells s.mom).2) != 0) with
  | true=>rw [h2] at h;cases h
  | false =>
   rw [h2,cond_false,req_loop] at h
   rw [cond_false,cond_false,req_loop]
   simp only [Bool.or_eq_false_iff,Bool.not_eq_false',decide_eq_false_iff_not] at h1
   simp only [Fl.fin,Req.Requests_b1_r] at h ⊢
   cases h3:decide ((((rqs (slot w c s t) (Cnd.candL w s)).length:Int))>200) with
   | true=>rw [h3] at h;cases h
   | false =>
    rw [cond_false]
    have h4:=of_decide_eq_false h3
    refine ⟨h1.1.1.1.1,h1.1.1.1.2,om,h1.2,by simpa using h2,om,rfl⟩
theorem req_bad{w:Wd}{c:Scr}{s:Sta}{t:Int}(h:(Req.Requests w c s t).2.2≠0):(Req.Requests w c s t).1=[]∧(Req.Requests w c s t).2.1=[]∧((Req.Requests w c s t).2.2=1∨(Req.Candidates w s t).2=0):=by
 rw [Req.Requests] at h ⊢
 cases h1:((((!(Fea.Valid w))||(!(Fea.fits w s)))||(decide (t<0)))||(decide (t≥(w.telescopes.length:Int))))||(!(Ovr.Valid c.overrides)) with
 | true=>exact ⟨rfl,rfl,.inl rfl⟩
 | false =>
  rw [h1,cond_false] at h
  rw [cond_false]
  cases h2:(((Wea.At c.spells s.mom).2) != 0) with
  | true=>exact ⟨rfl,rfl,.inl rfl⟩
  | false =>
   rw [h2,cond_false,req_loop] at h
   rw [cond_false,req_loop]
   simp only [Fl.fin,Req.Requests_b1_r] at h ⊢
   cases h3:decide ((((rqs (slot w c s t) (Cnd.candL w s)).length:Int))>200) with
   | true =>
    refine ⟨rfl,rfl,.inr ?_⟩
    rw [Bool.or_eq_false_iff] at h1
    rw [Req.Candidates,h1.1,cond_false,cand_loop]
    rfl
   | false=>rw [h3] at h;exact absurd rfl h
theorem cand_ok{w:Wd}{s:Sta}{t:Int}(h1:Fea.Valid w=true)(h2:Fea.fits w s=true)(h3:0≤t∧t<(w.telescopes.length:Int)):Req.Candidates w s t=((Cnd.candL w s).map (·.1),0):=by
 rw [Req.Candidates,h1,h2,decide_eq_false (show ¬ t<0 by omega),decide_eq_false (show ¬ t≥(w.telescopes.length:Int) by omega),cand_loop]
 rfl
theorem keeps_all{zs:List Int}(h:(Lib.compact zs).length=zs.length):∀ j,j<zs.length→Lib.keeps zs.toArray j=true:=by
 rw [Lib.compact,Lib.compactUpTo,List.length_map] at h
 have h2:((List.range zs.length).filter (Lib.keeps zs.toArray)).length=(List.range zs.length).length:=by rw [h,List.length_range]
 rw [List.length_filter_eq_length_iff] at h2
 exact fun j hj=>h2 j (List.mem_range.2 hj)
theorem nodup_of_keeps:∀ {zs:List Int},zs.Pairwise (fun a b=>a≤b)→(∀ j,0<j→j<zs.length→zs.getD j 0≠zs.getD (j - 1) 0)→zs.Nodup
 | [],_,_=>List.nodup_nil
 | x :: xs,hp,hk=>by
  have ih:xs.Nodup:=nodup_of_keeps (List.Pairwise.of_cons hp) (fun j hj hl=>by
   have:=hk (j+1) om (by simp;omega)
   rw [show j+1 - 1=(j - 1)+1 by omega] at this
   simpa using this)
  refine List.nodup_cons.2 ⟨fun hx=>?_,ih⟩
  cases xs with
  | nil=>cases hx
  | cons y ys =>
   have h1:=hk 1 om (by simp)
   simp only [List.getD_cons_succ,List.getD_cons_zero,Nat.sub_self,ne_eq] at h1
   have h2:x≤y:=List.rel_of_pairwise_cons hp List.mem_cons_self
   rcases List.mem_cons.1 hx with e | e
   ·exact h1 e.symm
   ·have h3:y≤x:=List.rel_of_pairwise_cons (List.Pairwise.of_cons hp) e
    omega
theorem tiles_nodup{p:Prg}(h:Prg.Valid p=true):p.tiles.Nodup:=by
 rw [Prg.Valid] at h
 obtain ⟨_,h1⟩:=bif_f h
 obtain ⟨h2,_⟩:=bif_f h1
 have h3:(Slc.srtK p.tiles).length=p.tiles.length:=by
  have:((Slc.srtK p.tiles).length:Int)=(p.tiles.length:Int):=by simpa using h2
  omega
 have hp:=Slc.sortK_perm p.tiles
 rw [Slc.srtK,← hp.length_eq] at h3
 refine hp.nodup_iff.1 (nodup_of_keeps (Slc.sortK_sorted _) fun j hj hl=>?_)
 have:=keeps_all h3 j hl
 rcases of_decide_eq_true this with e | e
 ·omega
 ·intro hc
  apply e
  rw [arr_get hl,arr_get (show j - 1<(Slc.sortK p.tiles).length by omega)]
  simpa [List.getD_eq_getElem?_getD,hl,show j - 1<(Slc.sortK p.tiles).length by omega] using hc
theorem nodup_getD{l:List Int}(h:l.Nodup){m k:Nat}(hm:m<l.length)(hk:k<l.length)(e:l.getD m 0=l.getD k 0):m=k:=by
 have e':l[m]=l[k]:=by simpa [List.getD_eq_getElem?_getD,hm,hk] using e
 rcases Nat.lt_trichotomy m k with g | g | g
 ·exact absurd e' (List.pairwise_iff_getElem.1 h m k hm hk g)
 ·exact g
 ·exact absurd e'.symm (List.pairwise_iff_getElem.1 h k m hk hm g)
set_option maxRecDepth 100000 in
theorem worth_bd (x:Slt) (r:Rq) (c:Cs):1≤Slo.worth x r c∧Slo.worth x r c≤10000:=by
 have hc:∀ n,1≤Mer.Clamp n∧Mer.Clamp n≤10000:=fun n=>by
  simp only [Mer.Clamp,imin,imax]
  repeat' split
  all_goals omega
 have h1:∀ j,1≤Slo.worth_k1 x r c j∧Slo.worth_k1 x r c j≤10000:=fun j=>by
  rw [Slo.worth_k1]
  cases r.alert with
  | true=>rw [cond_true];exact hc _
  | false=>rw [cond_false];exact hc _
 rw [Slo.worth]
 generalize (!(c.next==0&&(c.round==0&&(c.last==0&&(c.over==false&&true)))))=b
 cases b<;>exact h1 _
theorem candT_at{w:Wd}{s:Sta}{i:Nat}:∀ k,∀ a,a∈Cnd.candT w s i k→∃ m,m<k∧a=((⟨i,(w.programmes.getD i zPrg).tiles.getD m 0,a.1.filter,0,false⟩:Rq),Cnd.crs s i m)
 | 0,a,ha=>by cases ha
 | k+1,a,ha=>by
  rw [Cnd.candT] at ha
  rcases List.mem_append.1 ha with ha | ha
  ·obtain ⟨m,h1,h2⟩:=candT_at k a ha
   exact ⟨m,om,h2⟩
  ·rw [Cnd.cOne] at ha
   split at ha
   ·cases ha
   ·rw [List.mem_singleton.1 ha];exact ⟨k,om,rfl⟩
theorem candP_at{w:Wd}{s:Sta}:∀ n,∀ a,a∈Cnd.candP w s n→∃ i m,i<n∧m<(w.programmes.getD i zPrg).tiles.length∧a=((⟨(i:Int),(w.programmes.getD i zPrg).tiles.getD m 0,a.1.filter,0,false⟩:Rq),Cnd.crs s i m)
 | 0,a,ha=>by cases ha
 | n+1,a,ha=>by
  rw [Cnd.candP] at ha
  rcases List.mem_append.1 ha with ha | ha
  ·obtain ⟨i,m,h1,h2,h3⟩:=candP_at n a ha
   exact ⟨i,m,om,h2,h3⟩
  ·obtain ⟨m,h1,h2⟩:=candT_at _ a ha
   exact ⟨n,m,om,h1,h2⟩
theorem candO_at{s:Sta}:∀ n,∀ a,a∈Cnd.candO s n→a.1.merit=0∧a.1.alert=true∧a.2=zCs
 | 0,a,ha=>by cases ha
 | n+1,a,ha=>by
  rw [Cnd.candO] at ha
  rcases List.mem_append.1 ha with ha | ha
  ·exact candO_at n a ha
  ·rw [List.mem_singleton.1 ha];exact ⟨rfl,rfl,rfl⟩
theorem cand_merit{w:Wd}{s:Sta}{a:Rq×Cs}(h:a∈Cnd.candL w s):a.1.merit=0:=by
 rcases List.mem_append.1 h with h | h
 ·obtain ⟨i,m,_,_,e⟩:=candP_at _ a h
  rw [e]
 ·exact (candO_at _ a h).1
theorem cand_course{w:Wd}{s:Sta}(hv:∀ i,i<w.programmes.length→(w.programmes.getD i zPrg).tiles.Nodup){a b:Rq×Cs}(ha:a∈Cnd.candL w s)(hb:b∈Cnd.candL w s)(h1:a.1.prog=b.1.prog)(h2:a.1.tile=b.1.tile)(h3:a.1.alert=b.1.alert):a.2=b.2:=by
 rcases List.mem_append.1 ha with ha | ha<;>rcases List.mem_append.1 hb with hb | hb
 ·obtain ⟨i,m,hi,hm,e⟩:=candP_at _ a ha
  obtain ⟨j,k,hj,hk,f⟩:=candP_at _ b hb
  rw [e,f] at h1 h2
  have hij:i=j:=by
   have h1:(i:Int)=(j:Int):=h1
   omega
  subst hij
  have hmk:m=k:=nodup_getD (hv i hi) hm hk h2
  subst hmk
  rw [e,f]
 ·obtain ⟨i,m,hi,hm,e⟩:=candP_at _ a ha
  have:=(candO_at _ b hb).2.1
  rw [e,this] at h3;cases h3
 ·obtain ⟨i,m,hi,hm,e⟩:=candP_at _ b hb
  have:=(candO_at _ a ha).2.1
  rw [e,this] at h3;cases h3
 ·rw [(candO_at _ a ha).2.2,(candO_at _ b hb).2.2]
theorem rqs_app(x:Slt)(l m:List (Rq×Cs)):rqs x (l++m)=rqs x l++rqs x m:=by simp [rqs]
theorem exs_app(x:Slt)(l m:List (Rq×Cs)):exs x (l++m)=exs x l++exs x m:=by simp [exs]
theorem getD_app{α:Type}(l m:List α)(d:α):(l++m).getD l.length d=m.getD 0 d:=by
 rw [List.getD_eq_getElem?_getD,List.getD_eq_getElem?_getD,List.getElem?_append_right (Nat.le_refl _),Nat.sub_self]
theorem rqs_le(x:Slt)(l:List (Rq×Cs)):(rqs x l).length≤l.length:=by
 rw [rqs,List.length_map];exact List.length_filter_le _ _
theorem exs_le(x:Slt)(l:List (Rq×Cs)):(exs x l).length≤l.length:=by
 rw [exs,List.length_map];exact List.length_filter_le _ _
theorem both_len(x:Slt)(l:List (Rq×Cs)):(rqs x l).length+(exs x l).length=l.length:=by
 induction l with
 | nil=>rfl
 | cons a l ih =>
  cases h:(J x a==0) with
  | true =>
   have h2:(J x a != 0)=false:=by simpa using h
   simp only [rqs,exs,List.filter_cons,h,h2,List.length_map] at ih ⊢
   simp;omega
  | false =>
   have h2:(J x a != 0)=true:=by simpa using h
   simp only [rqs,exs,List.filter_cons,h,h2,List.length_map] at ih ⊢
   simp;omega
theorem rqs_hd{x:Slt}{l:List (Rq×Cs)}(h:0<(rqs x l).length):∃ b,b∈l∧J x b=0∧(rqs x l).getD 0 zRq=rOf x b:=by
 cases hl:l.filter (fun a=>J x a==0) with
 | nil=>rw [rqs,hl] at h;simp at h
 | cons b r =>
  have hb:b∈l.filter (fun a=>J x a==0):=by rw [hl];exact List.mem_cons_self
  obtain ⟨h1,h2⟩:=List.mem_filter.1 hb
  exact ⟨b,h1,by simpa using h2,by rw [rqs,hl];rfl⟩
theorem part_step{w:Wd}{c:Scr}{s:Sta}{t:Int}{x:Slt}{T R:List (Rq×Cs)}{a:Rq×Cs}(hu:∀ b,b∈R→a.1.prog=b.1.prog→a.1.tile=b.1.tile→a.1.filter=b.1.filter→a.1.alert=b.1.alert→J x a=J x b)(hm:a.1.merit=0)(hn:T.length≤1000000) 
  (hR1:(Req.Requests w c s t).1=rqs x (T++a :: R)) (hR2:(Req.Requests w c s t).2.1=exs x (T++a :: R)) (hC:(Req.Candidates w s t).1=(T++a :: R).map (·.1)) :
  LwP.Part_b1 w c s t T.length (((rqs x T).length:Int),((exs x T).length:Int))=.nx (((rqs x (T++[a])).length:Int),((exs x (T++[a])).length:Int)):=by
 have l1:=rqs_le x T
 have l2:=exs_le x T
 have hca:(Req.Candidates w s t).1.getD T.length zRq=a.1:=by
  rw [hC,List.map_append,show T.length=(T.map (·.1)).length by simp,getD_app];rfl
 have hr:(Req.Requests w c s t).1.getD (((rqs x T).length:Int)).toNat zRq=(rqs x (a :: R)).getD 0 zRq:=by
  rw [hR1,rqs_app,Int.toNat_natCast,getD_app]
 have hx:(Req.Requests w c s t).2.1.getD (((exs x T).length:Int)).toNat zExc=(exs x (a :: R)).getD 0 zExc:=by
  rw [hR2,exs_app,Int.toNat_natCast,getD_app]
 have hrl:(((Req.Requests w c s t).1.length:Nat):Int)=(rqs x T).length+(rqs x (a :: R)).length:=by rw [hR1,rqs_app,List.length_append];rfl
 have hxl:(((Req.Requests w c s t).2.1.length:Nat):Int)=(exs x T).length+(exs x (a :: R)).length:=by rw [hR2,exs_app,List.length_append];rfl
 rw [LwP.Part_b1]
 dsimp only
 rw [hca,hr,hx,hrl,hxl,hm,rqs_snoc,exs_snoc]
 cases hj:(J x a==0) with
 | true =>
  have hj2:(J x a != 0)=false:=by simpa using hj
  have h1:rqs x (a :: R)=rOf x a :: rqs x R:=by simp [rqs,List.filter_cons,hj]
  have h2:((rqs x (a :: R)).getD 0 zRq)=rOf x a:=by rw [h1];rfl
  have h3:(rqs x (a :: R)).length=(rqs x R).length+1:=by rw [h1];rfl
  have hw:=worth_bd x a.1 a.2
  rw [h2,h3,hj2]
  rw [show (((0:Int) != 0):Bool)=false from rfl,cond_false]
  rw [show decide (((rqs x T).length:Int)<((rqs x T).length:Int)+(((rqs x R).length+1:Nat):Int))=true from decide_eq_true (by omega)]
  rw [show (decide ((rOf x a).merit<(1:Int))||decide ((rOf x a).merit>(10000:Int)))=false from by
   rw [decide_eq_false (show ¬ (rOf x a).merit<1 from (show ¬ Slo.worth x a.1 a.2<1 by omega)),decide_eq_false (show ¬ (rOf x a).merit>10000 from (show ¬ Slo.worth x a.1 a.2>10000 by omega))];rfl]
  simp only [rOf,BEq.rfl,beq_self_eq_true,Bool.and_self,cond_true,cond_false]
  rw [w64 (((rqs x T).length:Int)+1) (by omega) (by omega)]
  simp
 | false =>
  have hj2:(J x a != 0)=true:=by simpa using hj
  have h1:rqs x (a :: R)=rqs x R:=by simp [rqs,List.filter_cons,hj]
  have h2:exs x (a :: R)=xOf x a :: exs x R:=by simp [exs,List.filter_cons,hj2]
  have h3:((exs x (a :: R)).getD 0 zExc)=xOf x a:=by rw [h2];rfl
  have h4:(exs x (a :: R)).length=(exs x R).length+1:=by rw [h2];rfl
  rw [h1,h3,h4,hj2]
  rw [show (((0:Int) != 0):Bool)=false from rfl,cond_false]
  have hg:((((decide (((rqs x T).length:Int)<((rqs x T).length:Int)+((rqs x R).length:Int))&&((rqs x R).getD 0 zRq).prog==a.1.prog)&&((rqs x R).getD 0 zRq).tile==a.1.tile)&&((rqs x R).getD 0 zRq).filter==a.1.filter)&&((rqs x R).getD 0 zRq).alert==a.1.alert)=false:=by
   cases hq:((((decide (((rqs x T).length:Int)<((rqs x T).length:Int)+((rqs x R).length:Int))&&((rqs x R).getD 0 zRq).prog==a.1.prog)&&((rqs x R).getD 0 zRq).tile==a.1.tile)&&((rqs x R).getD 0 zRq).filter==a.1.filter)&&((rqs x R).getD 0 zRq).alert==a.1.alert) with
   | false=>rfl
   | true =>
    simp only [Bool.and_eq_true,decide_eq_true_eq,beq_iff_eq] at hq
    obtain ⟨⟨⟨⟨q1,q2⟩,q3⟩,q4⟩,q5⟩:=hq
    obtain ⟨b,hb,hb0,hb1⟩:=rqs_hd (x:=x) (l:=R) (by omega)
    rw [hb1] at q2 q3 q4 q5
    have:=hu b hb q2.symm q3.symm q4.symm q5.symm
    rw [this,hb0] at hj
    cases hj
  rw [hg,cond_false]
  rw [show decide (((exs x T).length:Int)<((exs x T).length:Int)+(((exs x R).length+1:Nat):Int))=true from decide_eq_true (by omega)]
  simp only [xOf,BEq.rfl,beq_self_eq_true,Bool.and_self,hj2,cond_true]
  rw [w64 (((exs x T).length:Int)+1) (by omega) (by omega)]
  simp
theorem part_loop{w:Wd}{c:Scr}{s:Sta}{t:Int}{x:Slt}(hv:∀ i,i<w.programmes.length→(w.programmes.getD i zPrg).tiles.Nodup)(hn:(Cnd.candL w s).length≤1000000) 
  (hR1:(Req.Requests w c s t).1=rqs x (Cnd.candL w s)) (hR2:(Req.Requests w c s t).2.1=exs x (Cnd.candL w s)) (hC:(Req.Candidates w s t).1=(Cnd.candL w s).map (·.1)) :
  runL (LwP.Part_b1 w c s t) (Cnd.candL w s).length 0 (0,0)=.nx (((rqs x (Cnd.candL w s)).length:Int),((exs x (Cnd.candL w s)).length:Int)):=by
 have step:∀ i,i<(Cnd.candL w s).length→LwP.Part_b1 w c s t i (((rqs x ((Cnd.candL w s).take i)).length:Int),((exs x ((Cnd.candL w s).take i)).length:Int))=.nx (((rqs x ((Cnd.candL w s).take (i+1))).length:Int),((exs x ((Cnd.candL w s).take (i+1))).length:Int)):=fun i hi=>by
  obtain ⟨a,ha⟩:∃ a,(Cnd.candL w s).getD i (zRq,zCs)=a:=⟨_,rfl⟩
  have hsplit:Cnd.candL w s=(Cnd.candL w s).take i++a :: (Cnd.candL w s).drop (i+1):=by
   have h1:=List.take_append_drop (i+1) (Cnd.candL w s)
   rw [take_snoc hi (zRq,zCs),ha,List.append_assoc] at h1
   exact h1.symm
  have hmem:a∈Cnd.candL w s:=by rw [hsplit];simp
  have hlen:((Cnd.candL w s).take i).length=i:=by rw [List.length_take];omega
  rw [take_snoc hi (zRq,zCs),ha]
  have:=part_step (w:=w) (c:=c) (s:=s) (t:=t) (x:=x) (T:=(Cnd.candL w s).take i) (R:=(Cnd.candL w s).drop (i+1)) (a:=a) (fun b hb g1 g2 g3 g4=>by
   have hbm:b∈Cnd.candL w s:=List.mem_of_mem_drop hb
   have e2:=cand_course hv hmem hbm g1 g2 g4
   have m1:=cand_merit hmem
   have m2:=cand_merit hbm
   have e1:a.1=b.1:=by
    cases ha1:a.1;cases hb1:b.1
    rw [ha1] at g1 g2 g3 g4 m1;rw [hb1] at g1 g2 g3 g4 m2
    simp only at g1 g2 g3 g4 m1 m2
    simp [g1,g2,g3,g4,m1,m2]
   rw [J,J,e1,e2]) (cand_merit hmem) om (by rw [hR1];exact congrArg _ hsplit) (by rw [hR2];exact congrArg _ hsplit) (by rw [hC];exact congrArg _ hsplit)
  rw [hlen] at this
  exact this
 refine runL_inv (bd:=LwP.Part_b1 w c s t) (n:=(Cnd.candL w s).length) (fun i y=>y=(((rqs x ((Cnd.candL w s).take i)).length:Int),((exs x ((Cnd.candL w s).take i)).length:Int))) (fun r=>r=.nx (((rqs x (Cnd.candL w s)).length:Int),((exs x (Cnd.candL w s)).length:Int))) ?_ ?_ ?_ ?_ _ 0 _ om (by simp [rqs,exs])
 ·rintro i y z hi rfl hb
  rw [step i hi] at hb
  cases hb;rfl
 ·rintro i y z hi rfl hb
  rw [step i hi] at hb
  cases hb
 ·rintro i y z hi rfl hb
  rw [step i hi] at hb
  cases hb
 ·rintro y rfl
  rw [List.take_length]
theorem candT_len(w:Wd)(s:Sta)(i:Nat):∀ k,(Cnd.candT w s i k).length≤k
 | 0=>Nat.le_refl _
 | k+1=>by
  have:=candT_len w s i k
  have h2:(Cnd.cOne w s i k).length≤1:=by rw [Cnd.cOne];split<;>simp
  rw [Cnd.candT,List.length_append];omega
theorem candP_len{w:Wd}(s:Sta)(h:∀ i,i<w.programmes.length→(w.programmes.getD i zPrg).tiles.length≤1000):∀ n,n≤w.programmes.length→(Cnd.candP w s n).length≤n*1000
 | 0,_=>Nat.le_refl _
 | n+1,hn=>by
  have:=candP_len s h n om
  have h2:=candT_len w s n (w.programmes.getD n zPrg).tiles.length
  have h3:=h n om
  rw [Cnd.candP,List.length_append];omega
theorem candO_len(s:Sta):∀ n,(Cnd.candO s n).length=n
 | 0=>rfl
 | n+1=>by rw [Cnd.candO,List.length_append,candO_len s n];rfl
theorem head_true:Hd.head=true:=by kernel_rfl
theorem few_progs{w:Wd}{c:Scr}{s:Sta}(h:Lw.few w c s=true):w.programmes.length≤4:=by
 rw [Lw.few,Bool.and_eq_true,Bool.and_eq_true,Lw.FewWorld] at h
 obtain ⟨h1,_⟩:=bif_f h.1.1
 simp only [Bool.or_eq_false_iff,decide_eq_false_iff_not] at h1
 omega
theorem cands_len{w:Wd}{s:Sta}(h4:w.programmes.length≤4)(hv:Fea.Valid w=true)(hf:Fea.fits w s=true):(Cnd.candL w s).length≤1000000:=by
 have h1:=candP_len s (fun i hi=>(Req.prg_facts (Req.valid_prg hv i hi)).1.2) _ (Nat.le_refl _)
 have h2:=candO_len s s.opn.length
 have h3:=(Req.open_facts (Req.fits_facts hf).2.2.2.1).1
 rw [Cnd.candL,List.length_append]
 omega
theorem Part_true(w:Wd)(c:Scr)(s:Sta)(t:Int):LwP.Part w c s t=true:=by
 rw [LwP.Part,head_true]
 cases hfew:Lw.few w c s with
 | false=>rfl
 | true =>
  rw [show (!true)=false from rfl,cond_false]
  cases he:((Req.Requests w c s t).2.2 != (0:Int)) with
  | true =>
   obtain ⟨h1,h2,h3⟩:=req_bad (w:=w) (c:=c) (s:=s) (t:=t) (by simpa using he)
   rw [cond_true,h1,h2]
   rcases h3 with h3 | h3
   ·rw [h3];rfl
   ·rw [h3]
    show (true&&true&&(_||true))=true
    simp
  | false =>
   obtain ⟨v1,v2,v3,v4,v5,v6,v7⟩:=req_ok (w:=w) (c:=c) (s:=s) (t:=t) (by simpa using he)
   have hlen:=cands_len (few_progs hfew) v1 v2
   have hc:=cand_ok v1 v2 v3
   have hb:=both_len (slot w c s t) (Cnd.candL w s)
   have hR1:(Req.Requests w c s t).1=rqs (slot w c s t) (Cnd.candL w s):=by rw [v7]
   have hR2:(Req.Requests w c s t).2.1=exs (slot w c s t) (Cnd.candL w s):=by rw [v7]
   have hC1:(Req.Candidates w s t).1=(Cnd.candL w s).map (·.1):=by rw [hc]
   have hC2:(Req.Candidates w s t).2=0:=by rw [hc]
   have hloop:=part_loop (w:=w) (c:=c) (s:=s) (t:=t) (fun i hi=>tiles_nodup (Req.valid_prg v1 i hi)) hlen hR1 hR2 hC1
   rw [cond_false,hC2,hR1,hR2,hC1,List.length_map,w64 _ om om,hloop]
   rw [show (((0:Int) != 0)||((Cnd.candL w s).length:Int) != ((rqs (slot w c s t) (Cnd.candL w s)).length:Int)+((exs (slot w c s t) (Cnd.candL w s)).length:Int))=false from by
    rw [show (((0:Int) != 0))=false from rfl,Bool.false_or,bne_eq_false_iff_eq];omega]
   rw [cond_false]
   simp only [Fl.fin,LwP.Part_b1_r,head_true,hR1,hR2,BEq.rfl,Bool.and_self]
theorem partition(w:Wd)(c:Scr)(s:Sta)(t:Int):FCall Tryz.prog 4 [.agg (encWd w),.agg (encScr c),.agg (encSta s),vI t] (.v (vB true)):=by
 have:=LwP.Part_c w c s t
 rw [Part_true] at this
 exact this
end Go.Proofs.YtidbmbpeblmliaaGreatDoor.Pl
namespace Go.Sym
open Go.RowKit Go.WideShapes Go.ChangeShapes
set_option linter.unusedVariables false
set_option linter.unusedSimpArgs false
theorem laid_of{P:Program}{W:World}{x y:String×DataW Unit}{rest:List (String×DataW Unit)}{t e:TypeId}{g0:Nat}(hg0:P.globalNamed tabName=some g0)(hty:(P.globals[g0]?).map (·.type)=some t)(ht:P.underlying t=some (.array 20 e))(he:P.underlying e=some (.int .u64))(hce:P.cellsOf e=1)(hct:P.cellsOf t=20) 
  (h:laidMet P (x :: y :: (tabName,Lib.tabData .u64 Lib.pow10Tab) :: rest) W):Laid P (allK W):=fun g hg=>by
 obtain ⟨ps,hv,_⟩:=h
 obtain ⟨_,_,_,_,_,_,_,_,_,_,hv,_⟩:=hv
 obtain ⟨_,_,_,_,_,_,_,_,_,_,hv,_⟩:=hv
 obtain ⟨g',t',cs,fuel,p,q,hg',ht',hvar,hd,_,_⟩:=hv
 obtain rfl:=Option.some.inj (hg0.symm.trans hg')
 obtain rfl:=Option.some.inj (hg0.symm.trans hg)
 obtain rfl:=Option.some.inj (hty.symm.trans ht')
 have hcs:=Lib.cells_of_tab ht he hce hct hd
 simp only [World.var?,hg0,Option.bind_some] at hvar
 split at hvar
 ·rename_i c T fz hb
  cases hvar
  refine ⟨T,fz,?_⟩
  show W.heap[_]?=_
  rw [hb]
  congr 1
  rw [show tabArr=(Lib.pow10Tab.map fun z=>Value.int .u64 z).toArray from rfl,← hcs]
 ·cases hvar
theorem law_contractL{H:Type}{enc:TypeId×Value→H}{C:Checked}{f:FuncId}{fn:Func}{s:ChangeSpec}{tb:TypeId}{ss:List Sh}{apart fresh handsOn again:Bool}(hvars:s.vars=[])(hs:∀ (H:Type) (ds:List (DataW H)),ds.length=fn.params.toList.length→s.fn H ds={ results:=[.lit (.bool true)],args:=ds }) 
  (hl:laidOutB C.prog=true) (hr:fn.params.toList.all (fun t=>C.prog.readableRec t&&decide (t<C.prog.types.size))=true) (hres:fn.resultTypes=#[tb]) (hb:C.prog.underlying tb=some .bool) (hsh:shAll C.prog fn.params.toList=some ss)
  (hlaw:∀ css,argsOk ss css→FCall C.prog f (argCVs C.prog fn.params.toList css) (.v (.c (.bool true)))) (W:World) (hlaidK:Laid C.prog (allK W)) (base:Nat) (args:Array Value) (ds gs:List (DataW H)) (before:List MemPlace)
  (hval:∀ (j:Nat) t v,fn.params[j]?=some t→args[j]?=some v→Value.okWide C.prog W .any base t v)
  (hW:DataW.Whole enc C.prog fn.params.toList s.vars apart W args.toList ds gs before) :
  Calls C.prog f args W fun e W'=>∃ v,e=.returned v∧s.post enc C.prog fn apart fresh handsOn again W args v W':=by
 have hW0:=hW
 obtain ⟨p,q,hA,hV,hpq,hfz,hnd⟩:=hW
 rw [hvars] at hV
 obtain ⟨hgs,hq⟩:=trodVars_none hV
 subst hgs
 subst hq
 rw [List.append_nil] at hpq
 subst hpq
 obtain ⟨hvl,hdl,css,hok,hcl,hrel⟩:=args_open hsh hA (fun j t v ht hv=>hval j t v (by simpa using ht) (by simpa using hv))
 have hlt:∀ x∈before,x.block<W.heap.size:=fun x hx=>hW0.lt x hx
 refine ((hlaw css hok).2 (allK W) W args hlaidK (fun b o h=>h) (by rw [hcl];simpa using hvl) (fun j hj=>?_)).mono ?_
 ·rw [hcl] at hj
  have:=hrel j hj
  simpa [List.getD_eq_getElem?_getD] using this
 ·rintro e W' ⟨K',v,_,_,_,hbel,rfl,hv⟩
  have hvb:v=.bool true:=by
   have h1:RelK K' (.bool true) v:=hv.1
   generalize v=u at h1
   cases h1;rfl
  subst hvb
  refine ⟨_,rfl,?_⟩
  have hds:s.fn H (ds++[])={ results:=[.lit (.bool true)],args:=ds }:=by rw [List.append_nil];exact hs H ds hdl
  have hrs:∀ (b:Nat) (sp:Nat→Bool) (hd:Bool),DataW.TrodAll enc C.prog W' b sp hd fn.resultTypes.toList ((Value.bool true).resultList fn.resultTypes.size) [.lit (.bool true)] []:=fun b sp hd=>by
   rw [hres]
   exact ⟨[],[],shut_bool hb true,rfl,rfl⟩
  have hargs:∀ sp:Nat→Bool,(∀ x∈before,sp x.block=true)→DataW.TrodAll enc C.prog W' 0 sp true fn.params.toList args.toList ds before:=trodAll_behind hl hbel hr hlt hA
  refine ⟨ds,[],before,[],before,[],hW0,by rw [hds];exact hrs _ _ _,by rw [hds];exact hargs _ (fun x hx=>by simpa using hlt x hx),by rw [hds,hvars];rfl,World.keptBut_mono (fun x hx=>⟨hx,.inr (.inl hx)⟩) (hbel.frame (·∈before)),fun _=>?_⟩
  refine ⟨ok_one hres (by rfl) (okWide_bool_mk hb true),.lit (.bool true) :: ds,[],before,⟨before,[],?_,by rw [hvars];rfl,by simp,fun b off hp=>?_,fun ha=>hnd ha⟩,fun x hx _=>hx⟩
  ·have:=trodAll_append (hargs _ (fun _ _=>rfl)) (hrs 0 (fun _=>true) true)
   simpa using this
  ·rw [hbel.frozen (hlt _ hp)]
   exact hfz b off hp
end Go.Sym
namespace Go.Sym
set_option linter.unusedVariables false
theorem CsLe.nil:CsLe [] []:=trivial
theorem CsLe.app:∀ {a b x y:List C},CsLe a b→CsLe x y→CsLe (a++x) (b++y)
 | [],[],_,_,_,h=>h
 | c :: a,e :: b,_,_,h,h2=>⟨h.1,CsLe.app h.2 h2⟩
 | [],_ :: _,_,_,h,_=>h.elim
 | _ :: _,[],_,_,h,_=>h.elim
theorem CLe.lstF{sz n:Nat}{f g:Nat→List C}(h:∀ i,i<n→CsLe (f i) (g i)):CLe (.lst sz n f) (.lst sz n g):=fun K v hv=>by
 have hs:=fun i hi=>(h i hi).spec
 cases hv with
 | lst0=>exact .lst0 _ _
 | lst1=>exact .lst1 _ _ _
 | lst _ _ _ b off cap arr T fz v hK hg hl hr ho hcap hmx =>
  exact .lst sz n g b off cap arr T fz v hK hg (fun i hi=>by rw [← (hs i hi).1];exact hl i hi) (fun i j hi hj=>(hs i hi).2 j _ _ (hr i j hi hj)) ho hcap hmx
end Go.Sym
namespace Go.Proofs.YtidbmbpeblmliaaGreatDoor
open Go.Sym
set_option linter.unusedVariables false
theorem of_int{cs:List C}(h:(Sh.int .i64).ok cs):∃ x:Int,CsLe cs [cI x]:=by
 obtain ⟨n,rfl,_⟩:=h
 exact ⟨n,CLe.refl _,trivial⟩
theorem of_bool{cs:List C}(h:Sh.bool.ok cs):∃ x:Bool,CsLe cs [.bool x]:=by
 obtain ⟨n,rfl⟩:=h
 exact ⟨n,CLe.refl _,trivial⟩
theorem of_str{cs:List C}(h:Sh.str.ok cs):∃ x:BA,CsLe cs [.str x]:=by
 obtain ⟨n,rfl,_⟩:=h
 exact ⟨n,CLe.refl _,trivial⟩
theorem of_sl{α:Type}{enc:α→List C}{z:α}{sz:Nat}{s:Sh}(h1:∀ cs,s.ok cs→∃ x,CsLe cs (enc x)){cs:List C}(h:(Sh.sl sz s).ok cs):∃ l:List α,CsLe cs [.lst sz l.length (elM enc z l)]:=by
 obtain ⟨n,f,rfl,hn,hf⟩:=h
 classical
 obtain ⟨l,hl,hle⟩:∃ l:List α,l.length=n∧∀ i,i<n→CsLe (f i) (elM enc z l i):=by
  refine ⟨(List.range n).map fun i=>if h:i<n then (h1 _ (hf i h)).choose else z,by simp,fun i hi=>?_⟩
  simp only [elM,List.getD_eq_getElem?_getD,List.getElem?_map,List.getElem?_range hi,Option.map_some,Option.getD_some,hi,dif_pos]
  exact (h1 _ (hf i hi)).choose_spec
 subst hl
 exact ⟨l,CLe.lstF hle,trivial⟩
def shDet:Sh:=.cat (.int .i64) (.cat (.int .i64) (.cat (.int .i64) (.cat (.int .i64) (.cat (.int .i64) (.nil)))))
theorem ofDet{cs:List C}(h:shDet.ok cs):∃ x:Det,CsLe cs (encDet x):=by
 obtain ⟨c0,r0,rfl,a0,b0⟩:=h
 obtain ⟨x0,k0⟩:=of_int a0
 obtain ⟨c1,r1,rfl,a1,b1⟩:=b0
 obtain ⟨x1,k1⟩:=of_int a1
 obtain ⟨c2,r2,rfl,a2,b2⟩:=b1
 obtain ⟨x2,k2⟩:=of_int a2
 obtain ⟨c3,r3,rfl,a3,b3⟩:=b2
 obtain ⟨x3,k3⟩:=of_int a3
 obtain ⟨c4,r4,rfl,a4,b4⟩:=b3
 obtain ⟨x4,k4⟩:=of_int a4
 obtain rfl:=b4
 exact ⟨⟨x0,x1,x2,x3,x4⟩,(k0.app (k1.app (k2.app (k3.app (k4.app CsLe.nil)))))⟩
def shTel:Sh:=.cat .str (.cat (.int .i64) (.cat (.int .i64) (.cat (.int .i64) (.cat shDet (.nil)))))
theorem ofTel{cs:List C}(h:shTel.ok cs):∃ x:Tel,CsLe cs (encTel x):=by
 obtain ⟨c0,r0,rfl,a0,b0⟩:=h
 obtain ⟨x0,k0⟩:=of_str a0
 obtain ⟨c1,r1,rfl,a1,b1⟩:=b0
 obtain ⟨x1,k1⟩:=of_int a1
 obtain ⟨c2,r2,rfl,a2,b2⟩:=b1
 obtain ⟨x2,k2⟩:=of_int a2
 obtain ⟨c3,r3,rfl,a3,b3⟩:=b2
 obtain ⟨x3,k3⟩:=of_int a3
 obtain ⟨c4,r4,rfl,a4,b4⟩:=b3
 obtain ⟨x4,k4⟩:=ofDet a4
 obtain rfl:=b4
 exact ⟨⟨x0,x1,x2,x3,x4⟩,(k0.app (k1.app (k2.app (k3.app (k4.app CsLe.nil)))))⟩
def shPtn:Sh:=.cat .str (.cat (.int .i64) (.nil))
theorem ofPtn{cs:List C}(h:shPtn.ok cs):∃ x:Ptn,CsLe cs (encPtn x):=by
 obtain ⟨c0,r0,rfl,a0,b0⟩:=h
 obtain ⟨x0,k0⟩:=of_str a0
 obtain ⟨c1,r1,rfl,a1,b1⟩:=b0
 obtain ⟨x1,k1⟩:=of_int a1
 obtain rfl:=b1
 exact ⟨⟨x0,x1⟩,(k0.app (k1.app CsLe.nil))⟩
def shNd:Sh:=.cat (.int .i64) (.cat (.int .i64) (.cat .str (.cat (.sl 1 (.int .i64)) (.nil))))
theorem ofNd{cs:List C}(h:shNd.ok cs):∃ x:Nd,CsLe cs (encNd x):=by
 obtain ⟨c0,r0,rfl,a0,b0⟩:=h
 obtain ⟨x0,k0⟩:=of_int a0
 obtain ⟨c1,r1,rfl,a1,b1⟩:=b0
 obtain ⟨x1,k1⟩:=of_int a1
 obtain ⟨c2,r2,rfl,a2,b2⟩:=b1
 obtain ⟨x2,k2⟩:=of_str a2
 obtain ⟨c3,r3,rfl,a3,b3⟩:=b2
 obtain ⟨x3,k3⟩:=(of_sl (enc:=Sym.encI) (z:=0) (fun _ h=>of_int h)) a3
 obtain rfl:=b3
 exact ⟨⟨x0,x1,x2,x3⟩,(k0.app (k1.app (k2.app (k3.app CsLe.nil))))⟩
def shStp:Sh:=.cat (.int .i64) (.cat (.int .i64) (.cat (.int .i64) (.nil)))
theorem ofStp{cs:List C}(h:shStp.ok cs):∃ x:Stp,CsLe cs (encStp x):=by
 obtain ⟨c0,r0,rfl,a0,b0⟩:=h
 obtain ⟨x0,k0⟩:=of_int a0
 obtain ⟨c1,r1,rfl,a1,b1⟩:=b0
 obtain ⟨x1,k1⟩:=of_int a1
 obtain ⟨c2,r2,rfl,a2,b2⟩:=b1
 obtain ⟨x2,k2⟩:=of_int a2
 obtain rfl:=b2
 exact ⟨⟨x0,x1,x2⟩,(k0.app (k1.app (k2.app CsLe.nil)))⟩
def shSq:Sh:=.cat (.sl 3 shStp) (.cat (.int .i64) (.nil))
theorem ofSq{cs:List C}(h:shSq.ok cs):∃ x:Sq,CsLe cs (encSq x):=by
 obtain ⟨c0,r0,rfl,a0,b0⟩:=h
 obtain ⟨x0,k0⟩:=(of_sl (enc:=encStp) (z:=zStp) (fun _ h=>ofStp h)) a0
 obtain ⟨c1,r1,rfl,a1,b1⟩:=b0
 obtain ⟨x1,k1⟩:=of_int a1
 obtain rfl:=b1
 exact ⟨⟨x0,x1⟩,(k0.app (k1.app CsLe.nil))⟩
def shPrg:Sh:=.cat .str (.cat (.int .i64) (.cat (.sl 4 shNd) (.cat (.int .i64) (.cat (.int .i64) (.cat (.sl 1 (.int .i64)) (.cat shSq (.cat (.int .i64) (.cat (.int .i64) (.nil)))))))))
theorem ofPrg{cs:List C}(h:shPrg.ok cs):∃ x:Prg,CsLe cs (encPrg x):=by
 obtain ⟨c0,r0,rfl,a0,b0⟩:=h
 obtain ⟨x0,k0⟩:=of_str a0
 obtain ⟨c1,r1,rfl,a1,b1⟩:=b0
 obtain ⟨x1,k1⟩:=of_int a1
 obtain ⟨c2,r2,rfl,a2,b2⟩:=b1
 obtain ⟨x2,k2⟩:=(of_sl (enc:=encNd) (z:=zNd) (fun _ h=>ofNd h)) a2
 obtain ⟨c3,r3,rfl,a3,b3⟩:=b2
 obtain ⟨x3,k3⟩:=of_int a3
 obtain ⟨c4,r4,rfl,a4,b4⟩:=b3
 obtain ⟨x4,k4⟩:=of_int a4
 obtain ⟨c5,r5,rfl,a5,b5⟩:=b4
 obtain ⟨x5,k5⟩:=(of_sl (enc:=Sym.encI) (z:=0) (fun _ h=>of_int h)) a5
 obtain ⟨c6,r6,rfl,a6,b6⟩:=b5
 obtain ⟨x6,k6⟩:=ofSq a6
 obtain ⟨c7,r7,rfl,a7,b7⟩:=b6
 obtain ⟨x7,k7⟩:=of_int a7
 obtain ⟨c8,r8,rfl,a8,b8⟩:=b7
 obtain ⟨x8,k8⟩:=of_int a8
 obtain rfl:=b8
 exact ⟨⟨x0,x1,x2,x3,x4,x5,x6,x7,x8⟩,(k0.app (k1.app (k2.app (k3.app (k4.app (k5.app (k6.app (k7.app (k8.app CsLe.nil)))))))))⟩
def shFst:Sh:=.cat (.int .i64) (.cat (.int .i64) (.cat (.int .i64) (.cat (.int .i64) (.nil))))
theorem ofFst{cs:List C}(h:shFst.ok cs):∃ x:Fst,CsLe cs (encFst x):=by
 obtain ⟨c0,r0,rfl,a0,b0⟩:=h
 obtain ⟨x0,k0⟩:=of_int a0
 obtain ⟨c1,r1,rfl,a1,b1⟩:=b0
 obtain ⟨x1,k1⟩:=of_int a1
 obtain ⟨c2,r2,rfl,a2,b2⟩:=b1
 obtain ⟨x2,k2⟩:=of_int a2
 obtain ⟨c3,r3,rfl,a3,b3⟩:=b2
 obtain ⟨x3,k3⟩:=of_int a3
 obtain rfl:=b3
 exact ⟨⟨x0,x1,x2,x3⟩,(k0.app (k1.app (k2.app (k3.app CsLe.nil))))⟩
def shFlw:Sh:=.cat .str (.cat (.int .i64) (.cat (.sl 4 shFst) (.nil)))
theorem ofFlw{cs:List C}(h:shFlw.ok cs):∃ x:Flw,CsLe cs (encFlw x):=by
 obtain ⟨c0,r0,rfl,a0,b0⟩:=h
 obtain ⟨x0,k0⟩:=of_str a0
 obtain ⟨c1,r1,rfl,a1,b1⟩:=b0
 obtain ⟨x1,k1⟩:=of_int a1
 obtain ⟨c2,r2,rfl,a2,b2⟩:=b1
 obtain ⟨x2,k2⟩:=(of_sl (enc:=encFst) (z:=zFst) (fun _ h=>ofFst h)) a2
 obtain rfl:=b2
 exact ⟨⟨x0,x1,x2⟩,(k0.app (k1.app (k2.app CsLe.nil)))⟩
def shSub:Sh:=.cat (.int .i64) (.cat (.int .i64) (.cat (.int .i64) (.cat (.sl 4 shNd) (.nil))))
theorem ofSub{cs:List C}(h:shSub.ok cs):∃ x:Sub,CsLe cs (encSub x):=by
 obtain ⟨c0,r0,rfl,a0,b0⟩:=h
 obtain ⟨x0,k0⟩:=of_int a0
 obtain ⟨c1,r1,rfl,a1,b1⟩:=b0
 obtain ⟨x1,k1⟩:=of_int a1
 obtain ⟨c2,r2,rfl,a2,b2⟩:=b1
 obtain ⟨x2,k2⟩:=of_int a2
 obtain ⟨c3,r3,rfl,a3,b3⟩:=b2
 obtain ⟨x3,k3⟩:=(of_sl (enc:=encNd) (z:=zNd) (fun _ h=>ofNd h)) a3
 obtain rfl:=b3
 exact ⟨⟨x0,x1,x2,x3⟩,(k0.app (k1.app (k2.app (k3.app CsLe.nil))))⟩
def shWd:Sh:=.cat (.sl 9 shTel) (.cat (.sl 2 shPtn) (.cat (.sl 10 shPrg) (.cat shFlw (.cat (.int .i64) (.cat (.sl 4 shSub) (.cat (.sl 1 (.int .i64)) (.cat (.int .i64) (.nil))))))))
theorem ofWd{cs:List C}(h:shWd.ok cs):∃ x:Wd,CsLe cs (encWd x):=by
 obtain ⟨c0,r0,rfl,a0,b0⟩:=h
 obtain ⟨x0,k0⟩:=(of_sl (enc:=encTel) (z:=zTel) (fun _ h=>ofTel h)) a0
 obtain ⟨c1,r1,rfl,a1,b1⟩:=b0
 obtain ⟨x1,k1⟩:=(of_sl (enc:=encPtn) (z:=zPtn) (fun _ h=>ofPtn h)) a1
 obtain ⟨c2,r2,rfl,a2,b2⟩:=b1
 obtain ⟨x2,k2⟩:=(of_sl (enc:=encPrg) (z:=zPrg) (fun _ h=>ofPrg h)) a2
 obtain ⟨c3,r3,rfl,a3,b3⟩:=b2
 obtain ⟨x3,k3⟩:=ofFlw a3
 obtain ⟨c4,r4,rfl,a4,b4⟩:=b3
 obtain ⟨x4,k4⟩:=of_int a4
 obtain ⟨c5,r5,rfl,a5,b5⟩:=b4
 obtain ⟨x5,k5⟩:=(of_sl (enc:=encSub) (z:=zSub) (fun _ h=>ofSub h)) a5
 obtain ⟨c6,r6,rfl,a6,b6⟩:=b5
 obtain ⟨x6,k6⟩:=(of_sl (enc:=Sym.encI) (z:=0) (fun _ h=>of_int h)) a6
 obtain ⟨c7,r7,rfl,a7,b7⟩:=b6
 obtain ⟨x7,k7⟩:=of_int a7
 obtain rfl:=b7
 exact ⟨⟨x0,x1,x2,x3,x4,x5,x6,x7⟩,(k0.app (k1.app (k2.app (k3.app (k4.app (k5.app (k6.app (k7.app CsLe.nil))))))))⟩
def shSpl:Sh:=.cat (.int .i64) (.cat (.int .i64) (.cat (.int .i64) (.cat (.int .i64) (.cat (.int .i64) (.nil)))))
theorem ofSpl{cs:List C}(h:shSpl.ok cs):∃ x:Spl,CsLe cs (encSpl x):=by
 obtain ⟨c0,r0,rfl,a0,b0⟩:=h
 obtain ⟨x0,k0⟩:=of_int a0
 obtain ⟨c1,r1,rfl,a1,b1⟩:=b0
 obtain ⟨x1,k1⟩:=of_int a1
 obtain ⟨c2,r2,rfl,a2,b2⟩:=b1
 obtain ⟨x2,k2⟩:=of_int a2
 obtain ⟨c3,r3,rfl,a3,b3⟩:=b2
 obtain ⟨x3,k3⟩:=of_int a3
 obtain ⟨c4,r4,rfl,a4,b4⟩:=b3
 obtain ⟨x4,k4⟩:=of_int a4
 obtain rfl:=b4
 exact ⟨⟨x0,x1,x2,x3,x4⟩,(k0.app (k1.app (k2.app (k3.app (k4.app CsLe.nil)))))⟩
def shOv:Sh:=.cat (.int .i64) (.cat (.int .i64) (.cat (.int .i64) (.cat (.int .i64) (.cat (.int .i64) (.cat (.int .i64) (.cat (.int .i64) (.nil)))))))
theorem ofOv{cs:List C}(h:shOv.ok cs):∃ x:Ov,CsLe cs (encOv x):=by
 obtain ⟨c0,r0,rfl,a0,b0⟩:=h
 obtain ⟨x0,k0⟩:=of_int a0
 obtain ⟨c1,r1,rfl,a1,b1⟩:=b0
 obtain ⟨x1,k1⟩:=of_int a1
 obtain ⟨c2,r2,rfl,a2,b2⟩:=b1
 obtain ⟨x2,k2⟩:=of_int a2
 obtain ⟨c3,r3,rfl,a3,b3⟩:=b2
 obtain ⟨x3,k3⟩:=of_int a3
 obtain ⟨c4,r4,rfl,a4,b4⟩:=b3
 obtain ⟨x4,k4⟩:=of_int a4
 obtain ⟨c5,r5,rfl,a5,b5⟩:=b4
 obtain ⟨x5,k5⟩:=of_int a5
 obtain ⟨c6,r6,rfl,a6,b6⟩:=b5
 obtain ⟨x6,k6⟩:=of_int a6
 obtain rfl:=b6
 exact ⟨⟨x0,x1,x2,x3,x4,x5,x6⟩,(k0.app (k1.app (k2.app (k3.app (k4.app (k5.app (k6.app CsLe.nil)))))))⟩
def shDfc:Sh:=.cat (.int .i64) (.cat (.int .i64) (.cat (.int .i64) (.cat (.int .i64) (.cat (.int .i64) (.nil)))))
theorem ofDfc{cs:List C}(h:shDfc.ok cs):∃ x:Dfc,CsLe cs (encDfc x):=by
 obtain ⟨c0,r0,rfl,a0,b0⟩:=h
 obtain ⟨x0,k0⟩:=of_int a0
 obtain ⟨c1,r1,rfl,a1,b1⟩:=b0
 obtain ⟨x1,k1⟩:=of_int a1
 obtain ⟨c2,r2,rfl,a2,b2⟩:=b1
 obtain ⟨x2,k2⟩:=of_int a2
 obtain ⟨c3,r3,rfl,a3,b3⟩:=b2
 obtain ⟨x3,k3⟩:=of_int a3
 obtain ⟨c4,r4,rfl,a4,b4⟩:=b3
 obtain ⟨x4,k4⟩:=of_int a4
 obtain rfl:=b4
 exact ⟨⟨x0,x1,x2,x3,x4⟩,(k0.app (k1.app (k2.app (k3.app (k4.app CsLe.nil)))))⟩
def shPay:Sh:=.cat (.int .i64) (.cat (.int .i64) (.cat (.int .i64) (.cat (.int .i64) (.nil))))
theorem ofPay{cs:List C}(h:shPay.ok cs):∃ x:Pay,CsLe cs (encPay x):=by
 obtain ⟨c0,r0,rfl,a0,b0⟩:=h
 obtain ⟨x0,k0⟩:=of_int a0
 obtain ⟨c1,r1,rfl,a1,b1⟩:=b0
 obtain ⟨x1,k1⟩:=of_int a1
 obtain ⟨c2,r2,rfl,a2,b2⟩:=b1
 obtain ⟨x2,k2⟩:=of_int a2
 obtain ⟨c3,r3,rfl,a3,b3⟩:=b2
 obtain ⟨x3,k3⟩:=of_int a3
 obtain rfl:=b3
 exact ⟨⟨x0,x1,x2,x3⟩,(k0.app (k1.app (k2.app (k3.app CsLe.nil))))⟩
def shAlr:Sh:=.cat (.int .i64) (.cat (.int .i64) (.cat (.int .i64) (.cat (.int .i64) (.cat (.int .i64) (.nil)))))
theorem ofAlr{cs:List C}(h:shAlr.ok cs):∃ x:Alr,CsLe cs (encAlr x):=by
 obtain ⟨c0,r0,rfl,a0,b0⟩:=h
 obtain ⟨x0,k0⟩:=of_int a0
 obtain ⟨c1,r1,rfl,a1,b1⟩:=b0
 obtain ⟨x1,k1⟩:=of_int a1
 obtain ⟨c2,r2,rfl,a2,b2⟩:=b1
 obtain ⟨x2,k2⟩:=of_int a2
 obtain ⟨c3,r3,rfl,a3,b3⟩:=b2
 obtain ⟨x3,k3⟩:=of_int a3
 obtain ⟨c4,r4,rfl,a4,b4⟩:=b3
 obtain ⟨x4,k4⟩:=of_int a4
 obtain rfl:=b4
 exact ⟨⟨x0,x1,x2,x3,x4⟩,(k0.app (k1.app (k2.app (k3.app (k4.app CsLe.nil)))))⟩
def shFrn:Sh:=.cat shAlr (.cat (.int .i64) (.nil))
theorem ofFrn{cs:List C}(h:shFrn.ok cs):∃ x:Frn,CsLe cs (encFrn x):=by
 obtain ⟨c0,r0,rfl,a0,b0⟩:=h
 obtain ⟨x0,k0⟩:=ofAlr a0
 obtain ⟨c1,r1,rfl,a1,b1⟩:=b0
 obtain ⟨x1,k1⟩:=of_int a1
 obtain rfl:=b1
 exact ⟨⟨x0,x1⟩,(k0.app (k1.app CsLe.nil))⟩
def shScr:Sh:=.cat (.int .i64) (.cat (.int .i64) (.cat (.sl 5 shSpl) (.cat (.sl 7 shOv) (.cat (.sl 5 shDfc) (.cat (.sl 4 shPay) (.cat (.sl 6 shFrn) (.nil)))))))
theorem ofScr{cs:List C}(h:shScr.ok cs):∃ x:Scr,CsLe cs (encScr x):=by
 obtain ⟨c0,r0,rfl,a0,b0⟩:=h
 obtain ⟨x0,k0⟩:=of_int a0
 obtain ⟨c1,r1,rfl,a1,b1⟩:=b0
 obtain ⟨x1,k1⟩:=of_int a1
 obtain ⟨c2,r2,rfl,a2,b2⟩:=b1
 obtain ⟨x2,k2⟩:=(of_sl (enc:=encSpl) (z:=zSpl) (fun _ h=>ofSpl h)) a2
 obtain ⟨c3,r3,rfl,a3,b3⟩:=b2
 obtain ⟨x3,k3⟩:=(of_sl (enc:=encOv) (z:=zOv) (fun _ h=>ofOv h)) a3
 obtain ⟨c4,r4,rfl,a4,b4⟩:=b3
 obtain ⟨x4,k4⟩:=(of_sl (enc:=encDfc) (z:=zDfc) (fun _ h=>ofDfc h)) a4
 obtain ⟨c5,r5,rfl,a5,b5⟩:=b4
 obtain ⟨x5,k5⟩:=(of_sl (enc:=encPay) (z:=zPay) (fun _ h=>ofPay h)) a5
 obtain ⟨c6,r6,rfl,a6,b6⟩:=b5
 obtain ⟨x6,k6⟩:=(of_sl (enc:=encFrn) (z:=zFrn) (fun _ h=>ofFrn h)) a6
 obtain rfl:=b6
 exact ⟨⟨x0,x1,x2,x3,x4,x5,x6⟩,(k0.app (k1.app (k2.app (k3.app (k4.app (k5.app (k6.app CsLe.nil)))))))⟩
def shRg:Sh:=.cat (.int .i64) (.cat (.int .i64) (.cat .bool (.nil)))
theorem ofRg{cs:List C}(h:shRg.ok cs):∃ x:Rg,CsLe cs (encRg x):=by
 obtain ⟨c0,r0,rfl,a0,b0⟩:=h
 obtain ⟨x0,k0⟩:=of_int a0
 obtain ⟨c1,r1,rfl,a1,b1⟩:=b0
 obtain ⟨x1,k1⟩:=of_int a1
 obtain ⟨c2,r2,rfl,a2,b2⟩:=b1
 obtain ⟨x2,k2⟩:=of_bool a2
 obtain rfl:=b2
 exact ⟨⟨x0,x1,x2⟩,(k0.app (k1.app (k2.app CsLe.nil)))⟩
def shPx:Sh:=.cat (.int .i64) (.cat (.int .i64) (.cat (.int .i64) (.cat (.int .i64) (.nil))))
theorem ofPx{cs:List C}(h:shPx.ok cs):∃ x:Px,CsLe cs (encPx x):=by
 obtain ⟨c0,r0,rfl,a0,b0⟩:=h
 obtain ⟨x0,k0⟩:=of_int a0
 obtain ⟨c1,r1,rfl,a1,b1⟩:=b0
 obtain ⟨x1,k1⟩:=of_int a1
 obtain ⟨c2,r2,rfl,a2,b2⟩:=b1
 obtain ⟨x2,k2⟩:=of_int a2
 obtain ⟨c3,r3,rfl,a3,b3⟩:=b2
 obtain ⟨x3,k3⟩:=of_int a3
 obtain rfl:=b3
 exact ⟨⟨x0,x1,x2,x3⟩,(k0.app (k1.app (k2.app (k3.app CsLe.nil))))⟩
def shCs:Sh:=.cat (.int .i64) (.cat (.int .i64) (.cat (.int .i64) (.cat .bool (.nil))))
theorem ofCs{cs:List C}(h:shCs.ok cs):∃ x:Cs,CsLe cs (encCs x):=by
 obtain ⟨c0,r0,rfl,a0,b0⟩:=h
 obtain ⟨x0,k0⟩:=of_int a0
 obtain ⟨c1,r1,rfl,a1,b1⟩:=b0
 obtain ⟨x1,k1⟩:=of_int a1
 obtain ⟨c2,r2,rfl,a2,b2⟩:=b1
 obtain ⟨x2,k2⟩:=of_int a2
 obtain ⟨c3,r3,rfl,a3,b3⟩:=b2
 obtain ⟨x3,k3⟩:=of_bool a3
 obtain rfl:=b3
 exact ⟨⟨x0,x1,x2,x3⟩,(k0.app (k1.app (k2.app (k3.app CsLe.nil))))⟩
def shFol:Sh:=.cat (.int .i64) (.cat (.int .i64) (.cat (.int .i64) (.cat (.int .i64) (.cat (.int .i64) (.nil)))))
theorem ofFol{cs:List C}(h:shFol.ok cs):∃ x:Fol,CsLe cs (encFol x):=by
 obtain ⟨c0,r0,rfl,a0,b0⟩:=h
 obtain ⟨x0,k0⟩:=of_int a0
 obtain ⟨c1,r1,rfl,a1,b1⟩:=b0
 obtain ⟨x1,k1⟩:=of_int a1
 obtain ⟨c2,r2,rfl,a2,b2⟩:=b1
 obtain ⟨x2,k2⟩:=of_int a2
 obtain ⟨c3,r3,rfl,a3,b3⟩:=b2
 obtain ⟨x3,k3⟩:=of_int a3
 obtain ⟨c4,r4,rfl,a4,b4⟩:=b3
 obtain ⟨x4,k4⟩:=of_int a4
 obtain rfl:=b4
 exact ⟨⟨x0,x1,x2,x3,x4⟩,(k0.app (k1.app (k2.app (k3.app (k4.app CsLe.nil)))))⟩
def shTa:Sh:=.cat (.int .i64) (.cat (.int .i64) (.cat (.int .i64) (.cat (.int .i64) (.nil))))
theorem ofTa{cs:List C}(h:shTa.ok cs):∃ x:Ta,CsLe cs (encTa x):=by
 obtain ⟨c0,r0,rfl,a0,b0⟩:=h
 obtain ⟨x0,k0⟩:=of_int a0
 obtain ⟨c1,r1,rfl,a1,b1⟩:=b0
 obtain ⟨x1,k1⟩:=of_int a1
 obtain ⟨c2,r2,rfl,a2,b2⟩:=b1
 obtain ⟨x2,k2⟩:=of_int a2
 obtain ⟨c3,r3,rfl,a3,b3⟩:=b2
 obtain ⟨x3,k3⟩:=of_int a3
 obtain rfl:=b3
 exact ⟨⟨x0,x1,x2,x3⟩,(k0.app (k1.app (k2.app (k3.app CsLe.nil))))⟩
def shSta:Sh:=.cat (.int .i64) (.cat (.int .i64) (.cat (.sl 3 shRg) (.cat (.sl 4 shPx) (.cat (.sl 1 (.sl 4 shCs)) (.cat (.sl 1 (.int .i64)) (.cat (.sl 5 shFol) (.cat (.sl 4 shTa) (.nil))))))))
theorem ofSta{cs:List C}(h:shSta.ok cs):∃ x:Sta,CsLe cs (encSta x):=by
 obtain ⟨c0,r0,rfl,a0,b0⟩:=h
 obtain ⟨x0,k0⟩:=of_int a0
 obtain ⟨c1,r1,rfl,a1,b1⟩:=b0
 obtain ⟨x1,k1⟩:=of_int a1
 obtain ⟨c2,r2,rfl,a2,b2⟩:=b1
 obtain ⟨x2,k2⟩:=(of_sl (enc:=encRg) (z:=zRg) (fun _ h=>ofRg h)) a2
 obtain ⟨c3,r3,rfl,a3,b3⟩:=b2
 obtain ⟨x3,k3⟩:=(of_sl (enc:=encPx) (z:=zPx) (fun _ h=>ofPx h)) a3
 obtain ⟨c4,r4,rfl,a4,b4⟩:=b3
 obtain ⟨x4,k4⟩:=(of_sl (enc:=(Sym.encL 4 encCs zCs)) (z:=[]) (fun _ h=>(of_sl (enc:=encCs) (z:=zCs) (fun _ h=>ofCs h)) h)) a4
 obtain ⟨c5,r5,rfl,a5,b5⟩:=b4
 obtain ⟨x5,k5⟩:=(of_sl (enc:=Sym.encI) (z:=0) (fun _ h=>of_int h)) a5
 obtain ⟨c6,r6,rfl,a6,b6⟩:=b5
 obtain ⟨x6,k6⟩:=(of_sl (enc:=encFol) (z:=zFol) (fun _ h=>ofFol h)) a6
 obtain ⟨c7,r7,rfl,a7,b7⟩:=b6
 obtain ⟨x7,k7⟩:=(of_sl (enc:=encTa) (z:=zTa) (fun _ h=>ofTa h)) a7
 obtain rfl:=b7
 exact ⟨⟨x0,x1,x2,x3,x4,x5,x6,x7⟩,(k0.app (k1.app (k2.app (k3.app (k4.app (k5.app (k6.app (k7.app CsLe.nil))))))))⟩
end Go.Proofs.YtidbmbpeblmliaaGreatDoor
namespace Go.Proofs.YtidbmbpeblmliaaGreatDoor
open Go.Sym Go.RowKit
set_option linter.unusedVariables false
set_option linter.unusedSimpArgs false
theorem own:ownKnob Tryz.prog.godebug=none:=by kernel_rfl
theorem laidOut:laidOutB Tryz.prog=true:=by kernel_rfl
def laidL:List (String×DataW Unit):=Rows.feasiblePartitionRow.laid
noncomputable def low:Nat:=(World.holding Tryz.prog default ⟨#[],#[],[]⟩).heap.size
abbrev textR:BA:={ data:=#[118,97,108,117,101,32,111,117,116,32,111,102,32,114,97,110,103,101] }
abbrev textY:BA:={ data:=#[105,110,118,97,108,105,100,32,115,121,110,116,97,120] }
def putG(h:Array Obj)(g:Nat)(cs:Array Value):Array Obj:=h.modify g fun
 | .cells _ t frozen=>.cells cs t frozen
 | o=>o
noncomputable def laidWorld(os:Os):World:=
 let w0:=World.holding Tryz.prog os ⟨#[.cells #[.string textR] 412,.cells #[.string textY] 412],#[],[]⟩
 {w0 with heap:=putG (putG (putG (putG (putG w0.heap 0 tabArr) 2 #[.iface 410 (.pointer (some ⟨low+1,0,none⟩))]) 3 #[.iface 410 (.pointer (some ⟨low,0,none⟩))]) 4 #[.int .u8 0,.int .u8 1,.int .u8 28,.int .u8 2,.int .u8 29,.int .u8 14,.int .u8 24,.int .u8 3,.int .u8 30,.int .u8 22,.int .u8 20,.int .u8 15,.int .u8 25,.int .u8 17,.int .u8 4,.int .u8 8,.int .u8 31,.int .u8 27,.int .u8 13,.int .u8 23,.int .u8 21,.int .u8 19,.int .u8 16,.int .u8 7,.int .u8 26,.int .u8 12,.int .u8 18,.int .u8 6,.int .u8 11,.int .u8 5,.int .u8 10,.int .u8 9]) 5 #[.int .u8 0,.int .u8 1,.int .u8 56,.int .u8 2,.int .u8 57,.int .u8 49,.int .u8 28,.int .u8 3,.int .u8 61,.int .u8 58,.int .u8 42,.int .u8 50,.int .u8 38,.int .u8 29,.int .u8 17,.int .u8 4,.int .u8 62,.int .u8 47,.int .u8 59,.int .u8 36,.int .u8 45,.int .u8 43,.int .u8 51,.int .u8 22,.int .u8 53,.int .u8 39,.int .u8 33,.int .u8 30,.int .u8 24,.int .u8 18,.int .u8 12,.int .u8 5,.int .u8 63,.int .u8 55,.int .u8 48,.int .u8 27,.int .u8 60,.int .u8 41,.int .u8 37,.int .u8 16,.int .u8 46,.int .u8 35,.int .u8 44,.int .u8 21,.int .u8 52,.int .u8 32,.int .u8 23,.int .u8 11,.int .u8 54,.int .u8 26,.int .u8 40,.int .u8 15,.int .u8 34,.int .u8 20,.int .u8 31,.int .u8 10,.int .u8 25,.int .u8 14,.int .u8 19,.int .u8 9,.int .u8 13,.int .u8 8,.int .u8 7,.int .u8 6] }
theorem laid_met(os:Os)(args:Array Value):laidMet Tryz.prog laidL ((laidWorld os).forCall (fun _ _=>0) ⟨#[],args,[]⟩).memory:=
 laidMet_of_run' 8 kr kr
theorem noHandles:laidL.filter (fun x=>x.2.handleName?.isSome)=[]:=by kernel_rfl
theorem laidH(W:World):laidMetH Tryz.prog laidL W=laidMet Tryz.prog laidL W:=by
 unfold laidMetH
 rw [noHandles]
theorem laidK{W:World}(h:laidMetH Tryz.prog laidL W):Laid Tryz.prog (allK W):=by
 rw [laidH] at h
 exact laid_of (t:=401) (e:=335) (g0:=0) kr kr Tryz.underlying401 Tryz.underlying335 kr kr h
end Go.Proofs.YtidbmbpeblmliaaGreatDoor
