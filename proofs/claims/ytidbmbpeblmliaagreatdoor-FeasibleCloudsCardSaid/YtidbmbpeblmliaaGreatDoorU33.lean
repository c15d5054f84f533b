/- Part of the proof of the statement that the claim's last text names: contracts of functions and laws of the symbolic layer. -/
import Derived.Test.YtidbmbpeblmliaaGreatDoorU14
import Derived.Test.YtidbmbpeblmliaaGreatDoorU27
import Derived.Test.YtidbmbpeblmliaaGreatDoorU13
import Derived.Test.YtidbmbpeblmliaaGreatDoorU32
set_option linter.unusedVariables false
set_option linter.unusedSimpArgs false
namespace Go.Proofs.YtidbmbpeblmliaaGreatDoor.Pl
open Go.Sym Go.Proofs.YtidbmbpeblmliaaGreatDoor
theorem runL_nx{ρ:Type}{bd:Nat→Unit→Fl Unit ρ}:∀ n i,(∀ j,i≤j→j<i+n→bd j ()=.nx ())→runL bd n i ()=.nx ()
 | 0,i,_=>rfl
 | n+1,i,h=>by
  rw [runL,h i (Nat.le_refl _) om]
  exact runL_nx n (i+1) fun j h1 h2=>h j om om
theorem sameEx_refl(l:List Exc):Hd.SameExclusions l l=true:=by
 rw [Hd.SameExclusions,show (((l.length:Int) != (l.length:Int)))=false by simp,cond_false,runL_nx _ _ fun j g1 g2=>by
  rw [Hd.SameExclusions_b1];simp]
 rfl
theorem sameRq_refl(l:List Rq):Hd.SameRequests l l=true:=by
 rw [Hd.SameRequests,show (((l.length:Int) != (l.length:Int)))=false by simp,cond_false,runL_nx _ _ fun j g1 g2=>by
  rw [Hd.SameRequests_b1];simp]
 rfl
end Go.Proofs.YtidbmbpeblmliaaGreatDoor.Pl
namespace Go.Proofs.YtidbmbpeblmliaaGreatDoor.Pl
open Go.Sym Go.Proofs.YtidbmbpeblmliaaGreatDoor
theorem runL_fold{α σ ρ:Type}{bd:Nat→σ→Fl σ ρ}{l:List α}{z:α}(g:σ→α→σ)(h:∀ i x,i<l.length→bd i x=.nx (g x (l.getD i z)))(x0:σ):runL bd l.length 0 x0=.nx (l.foldl g x0):=by
 refine runL_inv (bd:=bd) (n:=l.length) (fun i x=>x=(l.take i).foldl g x0) (fun r=>r=.nx (l.foldl g x0)) ?_ ?_ ?_ ?_ _ 0 _ om rfl
 ·rintro i x y hi rfl hb
  rw [h i _ hi] at hb
  cases hb
  rw [take_snoc hi z,List.foldl_append];rfl
 ·rintro i x y hi rfl hb;rw [h i _ hi] at hb;cases hb
 ·rintro i x y hi rfl hb;rw [h i _ hi] at hb;cases hb
 ·rintro x rfl;rw [List.take_length]
theorem foldl_keep{α:Type}(p:α→Bool):∀ (l:List α) (a:List α),l.foldl (fun x e=>bif p e then x++[e] else x) a=a++l.filter p
 | [],a=>by simp
 | e :: l,a=>by
  rw [List.foldl_cons,foldl_keep p l]
  cases hp:p e<;>simp [List.filter_cons,hp]
theorem getD_mem{α:Type}{l:List α}{i:Nat}{z:α}(h:i<l.length):l.getD i z∈l:=by
 rw [gE,List.getElem?_eq_getElem h];exact List.getElem_mem h
theorem mem_getD{α:Type}{l:List α}{e z:α}(h:e∈l):∃ i,i<l.length∧l.getD i z=e:=by
 obtain ⟨i,hi,rfl⟩:=List.mem_iff_getElem.1 h
 exact ⟨i,hi,by simp [gE,hi]⟩
theorem all_iff{l:List Spl}:Wea.all l=true↔l.length≤200∧∀ e,e∈l→Wea.formed e=true:=by
 constructor
 ·intro h
  rw [Wea.all] at h
  obtain ⟨h1,h2⟩:=bif_f h
  have h3:=runL_true (fun j=>bool_or _) _ _ h2
  simp only [decide_eq_false_iff_not] at h1
  refine ⟨om,fun e he=>?_⟩
  obtain ⟨i,hi,rfl⟩:=mem_getD (z:=zSpl) he
  have:=bool_nx (h3 i (Nat.zero_le _) om)
  simpa using this
 ·rintro ⟨h1,h2⟩
  rw [Wea.all,decide_eq_false (show ¬ ((l.length:Int)>200) by omega),cond_false,runL_nx _ _ fun j g1 g2=>by
   rw [Wea.all_b1,h2 _ (getD_mem om)];rfl]
  rfl
theorem wea_ok{l:List Spl}{m:Int}(h:(Wea.At l m).2=0):Wea.all l=true:=by
 cases ha:Wea.all l with
 | true=>rfl
 | false=>rw [Wea.At,ha] at h;cases h
end Go.Proofs.YtidbmbpeblmliaaGreatDoor.Pl
namespace Go.Proofs.YtidbmbpeblmliaaGreatDoor.Pl
open Go.Sym Go.Proofs.YtidbmbpeblmliaaGreatDoor
def bad(n:BA):Bool:=(n.toList==(⟨#[99,108,101,97,114]⟩:BA).toList)||(n.toList==(⟨#[115,101,101,105,110,103]⟩:BA).toList)
theorem runL_congr{σ ρ:Type}{b b':Nat→σ→Fl σ ρ}:∀ n i x,(∀ j y,i≤j→j<i+n→b j y=b' j y)→runL b n i x=runL b' n i x
 | 0,_,_,_=>rfl
 | n+1,i,x,h=>by
  rw [runL,runL,h i x (Nat.le_refl _) om]
  cases b' i x with
  | nx y=>exact runL_congr n (i+1) y fun j z h1 h2=>h j z om om
  | br y=>rfl
  | rt r=>rfl
inductive Two:List (BA×Int)→List (BA×Int)→Prop where
 | nil:Two [] []
 | cons {a b:BA×Int} {k l:List (BA×Int)} (h1:a.1=b.1) (h2:bad a.1=false→a.2=b.2) (h:Two k l):Two (a :: k) (b :: l)
theorem Two.getB{k l:List (BA×Int)}(h:Two k l)(n:BA):mgetB Sym.eqS k n=mgetB Sym.eqS l n:=by
 induction h with
 | nil=>rfl
 | cons h1 _ _ ih=>simp only [mgetB,List.any_cons,h1] at ih ⊢;rw [ih]
theorem eqS_bad{a b:BA}(h:Sym.eqS a b=true):bad a=bad b:=by
 have:a.toList=b.toList:=by simpa [Sym.eqS] using h
 rw [bad,bad,this]
theorem Two.getD{k l:List (BA×Int)}(h:Two k l){n:BA}(hn:bad n=false):mgetD Sym.eqS 0 k n=mgetD Sym.eqS 0 l n:=by
 induction h with
 | nil=>rfl
 | @cons a b k l h1 h2 _ ih =>
  rw [mgetD,mgetD,← h1]
  cases he:Sym.eqS n a.1 with
  | true=>exact h2 (by rw [← eqS_bad he];exact hn)
  | false=>exact ih
theorem Two.put{k l:List (BA×Int)}(h:Two k l){n:BA}{x y:Int}(hx:bad n=false→x=y):Two (mput Sym.eqS k n x) (mput Sym.eqS l n y):=by
 induction h with
 | nil=>exact .cons rfl hx .nil
 | @cons a b k l h1 h2 h ih =>
  rw [mput,mput,← h1]
  cases he:Sym.eqS n a.1 with
  | true=>exact .cons rfl (fun hb=>hx (by rw [eqS_bad he];exact hb)) h
  | false=>exact .cons h1 h2 ih
inductive TwoV:List Vr→List Vr→Prop where
 | nil:TwoV [] []
 | cons {a b:Vr} {k l:List Vr} (h1:a.name=b.name) (h2:bad a.name=false→a.value=b.value) (h3:Mer.out a.value=Mer.out b.value) (h:TwoV k l):TwoV (a :: k) (b :: l)
theorem TwoV.len{k l:List Vr}(h:TwoV k l):k.length=l.length:=by
 induction h with
 | nil=>rfl
 | cons _ _ _ _ ih=>simp [ih]
theorem TwoV.at{k l:List Vr}(h:TwoV k l):∀ i,i<k.length→(k.getD i zVr).name=(l.getD i zVr).name∧(bad (k.getD i zVr).name=false→(k.getD i zVr).value=(l.getD i zVr).value)∧Mer.out (k.getD i zVr).value=Mer.out (l.getD i zVr).value:=by
 induction h with
 | nil=>intro i h;exact absurd h (by simp)
 | cons h1 h2 h3 _ ih =>
  intro i hi
  cases i with
  | zero=>exact ⟨h1,h2,h3⟩
  | succ i=>exact ih i (by simpa using hi)
def TwoO:Option (List (BA×Int))→Option (List (BA×Int))→Prop
 | some a,some b=>Two a b
 | none,none=>True
 | _,_=>False
theorem values_two{k l:List Vr}(h:TwoV k l):TwoO (Mer.values k) (Mer.values l):=by
 rw [Mer.values,Mer.values,← h.len]
 have key:∀ n i (x y:List (BA×Int)),i+n=k.length→Two x y→TwoO ((runL (Mer.values_b1 k) n i x).fin (Mer.values_b1_r k)) ((runL (Mer.values_b1 l) n i y).fin (Mer.values_b1_r l)):=by
  intro n
  induction n with
  | zero=>intro i x y _ hxy;exact hxy
  | succ n ih =>
   intro i x y hi hxy
   obtain ⟨h1,h2,h3⟩:=h.at i om
   rw [runL,runL,Mer.values_b1,Mer.values_b1,hxy.getB,h1,h3]
   cases ((mgetB Sym.eqS y ((l.getD i zVr).name))||(!(Mer.identifier ((l.getD i zVr).name))))||(Mer.out ((l.getD i zVr).value)) with
   | true=>exact trivial
   | false=>exact ih (i+1) _ _ om (hxy.put (by rw [← h1];exact h2))
 exact key _ 0 [] [] om .nil
theorem evalR_two{e:List Nd}{k l:List (BA×Int)}(h:Two k l)(hn:∀ i,i<e.length→((e.getD i zNd).op==2)=true→bad (e.getD i zNd).name=false):Evl.evalR e k=Evl.evalR e l:=by
 have h1:∀ i x,i<e.length→Evl.evalR_b1 e k i x=Evl.evalR_b1 e l i x:=fun i x hi=>by
  rw [Evl.evalR_b1,Evl.evalR_b1,h.getB]
  cases h2:((e.getD i zNd).op==2) with
  | false=>rfl
  | true=>rw [h.getD (hn i hi h2)];rfl
 rw [Evl.evalR,Evl.evalR,runL_congr _ _ _ fun j y _ h2=>h1 j y om]
 rfl
theorem eval_two{e:List Nd}{k l:List Vr}(h:TwoV k l)(hn:Exp.Valid e=true→∀ i,i<e.length→((e.getD i zNd).op==2)=true→bad (e.getD i zNd).name=false):Evl.eval e k=Evl.eval e l:=by
 have h1:=values_two h
 rw [Evl.eval,Evl.eval]
 cases hk:Mer.values k with
 | none =>
  cases hl:Mer.values l with
  | none=>rfl
  | some y=>rw [hk,hl] at h1;exact h1.elim
 | some x =>
  cases hl:Mer.values l with
  | none=>rw [hk,hl] at h1;exact h1.elim
  | some y =>
   rw [hk,hl] at h1
   cases hv:Exp.Valid e with
   | false=>rfl
   | true=>dsimp only;rw [evalR_two h1 (hn hv)]
theorem names_eq{e:List Nd}(h:Exp.Valid e=true):(Nms.Names e).1=Nms.names ((e.filter fun n=>n.op==2).map (·.name)):=by
 rw [Nms.Names,h,runL_fold (z:=zNd) (fun x n=>bif n.op==2 then x++[n.name] else x) (fun i x hi=>by
  rw [Nms.Names_b1];cases ((e.getD i zNd).op==2)<;>rfl)]
 have:∀ (l:List Nd) (x:List BA),l.foldl (fun x n=>bif n.op==2 then x++[n.name] else x) x=x++(l.filter fun n=>n.op==2).map (·.name):=fun l=>by
  induction l with
  | nil=>intro x;simp
  | cons n l ih =>
   intro x
   rw [List.foldl_cons,ih]
   cases hn:(n.op==2)<;>simp [List.filter_cons,hn]
 rw [this]
 rfl
theorem names_mem{e:List Nd}(h:Exp.Valid e=true){i:Nat}(hi:i<e.length)(h2:((e.getD i zNd).op==2)=true):(e.getD i zNd).name∈(Nms.Names e).1:=by
 rw [names_eq h,Nms.mem_names]
 exact List.mem_map.2 ⟨_,List.mem_filter.2 ⟨getD_mem hi,h2⟩,rfl⟩
def shut(e:Spl):Bool:=e.kind==3
def stepW(m:Int)(x:Cnd)(e:Spl):Cnd:=bif (!(Wea.within m e.frm e.til)) then x else (bif (e.kind==1) then (⟨(x.clear.set (e.quarter.toNat) e.num),x.seeing,x.opn⟩:Cnd) else (bif (e.kind==2) then (⟨x.clear,e.num,x.opn⟩:Cnd) else (bif (e.kind==3) then (⟨x.clear,x.seeing,false⟩:Cnd) else x)))
theorem wea_fold(k:List Spl)(m:Int)(a x:Cnd):runL (Wea.At_b2 k m a) k.length 0 x=.nx (k.foldl (stepW m) x):=by
 refine runL_fold (z:=zSpl) _ (fun i y hi=>?_) x
 rw [Wea.At_b2,stepW]
 cases (!(Wea.within m (k.getD i zSpl).frm (k.getD i zSpl).til)) with
 | true=>rfl
 | false =>
  simp only [cond_false]
  cases ((k.getD i zSpl).kind==1)<;>cases ((k.getD i zSpl).kind==2)<;>cases ((k.getD i zSpl).kind==3)<;>rfl
def fair:Cnd:=⟨⟨1000,1000,1000,1000⟩,10,true⟩
theorem wea_at{l:List Spl}{m:Int}(h:Wea.all l=true)(hm:Wea.moment m=true):(Wea.At l m).1=l.foldl (stepW m) fair:=by
 have h1:runL (Wea.At_b1 l m) 4 0 (⟨(⟨0,0,0,0⟩:Px),10,true⟩:Cnd)=.nx fair:=rfl
 rw [Wea.At,h,hm,h1]
 show (Wea.At_b1_r l m fair).1=_
 rw [Wea.At_b1_r,wea_fold]
 rfl
structure Mild (x:Cnd):Prop where
 clear:∀ k,0≤x.clear.at k∧x.clear.at k≤1000
 seeing:0≤x.seeing∧x.seeing≤100
theorem px_set{p:Px}{j:Nat}{v:Int}(hp:∀ k,0≤p.at k∧p.at k≤1000)(hv:0≤v∧v≤1000):∀ k,0≤(p.set j v).at k∧(p.set j v).at k≤1000:=by
 have h0:=hp 0
 have h1:=hp 1
 have h2:=hp 2
 have h3:=hp 3
 intro k
 rcases j with _ | _ | _ | j<;>rcases k with _ | _ | _ | k<;>first | exact hv | exact h0 | exact h1 | exact h2 | exact h3
theorem step_mild{m:Int}{x:Cnd}{e:Spl}(hx:Mild x)(he:Wea.formed e=true):Mild (stepW m x e):=by
 rw [stepW]
 rw [Wea.formed] at he
 cases (!(Wea.within m e.frm e.til)) with
 | true=>exact hx
 | false =>
  rw [cond_false]
  cases h1:(e.kind==1) with
  | true =>
   rw [h1,cond_true,Bool.and_eq_true] at he
   have h2:=he.2
   rw [Wea.kind2,Bool.and_eq_true] at h2
   have h3:=h2.2
   rw [Wea.within] at h3
   simp only [Bool.and_eq_true,decide_eq_true_eq] at h3
   exact ⟨px_set hx.clear h3,hx.seeing⟩
  | false =>
   rw [h1,cond_false] at he
   rw [cond_false]
   cases h2:(e.kind==2) with
   | true =>
    rw [h2,cond_true,Bool.and_eq_true] at he
    have h3:=he.2
    rw [Wea.kind4,Bool.and_eq_true] at h3
    have h4:=h3.2
    rw [Wea.within] at h4
    simp only [Bool.and_eq_true,decide_eq_true_eq] at h4
    exact ⟨hx.clear,show 0≤e.num∧e.num≤100 by omega⟩
   | false =>
    rw [cond_false]
    cases (e.kind==3) with
    | true=>exact ⟨hx.clear,hx.seeing⟩
    | false=>exact hx
theorem fold_mild{m:Int}:∀ (l:List Spl) (x:Cnd),Mild x→(∀ e,e∈l→Wea.formed e=true)→Mild (l.foldl (stepW m) x)
 | [],_,h,_=>h
 | e :: l,x,h,hf=>fold_mild l _ (step_mild h (hf e List.mem_cons_self)) fun e he=>hf e (List.mem_cons_of_mem _ he)
theorem fair_mild:Mild fair:=⟨fun k=>by rcases k with _ | _ | _ | k<;>exact (show (0 :Int)≤1000∧(1000 :Int)≤1000 by decide),by decide⟩
theorem fold_opn{m:Int}:∀ (l:List Spl) (x y:Cnd),x.opn=y.opn→((l.filter shut).foldl (stepW m) x).opn=(l.foldl (stepW m) y).opn
 | [],_,_,h=>h
 | e :: l,x,y,h=>by
  cases hs:shut e with
  | true =>
   rw [List.filter_cons,if_pos hs,List.foldl_cons,List.foldl_cons]
   refine fold_opn l _ _ ?_
   have hk:e.kind=3:=by simpa [shut] using hs
   rw [stepW,stepW,hk]
   cases (!(Wea.within m e.frm e.til)) with
   | true=>exact h
   | false=>rfl
  | false =>
   rw [List.filter_cons,if_neg (by rw [hs];decide),List.foldl_cons]
   refine fold_opn l _ _ ?_
   rw [h,stepW]
   have hk:(e.kind==3)=false:=hs
   rw [hk]
   cases (!(Wea.within m e.frm e.til))<;>cases (e.kind==1)<;>cases (e.kind==2)<;>rfl
theorem all_shut{l:List Spl}(h:Wea.all l=true):Wea.all (l.filter shut)=true:=by
 obtain ⟨g1,g2⟩:=all_iff.1 h
 exact all_iff.2 ⟨Nat.le_trans (List.length_filter_le _ _) g1,fun e he=>g2 e (List.mem_filter.1 he).1⟩
theorem wea_mild{l:List Spl}{m:Int}(h:Wea.all l=true)(hm:Wea.moment m=true):Mild (Wea.At l m).1:=by
 rw [wea_at h hm];exact fold_mild l _ fair_mild (all_iff.1 h).2
theorem wea_moment{l:List Spl}{m:Int}(h:(Wea.At l m).2=0):Wea.moment m=true:=by
 cases ha:Wea.moment m with
 | true=>rfl
 | false=>rw [Wea.At,ha,Bool.not_false,Bool.or_true] at h;cases h
theorem wea_opn{l:List Spl}{m:Int}(h:Wea.all l=true)(hm:Wea.moment m=true):(Wea.At (l.filter shut) m).1.opn=(Wea.At l m).1.opn:=by
 rw [wea_at h hm,wea_at (all_shut h) hm,fold_opn l fair fair rfl]
theorem wea_err{l:List Spl}{m:Int}(h:Wea.all l=true)(hm:Wea.moment m=true):(Wea.At l m).2=0:=by
 have h1:runL (Wea.At_b1 l m) 4 0 (⟨(⟨0,0,0,0⟩:Px),10,true⟩:Cnd)=.nx fair:=rfl
 rw [Wea.At,h,hm,h1]
 show (Wea.At_b1_r l m fair).2=_
 rw [Wea.At_b1_r,wea_fold]
 rfl
abbrev clC(c:Scr):Scr:=⟨c.frm,c.til,c.spells.filter shut,c.overrides,c.defects,c.payments,c.foreign⟩
def NoBad(w:Wd):Prop:=∀ i,Exp.Valid (w.programmes.getD i zPrg).merit=true→∀ j,j<(w.programmes.getD i zPrg).merit.length→(((w.programmes.getD i zPrg).merit.getD j zNd).op==2)=true→bad ((w.programmes.getD i zPrg).merit.getD j zNd).name=false
theorem out_small{n:Int}(h:0≤n∧n≤1000):Mer.out n=false:=by
 rw [Mer.out,decide_eq_false om,decide_eq_false om];rfl
theorem bad_clear(p:Int):bad (⟨⟨#[99,108,101,97,114]⟩,p⟩:Vr).name=true:=by
 show bad ⟨#[99,108,101,97,114]⟩=true
 decide +kernel
theorem bad_seeing(p:Int):bad (⟨⟨#[115,101,101,105,110,103]⟩,p⟩:Vr).name=true:=by
 show bad ⟨#[115,101,101,105,110,103]⟩=true
 decide +kernel
theorem two_refl:∀ l:List Vr,TwoV l l
 | []=>.nil
 | _ :: l=>.cons rfl (fun _=>rfl) rfl (two_refl l)
theorem worth_cl{w:Wd}{c:Scr}{s:Sta}{t:Int}(ha:Wea.all c.spells=true)(hm:Wea.moment s.mom=true)(hn:NoBad w)(a:Rq×Cs):Slo.worth (slot w (clC c) s t) a.1 a.2=Slo.worth (slot w c s t) a.1 a.2:=by
 have m1:=wea_mild ha hm
 have m2:=wea_mild (all_shut ha) hm
 have h1:∀ j,Slo.worth_k1 (slot w (clC c) s t) a.1 a.2 j=Slo.worth_k1 (slot w c s t) a.1 a.2 j:=fun j=>by
  rw [Slo.worth_k1,Slo.worth_k1]
  have key:∀ (v1 v2 v3 v4 v5:Vr) (p1 p2:Int) (q1 q2:Int) (F G:Int→Int) (b:Bool),(0≤p1∧p1≤1000)→(0≤p2∧p2≤1000)→(0≤q1∧q1≤100)→(0≤q2∧q2≤100) →
    (bif b then F (Evl.eval ((w.programmes.getD a.1.prog.toNat zPrg).merit) [v1,⟨⟨#[99,108,101,97,114]⟩,p1⟩,⟨⟨#[115,101,101,105,110,103]⟩,q1⟩,v2,v3,v4,v5]).1 else G (Evl.eval ((w.programmes.getD a.1.prog.toNat zPrg).merit) [v1,⟨⟨#[99,108,101,97,114]⟩,p1⟩,⟨⟨#[115,101,101,105,110,103]⟩,q1⟩,v2,v3,v4,v5]).1) =
    (bif b then F (Evl.eval ((w.programmes.getD a.1.prog.toNat zPrg).merit) [v1,⟨⟨#[99,108,101,97,114]⟩,p2⟩,⟨⟨#[115,101,101,105,110,103]⟩,q2⟩,v2,v3,v4,v5]).1 else G (Evl.eval ((w.programmes.getD a.1.prog.toNat zPrg).merit) [v1,⟨⟨#[99,108,101,97,114]⟩,p2⟩,⟨⟨#[115,101,101,105,110,103]⟩,q2⟩,v2,v3,v4,v5]).1):=by
   intro v1 v2 v3 v4 v5 p1 p2 q1 q2 F G b hp1 hp2 hq1 hq2
   rw [eval_two (k:=[v1,⟨⟨#[99,108,101,97,114]⟩,p1⟩,⟨⟨#[115,101,101,105,110,103]⟩,q1⟩,v2,v3,v4,v5]) (l:=[v1,⟨⟨#[99,108,101,97,114]⟩,p2⟩,⟨⟨#[115,101,101,105,110,103]⟩,q2⟩,v2,v3,v4,v5]) (.cons rfl (fun _=>rfl) rfl (.cons rfl (fun h=>by rw [bad_clear] at h;cases h) ((out_small (n:=p1) hp1).trans (out_small (n:=p2) hp2).symm) (.cons rfl (fun h=>by rw [bad_seeing] at h;cases h) ((out_small (n:=q1) om).trans (out_small (n:=q2) om).symm) (two_refl [v2,v3,v4,v5])))) (hn a.1.prog.toNat)]
  exact key _ _ _ _ _ _ _ _ _ (fun z=>Mer.Clamp (IntKind.i64.wrap ((Mer.Clamp z)+((w.programmes.getD a.1.prog.toNat zPrg).bonus)))) (fun z=>Mer.Clamp z) _ (m2.clear _) (m1.clear _) m2.seeing m1.seeing
 rw [Slo.worth,Slo.worth,h1,h1];rfl
theorem J_cl{w:Wd}{c:Scr}{s:Sta}{t:Int}(ha:Wea.all c.spells=true)(hm:Wea.moment s.mom=true)(a:Rq×Cs):J (slot w (clC c) s t) a=J (slot w c s t) a:=by
 have r5:Slo.dry (slot w (clC c) s t) a.1 a.2=Slo.dry (slot w c s t) a.1 a.2:=by
  rw [Slo.dry,Slo.dry,show (slot w (clC c) s t).sky.opn=(slot w c s t).sky.opn from wea_opn ha hm]
 rw [J,J,Slo.judge,Slo.judge,r5]
 rfl
theorem req_cl{w:Wd}{c:Scr}{s:Sta}{t:Int}(he:(Req.Requests w c s t).2.2=0)(hn:NoBad w):Req.Requests w (clC c) s t=Req.Requests w c s t:=by
 obtain ⟨v1,v2,v3,v4,v5,v6,v7⟩:=req_ok (w:=w) (c:=c) (s:=s) (t:=t) he
 have ha:=wea_ok v5
 have hm:=wea_moment v5
 have hJ:J (slot w (clC c) s t)=J (slot w c s t):=funext (J_cl ha hm)
 have hr:rOf (slot w (clC c) s t)=rOf (slot w c s t):=by funext a;rw [rOf,rOf,worth_cl ha hm hn]
 have hx:xOf (slot w (clC c) s t)=xOf (slot w c s t):=by funext a;rw [xOf,xOf,hJ]
 have hq:rqs (slot w (clC c) s t) (Cnd.candL w s)=rqs (slot w c s t) (Cnd.candL w s):=by rw [rqs,rqs,hJ,hr]
 have hz:exs (slot w (clC c) s t) (Cnd.candL w s)=exs (slot w c s t) (Cnd.candL w s):=by rw [exs,exs,hJ,hx]
 have v5':(Wea.At (clC c).spells s.mom).2=0:=wea_err (all_shut ha) hm
 rw [v7,Req.Requests,v1,v2,v4,decide_eq_false (show ¬ t<0 by omega),decide_eq_false (show ¬ t≥(w.telescopes.length:Int) by omega),v5']
 simp only [Bool.not_true,Bool.or_false,bne_self_eq_false,cond_false]
 rw [req_loop,hq,hz]
 show Req.Requests_b1_r w (clC c) s t (exs (slot w c s t) (Cnd.candL w s),rqs (slot w c s t) (Cnd.candL w s))=_
 rw [Req.Requests_b1_r]
 dsimp only
 rw [decide_eq_false (show ¬ (((rqs (slot w c s t) (Cnd.candL w s)).length:Int)>200) by omega),cond_false]
theorem spells_cl(w:Wd)(c:Scr)(s:Sta)(t:Int):runL (LwC.Clds_b2 w c s t ()) c.spells.length 0 ([]:List Spl)=.nx (c.spells.filter shut):=by
 rw [runL_fold (z:=zSpl) (fun x e=>bif shut e then x++[e] else x) (fun i x hi=>?_),foldl_keep,List.nil_append]
 rw [LwC.Clds_b2,shut]
 cases ((c.spells.getD i zSpl).kind==3)<;>rfl
theorem names_loop(w:Wd)(c:Scr)(s:Sta)(t:Int)(i:Nat):LwC.Clds_b1 w c s t i ()=.rt Hd.head∨LwC.Clds_b1 w c s t i ()=.nx ()∧∀ n,n∈(Nms.Names (w.programmes.getD i zPrg).merit).1→bad n=false:=by
 rw [LwC.Clds_b1]
 have key:∀ n k,k+n=(Nms.Names (w.programmes.getD i zPrg).merit).1.length→(runL (LwC.Clds_b3 w c s t i ()) n k ()).fin (LwC.Clds_b3_r w c s t i ())=.rt Hd.head∨(runL (LwC.Clds_b3 w c s t i ()) n k ()).fin (LwC.Clds_b3_r w c s t i ())=.nx ()∧∀ j,k≤j→j<k+n→bad ((Nms.Names (w.programmes.getD i zPrg).merit).1.getD j ByteArray.empty)=false:=by
  intro n
  induction n with
  | zero=>intro k _;exact .inr ⟨rfl,fun j h1 h2=>by omega⟩
  | succ n ih =>
   intro k hk
   rw [runL]
   cases hb:bad ((Nms.Names (w.programmes.getD i zPrg).merit).1.getD k ByteArray.empty) with
   | true =>
    have:LwC.Clds_b3 w c s t i () k ()=.rt (.rt Hd.head):=by rw [LwC.Clds_b3];rw [bad] at hb;rw [hb];rfl
    rw [this];exact .inl rfl
   | false =>
    have:LwC.Clds_b3 w c s t i () k ()=.nx ():=by rw [LwC.Clds_b3];rw [bad] at hb;rw [hb];rfl
    rw [this]
    rcases ih (k+1) om with h | ⟨h1,h2⟩
    ·exact .inl h
    ·refine .inr ⟨h1,fun j g1 g2=>?_⟩
     by_cases e:j=k
     ·rw [e];exact hb
     ·exact h2 j om om
 rcases key (Nms.Names (w.programmes.getD i zPrg).merit).1.length 0 om with h | ⟨h1,h2⟩
 ·exact .inl h
 ·refine .inr ⟨h1,fun n hn=>?_⟩
  obtain ⟨j,hj,rfl⟩:=mem_getD (z:=ByteArray.empty) hn
  exact h2 j om om
theorem progs_loop(w:Wd)(c:Scr)(s:Sta)(t:Int):∀ n i,i+n=w.programmes.length→runL (LwC.Clds_b1 w c s t) n i ()=.rt Hd.head∨runL (LwC.Clds_b1 w c s t) n i ()=.nx ()∧∀ j,i≤j→j<i+n→∀ n,n∈(Nms.Names (w.programmes.getD j zPrg).merit).1→bad n=false:=by
 intro n
 induction n with
 | zero=>intro i _;exact .inr ⟨rfl,fun j h1 h2=>by omega⟩
 | succ n ih =>
  intro i hi
  rw [runL]
  rcases names_loop w c s t i with h | ⟨h,hb⟩
  ·rw [h];exact .inl rfl
  ·rw [h]
   rcases ih (i+1) om with h | ⟨h1,h2⟩
   ·exact .inl h
   ·refine .inr ⟨h1,fun j g1 g2=>?_⟩
    by_cases e:j=i
    ·rw [e];exact hb
    ·exact h2 j om om
set_option maxRecDepth 100000 in
theorem Clds_true (w:Wd) (c:Scr) (s:Sta) (t:Int):LwC.Clds w c s t=true:=by
 rw [LwC.Clds]
 cases hfew:(!(Lw.few w c s)) with
 | true=>exact head_true
 | false =>
  rw [cond_false]
  rcases progs_loop w c s t w.programmes.length 0 om with h | ⟨h,hb⟩
  ·rw [h];exact head_true
  ·rw [h]
   show LwC.Clds_b1_r w c s t ()=true
   rw [LwC.Clds_b1_r]
   cases he:((Req.Requests w c s t).2.2 != 0) with
   | true=>exact head_true
   | false =>
    have he0:(Req.Requests w c s t).2.2=0:=by simpa using he
    have hn:NoBad w:=fun i hv j hj h2=>by
     by_cases hi:i<w.programmes.length
     ·exact hb i (Nat.zero_le _) om _ (names_mem hv hj h2)
     ·rw [gE,List.getElem?_eq_none om] at hj
      exact absurd hj (by simp [zPrg])
    rw [cond_false,spells_cl]
    show LwC.Clds_b2_r w c s t () (c.spells.filter shut)=true
    rw [LwC.Clds_b2_r,head_true]
    show (((true&&(((Req.Requests w (clC c) s t).2.2)==0))&&(Hd.SameRequests ((Req.Requests w c s t).1) ((Req.Requests w (clC c) s t).1)))&&(Hd.SameExclusions ((Req.Requests w c s t).2.1) ((Req.Requests w (clC c) s t).2.1)))=true
    rw [req_cl he0 hn,he0,sameRq_refl,sameEx_refl]
    rfl
theorem clouds(w:Wd)(c:Scr)(s:Sta)(t:Int):FCall Tryz.prog 9 [.agg (encWd w),.agg (encScr c),.agg (encSta s),vI t] (.v (vB true)):=by
 have:=LwC.Clds_c w c s t
 rw [Clds_true] at this
 exact this
end Go.Proofs.YtidbmbpeblmliaaGreatDoor.Pl
