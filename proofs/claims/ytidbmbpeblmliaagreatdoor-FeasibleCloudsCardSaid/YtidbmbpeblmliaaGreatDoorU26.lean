/- Part of the proof of the statement that the claim's last text names: contracts of functions and laws of the symbolic layer. -/
import Derived.Test.YtidbmbpeblmliaaGreatDoorU14
import Derived.Test.YtidbmbpeblmliaaGreatDoorU25
import Derived.Test.YtidbmbpeblmliaaGreatDoorU13
set_option linter.unusedVariables false
set_option linter.unusedSimpArgs false
namespace Go.Proofs.YtidbmbpeblmliaaGreatDoor.Cnd
open Go.Sym Go.Proofs.YtidbmbpeblmliaaGreatDoor
def crs(s:Sta)(i k:Nat):Cs:=(s.courses.getD i []).getD k zCs
def cOne(w:Wd)(s:Sta)(i k:Nat):List (Rq×Cs):=if (crs s i k).over then [] else [(⟨i,(w.programmes.getD i zPrg).tiles.getD k 0,((w.programmes.getD i zPrg).seq.l.getD (crs s i k).next.toNat zStp).f,0,false⟩,crs s i k)]
def candT(w:Wd)(s:Sta)(i:Nat):Nat→List (Rq×Cs)
 | 0=>[]
 | k+1=>candT w s i k++cOne w s i k
def candP(w:Wd)(s:Sta):Nat→List (Rq×Cs)
 | 0=>[]
 | i+1=>candP w s i++candT w s i (w.programmes.getD i zPrg).tiles.length
def oOne(s:Sta)(n:Nat):Rq×Cs:=(⟨(s.opn.getD n zFol).prog,(s.opn.getD n zFol).tile,(s.opn.getD n zFol).filter,0,true⟩,zCs)
def candO(s:Sta):Nat→List (Rq×Cs)
 | 0=>[]
 | n+1=>candO s n++[oOne s n]
def candL(w:Wd)(s:Sta):List (Rq×Cs):=candP w s w.programmes.length++candO s s.opn.length
def encRC(a:Rq×Cs):List CV:=[.agg (encRq a.1),.agg (encCs a.2)]
def candX(w:Wd)(s:Sta):List (List CV):=(candL w s).map encRC
theorem candT_mono(w:Wd)(s:Sta)(i k m:Nat):∃ r,candT w s i (k+m)=candT w s i k++r:=by
 induction m with
 | zero=>exact ⟨[],by simp⟩
 | succ m ih=>obtain ⟨r,hr⟩:=ih;exact ⟨r++cOne w s i (k+m),by rw [← Nat.add_assoc,candT,hr,List.append_assoc]⟩
theorem candP_mono(w:Wd)(s:Sta)(k m:Nat):∃ r,candP w s (k+m)=candP w s k++r:=by
 induction m with
 | zero=>exact ⟨[],by simp⟩
 | succ m ih=>obtain ⟨r,hr⟩:=ih;exact ⟨r++candT w s (k+m) _,by rw [← Nat.add_assoc,candP,hr,List.append_assoc]⟩
theorem candO_mono(s:Sta)(k m:Nat):∃ r,candO s (k+m)=candO s k++r:=by
 induction m with
 | zero=>exact ⟨[],by simp⟩
 | succ m ih=>obtain ⟨r,hr⟩:=ih;exact ⟨r++[oOne s (k+m)],by rw [← Nat.add_assoc,candO,hr,List.append_assoc]⟩
theorem candO_len(s:Sta):∀ n,(candO s n).length=n
 | 0=>rfl
 | n+1=>by rw [candO,List.length_append,candO_len s n];rfl
theorem getD_mid{α:Type}(f:α→List CV)(l:List α)(a:α)(r:List α):l.length<((l++a :: r).map f).length∧((l++a :: r).map f).getD l.length []=f a:=by
 refine ⟨by simp,?_⟩
 simp [gE]
theorem cand_at{w:Wd}{s:Sta}{i k:Nat}(hi:i<w.programmes.length)(hk:k<(w.programmes.getD i zPrg).tiles.length)(ho:(crs s i k).over=false):
  (candP w s i++candT w s i k).length<(candX w s).length∧(candX w s).getD (candP w s i++candT w s i k).length []=encRC (⟨i,(w.programmes.getD i zPrg).tiles.getD k 0,((w.programmes.getD i zPrg).seq.l.getD (crs s i k).next.toNat zStp).f,0,false⟩,crs s i k):=by
 obtain ⟨r1,h1⟩:=candT_mono w s i (k+1) ((w.programmes.getD i zPrg).tiles.length - (k+1))
 obtain ⟨r2,h2⟩:=candP_mono w s (i+1) (w.programmes.length - (i+1))
 rw [show k+1+((w.programmes.getD i zPrg).tiles.length - (k+1))=(w.programmes.getD i zPrg).tiles.length by omega] at h1
 rw [show i+1+(w.programmes.length - (i+1))=w.programmes.length by omega] at h2
 have e:candL w s=(candP w s i++candT w s i k)++(⟨i,(w.programmes.getD i zPrg).tiles.getD k 0,((w.programmes.getD i zPrg).seq.l.getD (crs s i k).next.toNat zStp).f,0,false⟩,crs s i k) :: (r1++r2++candO s s.opn.length):=by
  rw [candL,h2,candP,h1,candT,cOne,if_neg (by rw [ho];exact Bool.false_ne_true)]
  simp only [List.append_assoc,List.cons_append,List.nil_append]
 rw [candX,e]
 exact getD_mid _ _ _ _
theorem cand_at2{w:Wd}{s:Sta}{n:Nat}(hn:n<s.opn.length):
  (candP w s w.programmes.length).length+n<(candX w s).length∧(candX w s).getD ((candP w s w.programmes.length).length+n) []=encRC (oOne s n):=by
 obtain ⟨r,h⟩:=candO_mono s (n+1) (s.opn.length - (n+1))
 rw [show n+1+(s.opn.length - (n+1))=s.opn.length by omega] at h
 have e:candL w s=(candP w s w.programmes.length++candO s n)++oOne s n :: r:=by
  rw [candL,h,candO]
  simp only [List.append_assoc,List.cons_append,List.nil_append]
 have:=getD_mid encRC (candP w s w.programmes.length++candO s n) (oOne s n) r
 rw [← e] at this
 rw [List.length_append,candO_len] at this
 exact this
def cS1(w:Wd)(s:Sta)(k:Nat)(x:Int×Nat):S:=
 mkI 76 [(0,.b (.v (.c (.yld 0)))),(1,.b (.v (.c (.kptr (encWd w) 0)))),(2,.b (.v (.c (.kptr (encSta s) 0)))),(12,.b (.v (.c (.lst 10 w.programmes.length (elM encPrg zPrg w.programmes))))),(13,.b (.v (vI w.programmes.length))),(14,.b (.v (vI x.1)))] [(0,.cnt x.2 (candX w s) k)]
def cS2(w:Wd)(s:Sta)(k:Nat)(i:Int)(x:Int×Nat):S:=
 mkI 76 [(0,.b (.v (.c (.yld 0)))),(1,.b (.v (.c (.kptr (encWd w) 0)))),(2,.b (.v (.c (.kptr (encSta s) 0)))),(4,.b (.v (vI i))),(5,.b (.v (.c (.kptr (encPrg (w.programmes.getD i.toNat zPrg)) 0)))),(12,.b (.v (.c (.lst 10 w.programmes.length (elM encPrg zPrg w.programmes))))),(13,.b (.v (vI w.programmes.length))),(14,.b (.v (vI i))),(20,.b (.v (.c (.lst 1 (((w.programmes.getD i.toNat zPrg).tiles).length) (elM Sym.encI 0 ((w.programmes.getD i.toNat zPrg).tiles)))))),(21,.b (.v (vI (w.programmes.getD i.toNat zPrg).tiles.length))),(22,.b (.v (vI x.1)))] [(0,.cnt x.2 (candX w s) k)]
def cS3(w:Wd)(s:Sta)(k:Nat)(x:Int×Nat):S:=
 mkI 76 [(0,.b (.v (.c (.yld 0)))),(58,.b (.v (.c (.lst 5 s.opn.length (elM encFol zFol s.opn))))),(59,.b (.v (vI s.opn.length))),(60,.b (.v (vI x.1)))] [(0,.cnt x.2 (candX w s) k)]
theorem cand_it(w:Wd)(s:Sta)(hw:w.programmes.length≤1000∧∀ i,i<w.programmes.length→(w.programmes.getD i zPrg).tiles.length≤1000000)(hc:s.courses.length=w.programmes.length)(ho:s.opn.length≤1000000) 
  (hs:∀ i k:Nat,i<w.programmes.length→k<(w.programmes.getD i zPrg).tiles.length→k<(s.courses.getD i []).length∧((crs s i k).over=false→0≤(crs s i k).next∧(crs s i k).next<((w.programmes.getD i zPrg).seq.l.length:Int))) :
  FIter Tryz.prog 115 [.kptr (encWd w) 0,.kptr (encSta s) 0] ((candL w s).map encRC):=by
 show FIter Tryz.prog 115 [.kptr (encWd w) 0,.kptr (encSta s) 0] (candX w s)
 refine fiter_of Tryz.func115 rfl kr rfl (fun k B hk hB=>?_)
 refine u0 ?_
 refine rBlock ?_
 refine rLoop (cS1 w s k) (fun x=>0≤x.1∧x.1≤w.programmes.length∧x.2=(candP w s x.1.toNat).length∧x.2≤k) (fun x=>(w.programmes.length - x.1).toNat) (0,0) (wkTo [0,1,2,12,13,14] [] kr) ⟨om,om,rfl,Nat.zero_le _⟩ ?_
 rintro ⟨i,j⟩ ⟨h0,h1,h2,h3⟩
 simp only at h0 h1 h2 h3
 refine u0 ?_
 refine uc (decide (i<(w.programmes.length:Int))) (fun hi=>?_) (fun hi=>?_)
 ·have hi:i<w.programmes.length:=of_decide_eq_true hi
  have hw2:=hw.2 i.toNat om
  refine rBlock ?_
  refine uq [] [@pu (0≤i∧i<(w.programmes.length:Int)) ⟨h0,hi⟩] ?_
  refine u0 ?_
  refine frzBoxW hB.2 5 5 0 (encPrg (w.programmes.getD i.toNat zPrg)) [0,1,2,4,12,13,14,20,21,22] [] kr kr kr ?_ nofun
  refine rBlock ?_
  refine rLoop (cS2 w s k i) (fun x=>0≤x.1∧x.1≤(w.programmes.getD i.toNat zPrg).tiles.length∧x.2=(candP w s i.toNat++candT w s i.toNat x.1.toNat).length∧x.2≤k) (fun x=>((w.programmes.getD i.toNat zPrg).tiles.length - x.1).toNat) (0,j) (wkTo [0,1,2,4,5,12,13,14,20,21,22] [] kr) ⟨om,om,by rw [h2];show _=(candP w s i.toNat++[]).length;rw [List.append_nil],h3⟩ ?_
  rintro ⟨n,q⟩ ⟨g0,g1,g2,g3⟩
  simp only at g0 g1 g2 g3
  refine u0 ?_
  refine uc (decide (n<((w.programmes.getD i.toNat zPrg).tiles.length:Int))) (fun hn=>?_) (fun hn=>?_)
  ·have hn:n<(w.programmes.getD i.toNat zPrg).tiles.length:=of_decide_eq_true hn
   obtain ⟨hs1,hs2⟩:=hs i.toNat n.toNat om om
   refine rBlock ?_
   refine uq [] [@pu (0≤n∧n<((w.programmes.getD i.toNat zPrg).tiles.length:Int)) ⟨g0,hn⟩] ?_
   refine uq [] [@pu (0≤i∧i<(s.courses.length:Int)) ⟨h0,om⟩,@pu (0≤n∧n<((s.courses.getD i.toNat []).length:Int)) ⟨g0,om⟩] ?_
   have hask:(crs s i.toNat n.toNat).over=false→q<(candX w s).length∧q≤k∧(candX w s).getD q []=[.agg [cI i,cI ((w.programmes.getD i.toNat zPrg).tiles.getD n.toNat 0),cI ((w.programmes.getD i.toNat zPrg).seq.l.getD (crs s i.toNat n.toNat).next.toNat zStp).f,cI 0,.bool false],.agg (encCs (crs s i.toNat n.toNat))]:=by
    intro hf
    obtain ⟨e1,e2⟩:=cand_at (w:=w) (s:=s) (i:=i.toNat) (k:=n.toNat) om om hf
    rw [g2]
    refine ⟨e1,om,?_⟩
    rw [e2]
    simp only [encRC,encRq,show (i.toNat:Int)=i by omega]
   refine uq [(17,.mark)] [@pg (!(crs s i.toNat n.toNat).over) (0≤(crs s i.toNat n.toNat).next∧(crs s i.toNat n.toNat).next<((w.programmes.getD i.toNat zPrg).seq.l.length:Int)) (fun hg=>hs2 (by simpa using hg)),@pg (!(crs s i.toNat n.toNat).over) (q<(candX w s).length∧q≤k∧(candX w s).getD q []=[.agg [cI i,cI ((w.programmes.getD i.toNat zPrg).tiles.getD n.toNat 0),cI ((w.programmes.getD i.toNat zPrg).seq.l.getD (crs s i.toNat n.toNat).next.toNat zStp).f,cI 0,.bool false],.agg (encCs (crs s i.toNat n.toNat))]) (fun hg=>hask (by simpa using hg))] ?_
   refine uc (!(crs s i.toNat n.toNat).over&&!decide (q<k)) (fun h=>?_) (fun h=>?_)
   ·simp only [Bool.and_eq_true,Bool.not_eq_true',decide_eq_false_iff_not] at h
    obtain ⟨e1,e2,e3⟩:=hask h.1
    refine run_ret (blockR_ret (loopR_ret (blockR_ret (blockR_ret (loopR_ret (blockR_ret ⟨.inl rfl,?_⟩))))))
    refine Eq.trans (b:=some (some (.cnt (bif !(crs s i.toNat n.toNat).over then q+1 else q) (candX w s) k))) kr ?_
    rw [h.1,stopN_lt (show k<(candX w s).length by omega),show q=k by omega]
    rfl
   ·refine run_nil (blockR_normal ?_)
    refine u0 ?_
    have e:IntKind.i64.wrap (n+1)=n+1:=w64 _ om om
    refine run_nil (loopR_next (IntKind.i64.wrap (n+1),bif !(crs s i.toNat n.toNat).over then q+1 else q) (wkTo [0,1,2,4,5,12,13,14,20,21,22] [] kr) ?_ ?_)
    ·simp only [e]
     refine ⟨om,om,?_,?_⟩
     ·rw [show (n+1).toNat=n.toNat+1 by omega,candT,g2,cOne]
      cases (crs s i.toNat n.toNat).over<;>simp<;>omega
     ·revert h
      cases (crs s i.toNat n.toNat).over<;>simp<;>omega
    ·simp only [e];omega
  ·have hn:¬ n<(w.programmes.getD i.toNat zPrg).tiles.length:=of_decide_eq_false hn
   refine run_exit (loopR_exit (blockR_exit ?_))
   refine run_nil (blockR_normal ?_)
   refine u0 ?_
   have e:IntKind.i64.wrap (i+1)=i+1:=w64 _ om om
   refine run_nil (loopR_next (IntKind.i64.wrap (i+1),q) (wkTo [0,1,2,12,13,14] [] kr) ?_ ?_)
   ·simp only [e]
    refine ⟨om,om,?_,g3⟩
    rw [show (i+1).toNat=i.toNat+1 by omega,candP,g2,show n.toNat=(w.programmes.getD i.toNat zPrg).tiles.length by omega]
   ·simp only [e];omega
 ·have hi:¬ i<w.programmes.length:=of_decide_eq_false hi
  refine run_exit (loopR_exit (blockR_exit ?_))
  refine u0 ?_
  have hj:j=(candP w s w.programmes.length).length:=by rw [h2,show i.toNat=w.programmes.length by omega]
  refine rBlock ?_
  refine rLoop (cS3 w s k) (fun x=>0≤x.1∧x.1≤s.opn.length∧x.2=(candP w s w.programmes.length).length+x.1.toNat∧x.2≤k) (fun x=>(s.opn.length - x.1).toNat) (0,j) (wkTo [0,58,59,60] [] kr) ⟨om,om,hj,h3⟩ ?_
  rintro ⟨n,q⟩ ⟨g0,g1,g2,g3⟩
  simp only at g0 g1 g2 g3
  refine u0 ?_
  refine uc (decide (n<(s.opn.length:Int))) (fun hn=>?_) (fun hn=>?_)
  ·have hn:n<s.opn.length:=of_decide_eq_true hn
   refine rBlock ?_
   refine uq [] [@pu (0≤n∧n<(s.opn.length:Int)) ⟨g0,hn⟩] ?_
   have hask:q<(candX w s).length∧q≤k∧(candX w s).getD q []=[.agg [cI (s.opn.getD n.toNat zFol).prog,cI (s.opn.getD n.toNat zFol).tile,cI (s.opn.getD n.toNat zFol).filter,cI 0,.bool true],.agg [cI 0,cI 0,cI 0,.bool false]]:=by
    obtain ⟨e1,e2⟩:=cand_at2 (w:=w) (s:=s) (n:=n.toNat) om
    rw [← g2] at e1 e2
    exact ⟨e1,g3,e2⟩
   refine uq [] [@pu _ hask] ?_
   refine uc (!decide (q<k)) (fun h=>?_) (fun h=>?_)
   ·simp only [Bool.not_eq_true',decide_eq_false_iff_not] at h
    refine run_ret (blockR_ret (loopR_ret (blockR_ret ⟨.inl rfl,?_⟩)))
    refine Eq.trans (b:=some (some (.cnt (q+1) (candX w s) k))) kr ?_
    rw [stopN_lt (show k<(candX w s).length by have:=hask.1;omega),show q=k by omega]
   ·simp only [Bool.not_eq_false',decide_eq_true_eq] at h
    refine run_nil (blockR_normal ?_)
    refine u0 ?_
    have e:IntKind.i64.wrap (n+1)=n+1:=w64 _ om om
    refine run_nil (loopR_next (IntKind.i64.wrap (n+1),q+1) (wkTo [0,58,59,60] [] kr) ?_ ?_)
    ·simp only [e];refine ⟨om,om,om,om⟩
    ·simp only [e];omega
  ·have hn:¬ n<s.opn.length:=of_decide_eq_false hn
   refine run_exit (loopR_exit (blockR_exit ?_))
   refine run_nil ⟨.inr rfl,?_⟩
   refine Eq.trans (b:=some (some (.cnt q (candX w s) k))) kr ?_
   have el:(candX w s).length=(candP w s w.programmes.length).length+s.opn.length:=by rw [candX,List.length_map,candL,List.length_append,candO_len]
   have e:q=(candX w s).length:=by omega
   have e2:k=(candX w s).length:=by omega
   rw [e2,stopN_eq,e]
theorem candidates_c(w:Wd)(s:Sta):FCall Tryz.prog 39 [.agg (encWd w),.agg (encSta s)] (.v (.c (.clo 115 [.kptr (encWd w) 0,.kptr (encSta s) 0]))):=by
 refine ul Tryz.func39 rfl (fun B hB=>?_)
 refine uq [(0,.imm),(1,.imm)] [] ?_
 refine u0 ?_
 exact run_ret (ut (.v (.c (.clo 115 [.kptr (encWd w) 0,.kptr (encSta s) 0]))) rfl)
end Go.Proofs.YtidbmbpeblmliaaGreatDoor.Cnd
namespace Go.Proofs.YtidbmbpeblmliaaGreatDoor.Req
open Go.Sym Go.Proofs.YtidbmbpeblmliaaGreatDoor
structure CandOk (w:Wd) (s:Sta) (t:Int):Prop where
 progs:w.programmes.length≤1000∧∀ i,i<w.programmes.length→(w.programmes.getD i zPrg).tiles.length≤1000000
 courses:s.courses.length=w.programmes.length
 opn:s.opn.length≤1000000
 steps:∀ i k:Nat,i<w.programmes.length→k<(w.programmes.getD i zPrg).tiles.length→k<(s.courses.getD i []).length∧((Cnd.crs s i k).over=false→0≤(Cnd.crs s i k).next∧(Cnd.crs s i k).next<((w.programmes.getD i zPrg).seq.l.length:Int))
 parts:w.partners.length≤1000
 tels:w.telescopes.length=s.rigs.length
 few:(Cnd.candL w s).length≤1000000
 el:∀ j:Nat,j<(Cnd.candL w s).length→0≤((Cnd.candL w s).getD j (zRq,zCs)).1.prog∧((Cnd.candL w s).getD j (zRq,zCs)).1.prog<(w.programmes.length:Int)∧0≤((Cnd.candL w s).getD j (zRq,zCs)).1.tile∧((Cnd.candL w s).getD j (zRq,zCs)).1.tile<512
theorem valid_lens{w:Wd}(h:Fea.Valid w=true):(1≤w.telescopes.length∧w.telescopes.length≤6)∧(1≤w.partners.length∧w.partners.length≤16)∧1≤w.programmes.length∧w.programmes.length≤64:=by
 have h2:=(bif_f (by rwa [Fea.Valid] at h)).1
 simp only [Fea.within1,Fea.within2,Fea.within3,Fea.within4,Bool.or_eq_false_iff,Bool.not_eq_false',Bool.and_eq_true,decide_eq_true_eq] at h2
 omega
theorem parts_of{w:Wd}(h:Fea.Valid w=true):w.partners.length≤1000:=by have:=valid_lens h;omega
theorem runL_in{ρ:Type}{bd:Nat→Unit→Fl Unit (Fl Unit Bool)}(hb:∀ j,bd j ()=.nx ()∨bd j ()=.rt (.rt false)):∀ n i,((runL bd n i ()).fin (fun _=>.nx ())=.nx ()∧∀ j,i≤j→j<i+n→bd j ()=.nx ())∨(runL bd n i ()).fin (fun _=>.nx ())=.rt false
 | 0,i=>.inl ⟨rfl,fun j h1 h2=>by omega⟩
 | n+1,i=>by
  rw [runL]
  rcases hb i with e | e
  ·rw [e]
   rcases runL_in (ρ:=ρ) hb n (i+1) with ⟨h1,h2⟩ | h
   ·refine .inl ⟨h1,fun j g1 g2=>?_⟩
    rcases Nat.eq_or_lt_of_le g1 with rfl | g
    ·exact e
    ·exact h2 j g om
   ·exact .inr h
  ·rw [e];exact .inr rfl
theorem bif_or2(b:Bool):(bif b then (Fl.rt (Fl.rt false):Fl Unit (Fl Unit Bool)) else .nx ())=.nx ()∨(bif b then (Fl.rt (Fl.rt false):Fl Unit (Fl Unit Bool)) else .nx ())=.rt (.rt false):=by cases b<;>simp
theorem bif_nx2{b:Bool}(h:(bif b then (Fl.rt (Fl.rt false):Fl Unit (Fl Unit Bool)) else .nx ())=.nx ()):b=false:=by cases b<;>simp_all
theorem fits_facts{w:Wd}{s:Sta}(h:Fea.fits w s=true):s.rigs.length=w.telescopes.length∧s.courses.length=w.programmes.length∧(0≤s.mom∧s.mom≤38399)∧Fea.open_ w s.opn=true ∧
  ∀ i,i<w.programmes.length→(s.courses.getD i []).length=(w.programmes.getD i zPrg).tiles.length∧∀ k,k<(s.courses.getD i []).length→Cad.valid (w.programmes.getD i zPrg).seq ((s.courses.getD i []).getD k zCs)=true:=by
 obtain ⟨h1,h2⟩:=bif_f (by rwa [Fea.fits] at h)
 have h3:=runL_end (k:=Fea.fits_b1_r w s) (fun j=>bool_or _) _ _ h2
 rw [Fea.fits_b1_r] at h3
 have hb:∀ j,(Fea.fits_b2 w s () j ()=.nx ()∧(s.courses.getD j []).length=(w.programmes.getD j zPrg).tiles.length∧∀ k,k<(s.courses.getD j []).length→Cad.valid (w.programmes.getD j zPrg).seq ((s.courses.getD j []).getD k zCs)=true)∨Fea.fits_b2 w s () j ()=.rt false:=fun j=>by
  rw [Fea.fits_b2]
  cases hc:(((s.courses.getD j []).length:Int) != (((w.programmes.getD j zPrg).tiles).length:Int)) with
  | true=>exact .inr rfl
  | false =>
   rcases runL_in (ρ:=Unit) (bd:=Fea.fits_b3 w s () j ()) (fun k=>bif_or2 _) (s.courses.getD j []).length 0 with ⟨g1,g2⟩ | g
   ·refine .inl ⟨g1,by rw [bne_eq_false_iff_eq] at hc;omega,fun k hk=>?_⟩
    have:=bif_nx2 (g2 k (Nat.zero_le _) om)
    exact Cad.ready_valid this
   ·exact .inr g
 have h4:=runL_true (fun j=>(hb j).imp (fun x=>x.1) id) _ _ h3
 have h5:=runL_end (k:=Fea.fits_b2_r w s ()) (fun j=>(hb j).imp (fun x=>x.1) id) _ _ h3
 simp only [Fea.fits_b2_r,Bool.and_eq_true] at h5
 simp only [Bool.or_eq_false_iff,decide_eq_false_iff_not,Bool.not_eq_false',bne_eq_false_iff_eq] at h1
 refine ⟨om,om,?_,h5.1.2,fun i hi=>?_⟩
 ·have:=h1.1.1.1.1.1
  simp [Fea.moment] at this
  omega
 ·rcases hb i with g | g
  ·exact g.2
  ·have:=h4 i (Nat.zero_le _) om
   rw [g] at this;cases this
theorem prg_facts{p:Prg}(h:Prg.Valid p=true):(1≤p.tiles.length∧p.tiles.length≤1000)∧∀ k,k<p.tiles.length→0≤p.tiles.getD k 0∧p.tiles.getD k 0<512:=by
 rw [Prg.Valid] at h
 obtain ⟨h1,_⟩:=bif_f h
 simp only [Bool.or_eq_false_iff,decide_eq_false_iff_not,Bool.not_eq_false'] at h1
 obtain ⟨⟨⟨_,h2⟩,h3⟩,h4⟩:=h1
 refine ⟨om,fun k hk=>?_⟩
 have h5:=bool_nx (runL_true (k:=Prg.in'_b1_r 511 p.tiles) (fun j=>bool_or _) _ _ h4 k (Nat.zero_le _) om)
 simp only [Bool.or_eq_false_iff,decide_eq_false_iff_not] at h5
 omega
theorem valid_prg{w:Wd}(h:Fea.Valid w=true):∀ i,i<w.programmes.length→Prg.Valid (w.programmes.getD i zPrg)=true:=fun i hi=>by
 have h1:=(bif_f (by rwa [Fea.Valid] at h)).2
 have h2:=runL_end (k:=Fea.Valid_b1_r w) (fun j=>bool_or _) _ _ h1
 rw [Fea.Valid_b1_r] at h2
 have h3:=runL_end (k:=Fea.Valid_b2_r w ()) (fun j=>bool_or _) _ _ h2
 rw [Fea.Valid_b2_r] at h3
 have h4:=bool_nx (runL_true (k:=Fea.Valid_b3_r w () ()) (fun j=>bool_or _) _ _ h3 i (Nat.zero_le _) om)
 rw [Bool.or_eq_false_iff,Bool.not_eq_false'] at h4
 exact h4.1
theorem open_facts{w:Wd}{l:List Fol}(h:Fea.open_ w l=true):l.length≤200∧∀ i,i<l.length→(0≤(l.getD i zFol).prog∧(l.getD i zFol).prog<(w.programmes.length:Int))∧0≤(l.getD i zFol).tile∧(l.getD i zFol).tile<512:=by
 have h1:=runL_true (fun j=>bool_or _) _ _ h
 have h2:=runL_end (k:=Fea.open__b1_r w l) (fun j=>bool_or _) _ _ h
 simp only [Fea.open__b1_r,Bool.and_eq_true,decide_eq_true_eq] at h2
 refine ⟨om,fun i hi=>?_⟩
 have:=bool_nx (h1 i (Nat.zero_le _) om)
 simp only [Bool.or_eq_false_iff,decide_eq_false_iff_not] at this
 omega
theorem candT_mem{w:Wd}{s:Sta}{i:Nat}:∀ k,∀ a,a∈Cnd.candT w s i k→a.1.prog=i∧∃ m,m<k∧a.1.tile=(w.programmes.getD i zPrg).tiles.getD m 0
 | 0,a,ha=>by cases ha
 | k+1,a,ha=>by
  rw [Cnd.candT] at ha
  rcases List.mem_append.1 ha with ha | ha
  ·obtain ⟨h1,m,h2,h3⟩:=candT_mem k a ha
   exact ⟨h1,m,om,h3⟩
  ·rw [Cnd.cOne] at ha
   split at ha
   ·cases ha
   ·rw [List.mem_singleton.1 ha];exact ⟨rfl,k,om,rfl⟩
theorem candP_mem{w:Wd}{s:Sta}:∀ n,∀ a,a∈Cnd.candP w s n→∃ i m,i<n∧m<(w.programmes.getD i zPrg).tiles.length∧a.1.prog=(i:Int)∧a.1.tile=(w.programmes.getD i zPrg).tiles.getD m 0
 | 0,a,ha=>by cases ha
 | n+1,a,ha=>by
  rw [Cnd.candP] at ha
  rcases List.mem_append.1 ha with ha | ha
  ·obtain ⟨i,m,h1,h2⟩:=candP_mem n a ha
   exact ⟨i,m,om,h2⟩
  ·obtain ⟨h1,m,h2,h3⟩:=candT_mem _ a ha
   exact ⟨n,m,om,h2,h1,h3⟩
theorem candO_mem{s:Sta}:∀ n,∀ a,a∈Cnd.candO s n→∃ i,i<n∧a=Cnd.oOne s i
 | 0,a,ha=>by cases ha
 | n+1,a,ha=>by
  rw [Cnd.candO] at ha
  rcases List.mem_append.1 ha with ha | ha
  ·obtain ⟨i,h1,h2⟩:=candO_mem n a ha
   exact ⟨i,om,h2⟩
  ·exact ⟨n,om,List.mem_singleton.1 ha⟩
theorem candT_len{w:Wd}{s:Sta}{i:Nat}:∀ k,(Cnd.candT w s i k).length≤k
 | 0=>Nat.le_refl _
 | k+1=>by
  have:=candT_len (w:=w) (s:=s) (i:=i) k
  rw [Cnd.candT,List.length_append,Cnd.cOne]
  split<;>simp<;>omega
theorem candP_len{w:Wd}{s:Sta}{T:Nat}(h:∀ i,i<w.programmes.length→(w.programmes.getD i zPrg).tiles.length≤T):∀ n,n≤w.programmes.length→(Cnd.candP w s n).length≤n*T
 | 0,_=>Nat.zero_le _
 | n+1,hn=>by
  have h1:=candP_len (s:=s) h n om
  have h2:=candT_len (w:=w) (s:=s) (i:=n) (w.programmes.getD n zPrg).tiles.length
  have h3:=h n om
  rw [Cnd.candP,List.length_append,Nat.add_mul,Nat.one_mul]
  omega
theorem cand_ok{w:Wd}{s:Sta}{t:Int}(h1:Fea.Valid w=true)(h2:Fea.fits w s=true):CandOk w s t:=by
 have hl:=valid_lens h1
 have hp:=fun i hi=>prg_facts (valid_prg h1 i hi)
 obtain ⟨f1,f2,f3,f4,f5⟩:=fits_facts h2
 obtain ⟨o1,o2⟩:=open_facts f4
 refine ⟨⟨om,fun i hi=>by have:=(hp i hi).1;omega⟩,f2,om,fun i k hi hk=>?_,om,f1.symm,?_,fun j hj=>?_⟩
 ·obtain ⟨g1,g2⟩:=f5 i hi
  exact ⟨om,fun ho=>Cad.valid_next (g2 k om) ho⟩
 ·have:=candP_len (w:=w) (s:=s) (T:=1000) (fun i hi=>(hp i hi).1.2) w.programmes.length (Nat.le_refl _)
  have h3:w.programmes.length*1000≤64*1000:=Nat.mul_le_mul_right _ hl.2.2.2
  rw [Cnd.candL,List.length_append,Cnd.candO_len]
  omega
 ·have hm:(Cnd.candL w s).getD j (zRq,zCs)∈Cnd.candL w s:=by simp [gE,hj]
  generalize (Cnd.candL w s).getD j (zRq,zCs)=a at hm
  rw [Cnd.candL] at hm
  rcases List.mem_append.1 hm with hm | hm
  ·obtain ⟨i,m,g1,g2,g3,g4⟩:=candP_mem _ a hm
   have:=(hp i g1).2 m g2
   rw [g3,g4];omega
  ·obtain ⟨i,g1,rfl⟩:=candO_mem _ a hm
   have:=o2 i g1
   simp only [Cnd.oOne]
   omega
theorem cand_it(w:Wd)(s:Sta)(h:CandOk w s 0):FIter Tryz.prog 115 [.kptr (encWd w) 0,.kptr (encSta s) 0] ((Cnd.candL w s).map Cnd.encRC):=Cnd.cand_it w s h.progs h.courses h.opn h.steps
def Candidates_b1_r(w:Wd)(s:Sta)(t:Int)(lx1:(List Rq)):(List Rq)×Int:=
 (lx1,0)
def Candidates_b1(w:Wd)(s:Sta)(t:Int)(li1:Nat)(lx1:(List Rq)):Fl (List Rq) ((List Rq)×Int):=
 .nx (lx1++[((Cnd.candL w s).getD li1 (zRq,zCs)).1])
def Candidates_b1_s(w:Wd)(s:Sta)(t:Int)(lx1:(List Rq))(n35:Nat)(r35:List (List C)):S:=mkS 40 [(8,.b (.v (.c (.ptr 8 0))))] [(8,.pcells [.row 35 n35]),(35,.row 60 5 r35)]
def Candidates(w:Wd)(s:Sta)(t:Int):(List Rq)×Int:=
 (bif ((((!(Fea.Valid w))||(!(Fea.fits w s)))||(decide (t<0)))||(decide (t≥(w.telescopes.length:Int)))) then ([],1) else (runL (Candidates_b1 w s t) ((Cnd.candL w s).length) 0 ([]:List Rq)).fin (Candidates_b1_r w s t))
theorem Candidates_c(w:Wd)(s:Sta)(t:Int):FCall Tryz.prog 12 [.agg (encWd w),.agg (encSta s),vI t] (.tup [.c (.lst 5 (((Candidates w s t).1).length) (elM encRq zRq ((Candidates w s t).1))),vI ((Candidates w s t).2)]):=by
 have ee0:=Candidates.eq_1 w s t
 refine ul Tryz.func12 rfl (fun B hB=>?_)
 refine uq [(0,.imm),(1,.imm)] [] ?_
 have cc1:=Fea.Valid_c w
 refine uq [(1,hcon cc1),(6,.call (.v (vB (Fea.fits w s))))] [pu cc1,@pg (!(!(Fea.Valid w))) (_) (fun hg=>by exact Fea.fits_c w s (by exact parts_of (by revert hg;cases Fea.Valid w<;>simp)))] ?_
 refine ud ee0 (fun hh1 ee1=>?_) (fun hh1 ee2=>?_)
 ·refine u0 ?_
  refine run_weaken (wk_nilLst 6 5 (elM encRq zRq []) kr) ?_ nofun
  exact run_ret (ut _ (by rw [ee1]<;>rfl))
 ·have hK:CandOk w s 0:=cand_ok (by revert hh1;cases Fea.Valid w<;>simp) (by revert hh1;cases Fea.Valid w<;>cases Fea.fits w s<;>simp)
  have hK2:=hK.few
  refine u0 ?_
  have cc3:=Cnd.candidates_c w s
  refine us 2 cc3 ?_
  refine rBlock ?_
  refine run_weaken (wk_nilCell 8 0 35 60 5 [.nil] kr kr kr om) ?_ nofun
  refine rRangeX hB kr (Cnd.candL w s) (zRq,zCs) (fun a:Rq×Cs=>[.agg (encRq a.1),.agg (encCs a.2)]) (cand_it w s (by exact hK)) (fun _=>rfl) (fun qz=>Candidates_b1_s w s t qz qz.length (qz.map encRq)) (Candidates_b1 w s t) (fun li1 lx1=>lx1.length≤li1) ([]:List Rq) (rowW (fun qn qr=>Candidates_b1_s w s t ([]:List Rq) qn qr) 0 [] ([]:List Rq) (rfl) (rfl) (wkTo [8] [] kr)) (by simp) (fun i x y hi hJ hb=>?_) (fun _=>by kernel_rfl) (fun li1 lx1 hi1 hJ1 hr1 B1=>?_) (fun lx1 hJ1 hr1=>?_)
  ·simp only [Candidates_b1,cond_eq_ite] at hb
   repeat' split at hb
   all_goals first | (cases hb;done) | (cases hb;simp;omega)
  ·have ee4:=Candidates_b1.eq_1 w s t li1 lx1
   refine u0 ?_
   refine run_nil ⟨rfl,kr,fun B2=>?_⟩
   refine rBlock ?_
   refine uq [] [@pu (lx1.length=(lx1.map encRq).length) (rowN rfl rfl),uo ((lx1.length+1)*(40+1)≤140737488355328),@pu (1=[(encRq (((Cnd.candL w s).getD li1 (zRq,zCs)).1))].length) (rowN (show 1=List.length [((Cnd.candL w s).getD li1 (zRq,zCs)).1] from rfl) (show [(encRq (((Cnd.candL w s).getD li1 (zRq,zCs)).1))]=List.map encRq [((Cnd.candL w s).getD li1 (zRq,zCs)).1] from rfl))] ?_
   refine run_nil (blockR_normal ?_)
   exact run_nil (⟨kr,lx1++[((Cnd.candL w s).getD li1 (zRq,zCs)).1],rowW (fun qn qr=>Candidates_b1_s w s t (lx1++[((Cnd.candL w s).getD li1 (zRq,zCs)).1]) qn qr) (lx1.length+1) ((lx1.map encRq)++[(encRq (((Cnd.candL w s).getD li1 (zRq,zCs)).1))]) (lx1++[((Cnd.candL w s).getD li1 (zRq,zCs)).1]) (rowBn rfl (show 1=List.length [((Cnd.candL w s).getD li1 (zRq,zCs)).1] from rfl)) (rowB rfl (show [(encRq (((Cnd.candL w s).getD li1 (zRq,zCs)).1))]=List.map encRq [((Cnd.candL w s).getD li1 (zRq,zCs)).1] from rfl)) (wkTo [8] [9,37] kr),ee4⟩)
  ·have ee3:=(fin_nx ee2 hr1).trans (Candidates_b1_r.eq_1 w s t lx1)
   refine run_nil (blockR_normal ?_)
   refine u0 ?_
   refine frzRow hB 6 35 lx1.length 60 5 (lx1.map encRq) (elM encRq zRq lx1) [7] [8] kr kr (len_row _ _) (elM_row _ _ _) kr ?_ nofun
   exact run_ret (ut _ (by rw [ee3]<;>rfl))
def Requests_b1_r(w:Wd)(c:Scr)(s:Sta)(t:Int)(lx1:(List Exc)×(List Rq)):(List Rq)×(List Exc)×Int:=
 (bif (decide ((lx1.2.length:Int)>200)) then ([],[],2) else (lx1.2,lx1.1,0))
def Requests_b1(w:Wd)(c:Scr)(s:Sta)(t:Int)(li1:Nat)(lx1:(List Exc)×(List Rq)):Fl ((List Exc)×(List Rq)) ((List Rq)×(List Exc)×Int):=
 (bif ((Slo.judge (⟨w,c,s,t,(⟨(((Wea.At c.spells s.mom).1).clear),((Wea.At c.spells s.mom).1).seeing,((Wea.At c.spells s.mom).1).opn⟩:Cnd),(⟨(s.rigs.getD t.toNat zRg).pos,(s.rigs.getD t.toNat zRg).filter,(((s.rigs.getD t.toNat zRg).stuck)||((Ovr.Stuck c.overrides t s.mom).1))⟩:Rg)⟩:Slt) (((Cnd.candL w s).getD li1 (zRq,zCs)).1) (((Cnd.candL w s).getD li1 (zRq,zCs)).2)) != 0) then .nx (lx1.1++[(⟨(((Cnd.candL w s).getD li1 (zRq,zCs)).1).prog,(((Cnd.candL w s).getD li1 (zRq,zCs)).1).tile,(((Cnd.candL w s).getD li1 (zRq,zCs)).1).filter,(((Cnd.candL w s).getD li1 (zRq,zCs)).1).alert,(Slo.judge (⟨w,c,s,t,(⟨(((Wea.At c.spells s.mom).1).clear),((Wea.At c.spells s.mom).1).seeing,((Wea.At c.spells s.mom).1).opn⟩:Cnd),(⟨(s.rigs.getD t.toNat zRg).pos,(s.rigs.getD t.toNat zRg).filter,(((s.rigs.getD t.toNat zRg).stuck)||((Ovr.Stuck c.overrides t s.mom).1))⟩:Rg)⟩:Slt) (((Cnd.candL w s).getD li1 (zRq,zCs)).1) (((Cnd.candL w s).getD li1 (zRq,zCs)).2))⟩:Exc)],lx1.2) else .nx (lx1.1,lx1.2++[(⟨(((Cnd.candL w s).getD li1 (zRq,zCs)).1).prog,(((Cnd.candL w s).getD li1 (zRq,zCs)).1).tile,(((Cnd.candL w s).getD li1 (zRq,zCs)).1).filter,(Slo.worth (⟨w,c,s,t,(⟨(((Wea.At c.spells s.mom).1).clear),((Wea.At c.spells s.mom).1).seeing,((Wea.At c.spells s.mom).1).opn⟩:Cnd),(⟨(s.rigs.getD t.toNat zRg).pos,(s.rigs.getD t.toNat zRg).filter,(((s.rigs.getD t.toNat zRg).stuck)||((Ovr.Stuck c.overrides t s.mom).1))⟩:Rg)⟩:Slt) (((Cnd.candL w s).getD li1 (zRq,zCs)).1) (((Cnd.candL w s).getD li1 (zRq,zCs)).2)),(((Cnd.candL w s).getD li1 (zRq,zCs)).1).alert⟩:Rq)]))
def Requests_b1_s(w:Wd)(c:Scr)(s:Sta)(t:Int)(lx1:(List Exc)×(List Rq))(n101:Nat)(r101:List (List C))(n119:Nat)(r119:List (List C)):S:=mkS 128 [(13,.b (.v (.c (.ptr 13 0)))),(16,.b (.v (.c (.ptr 16 0)))),(17,.b (.v (.c (.ptr 17 0))))] [(13,.cells [.kptr [.lst 9 w.telescopes.length (elM encTel zTel w.telescopes),.lst 2 w.partners.length (elM encPtn zPtn w.partners),.lst 10 w.programmes.length (elM encPrg zPrg w.programmes),.str w.fast.name,cI w.fast.version,.lst 4 w.fast.steps.length (elM encFst zFst w.fast.steps),cI w.budget,.lst 4 w.subs.length (elM encSub zSub w.subs),.lst 1 w.tape.length (elM Sym.encI 0 w.tape),cI w.limit,cI c.frm,cI c.til,.lst 5 c.spells.length (elM encSpl zSpl c.spells),.lst 7 c.overrides.length (elM encOv zOv c.overrides),.lst 5 c.defects.length (elM encDfc zDfc c.defects),.lst 4 c.payments.length (elM encPay zPay c.payments),.lst 6 c.foreign.length (elM encFrn zFrn c.foreign),cI s.mom,cI s.turn,.lst 3 s.rigs.length (elM encRg zRg s.rigs),.lst 4 s.ghosts.length (elM encPx zPx s.ghosts),.lst 1 s.courses.length (elM (Sym.encL 4 encCs zCs) [] s.courses),.lst 1 s.used.length (elM Sym.encI 0 s.used),.lst 5 s.opn.length (elM encFol zFol s.opn),.lst 4 s.tallies.length (elM encTa zTa s.tallies),cI t,cI ((((Wea.At c.spells s.mom).1).clear).c0),cI ((((Wea.At c.spells s.mom).1).clear).c1),cI ((((Wea.At c.spells s.mom).1).clear).c2),cI ((((Wea.At c.spells s.mom).1).clear).c3),cI (((Wea.At c.spells s.mom).1).seeing),.bool (((Wea.At c.spells s.mom).1).opn),cI ((s.rigs.getD t.toNat zRg).pos),cI ((s.rigs.getD t.toNat zRg).filter),.bool (((s.rigs.getD t.toNat zRg).stuck)||((Ovr.Stuck c.overrides t s.mom).1))] 0]),(16,.pcells [.row 119 n119]),(17,.pcells [.row 101 n101]),(101,.row 62 5 r101),(119,.row 60 5 r119)]
def Requests(w:Wd)(c:Scr)(s:Sta)(t:Int):(List Rq)×(List Exc)×Int:=
 (bif (((((!(Fea.Valid w))||(!(Fea.fits w s)))||(decide (t<0)))||(decide (t≥(w.telescopes.length:Int))))||(!(Ovr.Valid c.overrides))) then ([],[],1) else (bif (((Wea.At c.spells s.mom).2) != 0) then ([],[],1) else (runL (Requests_b1 w c s t) ((Cnd.candL w s).length) 0 (([]:List Exc),([]:List Rq))).fin (Requests_b1_r w c s t)))
theorem Requests_c(w:Wd)(c:Scr)(s:Sta)(t:Int):FCall Tryz.prog 14 [.agg (encWd w),.agg (encScr c),.agg (encSta s),vI t] (.tup [.c (.lst 5 (((Requests w c s t).1).length) (elM encRq zRq ((Requests w c s t).1))),.c (.lst 5 (((Requests w c s t).2.1).length) (elM encExc zExc ((Requests w c s t).2.1))),vI ((Requests w c s t).2.2)]):=by
 have ee0:=Requests.eq_1 w c s t
 refine ul Tryz.func14 rfl (fun B hB=>?_)
 refine uq [(0,.imm),(1,.imm),(2,.imm)] [] ?_
 have cc1:=Fea.Valid_c w
 have cc3:=Ovr.Valid_c c.overrides
 refine uq [(1,hcon cc1),(6,.call (.v (vB (Fea.fits w s)))),(23,hcon cc3)] [pu cc1,@pg (!(!(Fea.Valid w))) (_) (fun hg=>by exact Fea.fits_c w s (by exact parts_of (by revert hg;cases Fea.Valid w<;>simp))),pu cc3] ?_
 refine ud ee0 (fun hh1 ee1=>?_) (fun hh1 ee2=>?_)
 ·refine u0 ?_
  refine run_weaken (wk_nilLst 8 5 (elM encRq zRq []) kr) ?_ nofun
  refine run_weaken (wk_nilLst 9 5 (elM encExc zExc []) kr) ?_ nofun
  exact run_ret (ut _ (by rw [ee1]<;>rfl))
 ·have hK:CandOk w s 0:=cand_ok (by revert hh1;cases Fea.Valid w<;>simp) (by revert hh1;cases Fea.Valid w<;>cases Fea.fits w s<;>simp)
  have hK2:=hK.few
  have hK3:=hK.tels
  have hK4:=hK.parts
  have ht:0≤t∧t<(w.telescopes.length:Int):=by simp only [Bool.or_eq_false_iff,decide_eq_false_iff_not] at hh1;omega
  have cc4:=Wea.At_c c.spells s.mom
  refine us 4 cc4 ?_
  refine u0 ?_
  refine ud ee2 (fun hh2 ee3=>?_) (fun hh2 ee4=>?_)
  ·refine u0 ?_
   refine run_weaken (wk_nilLst 8 5 (elM encRq zRq []) kr) ?_ nofun
   refine run_weaken (wk_nilLst 9 5 (elM encExc zExc []) kr) ?_ nofun
   exact run_ret (ut _ (by rw [ee3]<;>rfl))
  ·refine uq [] [ub t s.rigs.length] ?_
   have cc5:=Ovr.Stuck_c c.overrides t s.mom
   refine us 5 cc5 ?_
   refine u0 ?_
   refine frzPtr hB 13 0 68 0 [.ptr 68 0] [.lst 9 w.telescopes.length (elM encTel zTel w.telescopes),.lst 2 w.partners.length (elM encPtn zPtn w.partners),.lst 10 w.programmes.length (elM encPrg zPrg w.programmes),.str w.fast.name,cI w.fast.version,.lst 4 w.fast.steps.length (elM encFst zFst w.fast.steps),cI w.budget,.lst 4 w.subs.length (elM encSub zSub w.subs),.lst 1 w.tape.length (elM Sym.encI 0 w.tape),cI w.limit,cI c.frm,cI c.til,.lst 5 c.spells.length (elM encSpl zSpl c.spells),.lst 7 c.overrides.length (elM encOv zOv c.overrides),.lst 5 c.defects.length (elM encDfc zDfc c.defects),.lst 4 c.payments.length (elM encPay zPay c.payments),.lst 6 c.foreign.length (elM encFrn zFrn c.foreign),cI s.mom,cI s.turn,.lst 3 s.rigs.length (elM encRg zRg s.rigs),.lst 4 s.ghosts.length (elM encPx zPx s.ghosts),.lst 1 s.courses.length (elM (Sym.encL 4 encCs zCs) [] s.courses),.lst 1 s.used.length (elM Sym.encI 0 s.used),.lst 5 s.opn.length (elM encFol zFol s.opn),.lst 4 s.tallies.length (elM encTa zTa s.tallies),cI t,cI ((((Wea.At c.spells s.mom).1).clear).c0),cI ((((Wea.At c.spells s.mom).1).clear).c1),cI ((((Wea.At c.spells s.mom).1).clear).c2),cI ((((Wea.At c.spells s.mom).1).clear).c3),cI (((Wea.At c.spells s.mom).1).seeing),.bool (((Wea.At c.spells s.mom).1).opn),cI ((s.rigs.getD t.toNat zRg).pos),cI ((s.rigs.getD t.toNat zRg).filter),.bool (((s.rigs.getD t.toNat zRg).stuck)||((Ovr.Stuck c.overrides t s.mom).1))] [4,6,13] [11] kr kr kr kr ?_ nofun
   refine u0 (u0 ?_)
   have cc6:=Cnd.candidates_c w s
   refine us 2 cc6 ?_
   refine rBlock ?_
   refine run_weaken (wk_nilCell 16 0 119 60 5 [.nil] kr kr kr om) ?_ nofun
   refine run_weaken (wk_nilCell 17 0 101 62 5 [.nil] kr kr kr om) ?_ nofun
   refine rRangeX hB kr (Cnd.candL w s) (zRq,zCs) (fun a:Rq×Cs=>[.agg (encRq a.1),.agg (encCs a.2)]) (cand_it w s (by exact hK)) (fun _=>rfl) (fun qz=>Requests_b1_s w c s t qz qz.1.length (qz.1.map encExc) qz.2.length (qz.2.map encRq)) (Requests_b1 w c s t) (fun li1 lx1=>lx1.1.length≤li1∧lx1.2.length≤li1) (([]:List Exc),([]:List Rq)) (rowW (fun qn qr=>Requests_b1_s w c s t (([]:List Exc),([]:List Rq)) ([]:List Exc).length (([]:List Exc).map encExc) qn qr) 0 [] ([]:List Rq) (rfl) (rfl) (rowW (fun qn qr=>Requests_b1_s w c s t (([]:List Exc),([]:List Rq)) qn qr 0 []) 0 [] ([]:List Exc) (rfl) (rfl) (wkTo [13,16,17] [] kr))) (by simp) (fun i x y hi hJ hb=>?_) (fun _=>by kernel_rfl) (fun li1 lx1 hi1 hJ1 hr1 B1=>?_) (fun lx1 hJ1 hr1=>?_)
   ·simp only [Requests_b1,cond_eq_ite] at hb
    repeat' split at hb
    all_goals first | (cases hb;done) | (cases hb;simp;omega)
   ·have ee8:=Requests_b1.eq_1 w c s t li1 lx1
    refine u0 (u0 ?_)
    refine run_nil ⟨rfl,kr,fun B2=>?_⟩
    refine rBlock ?_
    have hE:=hK.el li1 hi1
    have cc7:=Slo.judge_c (⟨w,c,s,t,(⟨(((Wea.At c.spells s.mom).1).clear),((Wea.At c.spells s.mom).1).seeing,((Wea.At c.spells s.mom).1).opn⟩:Cnd),(⟨(s.rigs.getD t.toNat zRg).pos,(s.rigs.getD t.toNat zRg).filter,(((s.rigs.getD t.toNat zRg).stuck)||((Ovr.Stuck c.overrides t s.mom).1))⟩:Rg)⟩:Slt) (((Cnd.candL w s).getD li1 (zRq,zCs)).1) (((Cnd.candL w s).getD li1 (zRq,zCs)).2) (by exact ⟨hE.1,hE.2.1⟩) (by exact ht)
    refine us 3 cc7 ?_
    refine u0 ?_
    refine ud ee8 (fun hh4 ee9=>?_) (fun hh4 ee10=>?_)
    ·refine uq [] [@pu (lx1.1.length=(lx1.1.map encExc).length) (rowN rfl rfl),uo ((lx1.1.length+1)*(40+1)≤140737488355328),@pu (1=[[cI ((((Cnd.candL w s).getD li1 (zRq,zCs)).1).prog),cI ((((Cnd.candL w s).getD li1 (zRq,zCs)).1).tile),cI ((((Cnd.candL w s).getD li1 (zRq,zCs)).1).filter),.bool ((((Cnd.candL w s).getD li1 (zRq,zCs)).1).alert),cI (Slo.judge (⟨w,c,s,t,(⟨(((Wea.At c.spells s.mom).1).clear),((Wea.At c.spells s.mom).1).seeing,((Wea.At c.spells s.mom).1).opn⟩:Cnd),(⟨(s.rigs.getD t.toNat zRg).pos,(s.rigs.getD t.toNat zRg).filter,(((s.rigs.getD t.toNat zRg).stuck)||((Ovr.Stuck c.overrides t s.mom).1))⟩:Rg)⟩:Slt) (((Cnd.candL w s).getD li1 (zRq,zCs)).1) (((Cnd.candL w s).getD li1 (zRq,zCs)).2))]].length) (rowN (show 1=List.length [(⟨(((Cnd.candL w s).getD li1 (zRq,zCs)).1).prog,(((Cnd.candL w s).getD li1 (zRq,zCs)).1).tile,(((Cnd.candL w s).getD li1 (zRq,zCs)).1).filter,(((Cnd.candL w s).getD li1 (zRq,zCs)).1).alert,(Slo.judge (⟨w,c,s,t,(⟨(((Wea.At c.spells s.mom).1).clear),((Wea.At c.spells s.mom).1).seeing,((Wea.At c.spells s.mom).1).opn⟩:Cnd),(⟨(s.rigs.getD t.toNat zRg).pos,(s.rigs.getD t.toNat zRg).filter,(((s.rigs.getD t.toNat zRg).stuck)||((Ovr.Stuck c.overrides t s.mom).1))⟩:Rg)⟩:Slt) (((Cnd.candL w s).getD li1 (zRq,zCs)).1) (((Cnd.candL w s).getD li1 (zRq,zCs)).2))⟩:Exc)] from rfl) (show [[cI ((((Cnd.candL w s).getD li1 (zRq,zCs)).1).prog),cI ((((Cnd.candL w s).getD li1 (zRq,zCs)).1).tile),cI ((((Cnd.candL w s).getD li1 (zRq,zCs)).1).filter),.bool ((((Cnd.candL w s).getD li1 (zRq,zCs)).1).alert),cI (Slo.judge (⟨w,c,s,t,(⟨(((Wea.At c.spells s.mom).1).clear),((Wea.At c.spells s.mom).1).seeing,((Wea.At c.spells s.mom).1).opn⟩:Cnd),(⟨(s.rigs.getD t.toNat zRg).pos,(s.rigs.getD t.toNat zRg).filter,(((s.rigs.getD t.toNat zRg).stuck)||((Ovr.Stuck c.overrides t s.mom).1))⟩:Rg)⟩:Slt) (((Cnd.candL w s).getD li1 (zRq,zCs)).1) (((Cnd.candL w s).getD li1 (zRq,zCs)).2))]]=List.map encExc [(⟨(((Cnd.candL w s).getD li1 (zRq,zCs)).1).prog,(((Cnd.candL w s).getD li1 (zRq,zCs)).1).tile,(((Cnd.candL w s).getD li1 (zRq,zCs)).1).filter,(((Cnd.candL w s).getD li1 (zRq,zCs)).1).alert,(Slo.judge (⟨w,c,s,t,(⟨(((Wea.At c.spells s.mom).1).clear),((Wea.At c.spells s.mom).1).seeing,((Wea.At c.spells s.mom).1).opn⟩:Cnd),(⟨(s.rigs.getD t.toNat zRg).pos,(s.rigs.getD t.toNat zRg).filter,(((s.rigs.getD t.toNat zRg).stuck)||((Ovr.Stuck c.overrides t s.mom).1))⟩:Rg)⟩:Slt) (((Cnd.candL w s).getD li1 (zRq,zCs)).1) (((Cnd.candL w s).getD li1 (zRq,zCs)).2))⟩:Exc)] from rfl))] ?_
     refine run_exit (blockR_exit ?_)
     exact run_nil (⟨kr,(lx1.1++[(⟨(((Cnd.candL w s).getD li1 (zRq,zCs)).1).prog,(((Cnd.candL w s).getD li1 (zRq,zCs)).1).tile,(((Cnd.candL w s).getD li1 (zRq,zCs)).1).filter,(((Cnd.candL w s).getD li1 (zRq,zCs)).1).alert,(Slo.judge (⟨w,c,s,t,(⟨(((Wea.At c.spells s.mom).1).clear),((Wea.At c.spells s.mom).1).seeing,((Wea.At c.spells s.mom).1).opn⟩:Cnd),(⟨(s.rigs.getD t.toNat zRg).pos,(s.rigs.getD t.toNat zRg).filter,(((s.rigs.getD t.toNat zRg).stuck)||((Ovr.Stuck c.overrides t s.mom).1))⟩:Rg)⟩:Slt) (((Cnd.candL w s).getD li1 (zRq,zCs)).1) (((Cnd.candL w s).getD li1 (zRq,zCs)).2))⟩:Exc)],lx1.2),rowW (fun qn qr=>Requests_b1_s w c s t (lx1.1++[(⟨(((Cnd.candL w s).getD li1 (zRq,zCs)).1).prog,(((Cnd.candL w s).getD li1 (zRq,zCs)).1).tile,(((Cnd.candL w s).getD li1 (zRq,zCs)).1).filter,(((Cnd.candL w s).getD li1 (zRq,zCs)).1).alert,(Slo.judge (⟨w,c,s,t,(⟨(((Wea.At c.spells s.mom).1).clear),((Wea.At c.spells s.mom).1).seeing,((Wea.At c.spells s.mom).1).opn⟩:Cnd),(⟨(s.rigs.getD t.toNat zRg).pos,(s.rigs.getD t.toNat zRg).filter,(((s.rigs.getD t.toNat zRg).stuck)||((Ovr.Stuck c.overrides t s.mom).1))⟩:Rg)⟩:Slt) (((Cnd.candL w s).getD li1 (zRq,zCs)).1) (((Cnd.candL w s).getD li1 (zRq,zCs)).2))⟩:Exc)],lx1.2) (lx1.1++[(⟨(((Cnd.candL w s).getD li1 (zRq,zCs)).1).prog,(((Cnd.candL w s).getD li1 (zRq,zCs)).1).tile,(((Cnd.candL w s).getD li1 (zRq,zCs)).1).filter,(((Cnd.candL w s).getD li1 (zRq,zCs)).1).alert,(Slo.judge (⟨w,c,s,t,(⟨(((Wea.At c.spells s.mom).1).clear),((Wea.At c.spells s.mom).1).seeing,((Wea.At c.spells s.mom).1).opn⟩:Cnd),(⟨(s.rigs.getD t.toNat zRg).pos,(s.rigs.getD t.toNat zRg).filter,(((s.rigs.getD t.toNat zRg).stuck)||((Ovr.Stuck c.overrides t s.mom).1))⟩:Rg)⟩:Slt) (((Cnd.candL w s).getD li1 (zRq,zCs)).1) (((Cnd.candL w s).getD li1 (zRq,zCs)).2))⟩:Exc)]).length ((lx1.1++[(⟨(((Cnd.candL w s).getD li1 (zRq,zCs)).1).prog,(((Cnd.candL w s).getD li1 (zRq,zCs)).1).tile,(((Cnd.candL w s).getD li1 (zRq,zCs)).1).filter,(((Cnd.candL w s).getD li1 (zRq,zCs)).1).alert,(Slo.judge (⟨w,c,s,t,(⟨(((Wea.At c.spells s.mom).1).clear),((Wea.At c.spells s.mom).1).seeing,((Wea.At c.spells s.mom).1).opn⟩:Cnd),(⟨(s.rigs.getD t.toNat zRg).pos,(s.rigs.getD t.toNat zRg).filter,(((s.rigs.getD t.toNat zRg).stuck)||((Ovr.Stuck c.overrides t s.mom).1))⟩:Rg)⟩:Slt) (((Cnd.candL w s).getD li1 (zRq,zCs)).1) (((Cnd.candL w s).getD li1 (zRq,zCs)).2))⟩:Exc)]).map encExc) qn qr) lx1.2.length (lx1.2.map encRq) lx1.2 (rfl) (rfl) (rowW (fun qn qr=>Requests_b1_s w c s t (lx1.1++[(⟨(((Cnd.candL w s).getD li1 (zRq,zCs)).1).prog,(((Cnd.candL w s).getD li1 (zRq,zCs)).1).tile,(((Cnd.candL w s).getD li1 (zRq,zCs)).1).filter,(((Cnd.candL w s).getD li1 (zRq,zCs)).1).alert,(Slo.judge (⟨w,c,s,t,(⟨(((Wea.At c.spells s.mom).1).clear),((Wea.At c.spells s.mom).1).seeing,((Wea.At c.spells s.mom).1).opn⟩:Cnd),(⟨(s.rigs.getD t.toNat zRg).pos,(s.rigs.getD t.toNat zRg).filter,(((s.rigs.getD t.toNat zRg).stuck)||((Ovr.Stuck c.overrides t s.mom).1))⟩:Rg)⟩:Slt) (((Cnd.candL w s).getD li1 (zRq,zCs)).1) (((Cnd.candL w s).getD li1 (zRq,zCs)).2))⟩:Exc)],lx1.2) qn qr lx1.2.length (lx1.2.map encRq)) (lx1.1.length+1) ((lx1.1.map encExc)++[[cI ((((Cnd.candL w s).getD li1 (zRq,zCs)).1).prog),cI ((((Cnd.candL w s).getD li1 (zRq,zCs)).1).tile),cI ((((Cnd.candL w s).getD li1 (zRq,zCs)).1).filter),.bool ((((Cnd.candL w s).getD li1 (zRq,zCs)).1).alert),cI (Slo.judge (⟨w,c,s,t,(⟨(((Wea.At c.spells s.mom).1).clear),((Wea.At c.spells s.mom).1).seeing,((Wea.At c.spells s.mom).1).opn⟩:Cnd),(⟨(s.rigs.getD t.toNat zRg).pos,(s.rigs.getD t.toNat zRg).filter,(((s.rigs.getD t.toNat zRg).stuck)||((Ovr.Stuck c.overrides t s.mom).1))⟩:Rg)⟩:Slt) (((Cnd.candL w s).getD li1 (zRq,zCs)).1) (((Cnd.candL w s).getD li1 (zRq,zCs)).2))]]) (lx1.1++[(⟨(((Cnd.candL w s).getD li1 (zRq,zCs)).1).prog,(((Cnd.candL w s).getD li1 (zRq,zCs)).1).tile,(((Cnd.candL w s).getD li1 (zRq,zCs)).1).filter,(((Cnd.candL w s).getD li1 (zRq,zCs)).1).alert,(Slo.judge (⟨w,c,s,t,(⟨(((Wea.At c.spells s.mom).1).clear),((Wea.At c.spells s.mom).1).seeing,((Wea.At c.spells s.mom).1).opn⟩:Cnd),(⟨(s.rigs.getD t.toNat zRg).pos,(s.rigs.getD t.toNat zRg).filter,(((s.rigs.getD t.toNat zRg).stuck)||((Ovr.Stuck c.overrides t s.mom).1))⟩:Rg)⟩:Slt) (((Cnd.candL w s).getD li1 (zRq,zCs)).1) (((Cnd.candL w s).getD li1 (zRq,zCs)).2))⟩:Exc)]) (rowBn rfl (show 1=List.length [(⟨(((Cnd.candL w s).getD li1 (zRq,zCs)).1).prog,(((Cnd.candL w s).getD li1 (zRq,zCs)).1).tile,(((Cnd.candL w s).getD li1 (zRq,zCs)).1).filter,(((Cnd.candL w s).getD li1 (zRq,zCs)).1).alert,(Slo.judge (⟨w,c,s,t,(⟨(((Wea.At c.spells s.mom).1).clear),((Wea.At c.spells s.mom).1).seeing,((Wea.At c.spells s.mom).1).opn⟩:Cnd),(⟨(s.rigs.getD t.toNat zRg).pos,(s.rigs.getD t.toNat zRg).filter,(((s.rigs.getD t.toNat zRg).stuck)||((Ovr.Stuck c.overrides t s.mom).1))⟩:Rg)⟩:Slt) (((Cnd.candL w s).getD li1 (zRq,zCs)).1) (((Cnd.candL w s).getD li1 (zRq,zCs)).2))⟩:Exc)] from rfl)) (rowB rfl (show [[cI ((((Cnd.candL w s).getD li1 (zRq,zCs)).1).prog),cI ((((Cnd.candL w s).getD li1 (zRq,zCs)).1).tile),cI ((((Cnd.candL w s).getD li1 (zRq,zCs)).1).filter),.bool ((((Cnd.candL w s).getD li1 (zRq,zCs)).1).alert),cI (Slo.judge (⟨w,c,s,t,(⟨(((Wea.At c.spells s.mom).1).clear),((Wea.At c.spells s.mom).1).seeing,((Wea.At c.spells s.mom).1).opn⟩:Cnd),(⟨(s.rigs.getD t.toNat zRg).pos,(s.rigs.getD t.toNat zRg).filter,(((s.rigs.getD t.toNat zRg).stuck)||((Ovr.Stuck c.overrides t s.mom).1))⟩:Rg)⟩:Slt) (((Cnd.candL w s).getD li1 (zRq,zCs)).1) (((Cnd.candL w s).getD li1 (zRq,zCs)).2))]]=List.map encExc [(⟨(((Cnd.candL w s).getD li1 (zRq,zCs)).1).prog,(((Cnd.candL w s).getD li1 (zRq,zCs)).1).tile,(((Cnd.candL w s).getD li1 (zRq,zCs)).1).filter,(((Cnd.candL w s).getD li1 (zRq,zCs)).1).alert,(Slo.judge (⟨w,c,s,t,(⟨(((Wea.At c.spells s.mom).1).clear),((Wea.At c.spells s.mom).1).seeing,((Wea.At c.spells s.mom).1).opn⟩:Cnd),(⟨(s.rigs.getD t.toNat zRg).pos,(s.rigs.getD t.toNat zRg).filter,(((s.rigs.getD t.toNat zRg).stuck)||((Ovr.Stuck c.overrides t s.mom).1))⟩:Rg)⟩:Slt) (((Cnd.candL w s).getD li1 (zRq,zCs)).1) (((Cnd.candL w s).getD li1 (zRq,zCs)).2))⟩:Exc)] from rfl)) (wkTo [13,16,17] [18,19,112] kr)),ee9⟩)
    ·have cc8:=Slo.worth_c (⟨w,c,s,t,(⟨(((Wea.At c.spells s.mom).1).clear),((Wea.At c.spells s.mom).1).seeing,((Wea.At c.spells s.mom).1).opn⟩:Cnd),(⟨(s.rigs.getD t.toNat zRg).pos,(s.rigs.getD t.toNat zRg).filter,(((s.rigs.getD t.toNat zRg).stuck)||((Ovr.Stuck c.overrides t s.mom).1))⟩:Rg)⟩:Slt) (((Cnd.candL w s).getD li1 (zRq,zCs)).1) (((Cnd.candL w s).getD li1 (zRq,zCs)).2) (by exact ⟨hE.1,hE.2.1⟩) (by exact ht) (by exact hK.parts) (by exact ⟨hE.2.2.1,hE.2.2.2⟩)
     refine us 3 cc8 ?_
     refine uq [] [@pu (lx1.2.length=(lx1.2.map encRq).length) (rowN rfl rfl),uo ((lx1.2.length+1)*(40+1)≤140737488355328),@pu (1=[[cI ((((Cnd.candL w s).getD li1 (zRq,zCs)).1).prog),cI ((((Cnd.candL w s).getD li1 (zRq,zCs)).1).tile),cI ((((Cnd.candL w s).getD li1 (zRq,zCs)).1).filter),cI (Slo.worth (⟨w,c,s,t,(⟨(((Wea.At c.spells s.mom).1).clear),((Wea.At c.spells s.mom).1).seeing,((Wea.At c.spells s.mom).1).opn⟩:Cnd),(⟨(s.rigs.getD t.toNat zRg).pos,(s.rigs.getD t.toNat zRg).filter,(((s.rigs.getD t.toNat zRg).stuck)||((Ovr.Stuck c.overrides t s.mom).1))⟩:Rg)⟩:Slt) (((Cnd.candL w s).getD li1 (zRq,zCs)).1) (((Cnd.candL w s).getD li1 (zRq,zCs)).2)),.bool ((((Cnd.candL w s).getD li1 (zRq,zCs)).1).alert)]].length) (rowN (show 1=List.length [(⟨(((Cnd.candL w s).getD li1 (zRq,zCs)).1).prog,(((Cnd.candL w s).getD li1 (zRq,zCs)).1).tile,(((Cnd.candL w s).getD li1 (zRq,zCs)).1).filter,(Slo.worth (⟨w,c,s,t,(⟨(((Wea.At c.spells s.mom).1).clear),((Wea.At c.spells s.mom).1).seeing,((Wea.At c.spells s.mom).1).opn⟩:Cnd),(⟨(s.rigs.getD t.toNat zRg).pos,(s.rigs.getD t.toNat zRg).filter,(((s.rigs.getD t.toNat zRg).stuck)||((Ovr.Stuck c.overrides t s.mom).1))⟩:Rg)⟩:Slt) (((Cnd.candL w s).getD li1 (zRq,zCs)).1) (((Cnd.candL w s).getD li1 (zRq,zCs)).2)),(((Cnd.candL w s).getD li1 (zRq,zCs)).1).alert⟩:Rq)] from rfl) (show [[cI ((((Cnd.candL w s).getD li1 (zRq,zCs)).1).prog),cI ((((Cnd.candL w s).getD li1 (zRq,zCs)).1).tile),cI ((((Cnd.candL w s).getD li1 (zRq,zCs)).1).filter),cI (Slo.worth (⟨w,c,s,t,(⟨(((Wea.At c.spells s.mom).1).clear),((Wea.At c.spells s.mom).1).seeing,((Wea.At c.spells s.mom).1).opn⟩:Cnd),(⟨(s.rigs.getD t.toNat zRg).pos,(s.rigs.getD t.toNat zRg).filter,(((s.rigs.getD t.toNat zRg).stuck)||((Ovr.Stuck c.overrides t s.mom).1))⟩:Rg)⟩:Slt) (((Cnd.candL w s).getD li1 (zRq,zCs)).1) (((Cnd.candL w s).getD li1 (zRq,zCs)).2)),.bool ((((Cnd.candL w s).getD li1 (zRq,zCs)).1).alert)]]=List.map encRq [(⟨(((Cnd.candL w s).getD li1 (zRq,zCs)).1).prog,(((Cnd.candL w s).getD li1 (zRq,zCs)).1).tile,(((Cnd.candL w s).getD li1 (zRq,zCs)).1).filter,(Slo.worth (⟨w,c,s,t,(⟨(((Wea.At c.spells s.mom).1).clear),((Wea.At c.spells s.mom).1).seeing,((Wea.At c.spells s.mom).1).opn⟩:Cnd),(⟨(s.rigs.getD t.toNat zRg).pos,(s.rigs.getD t.toNat zRg).filter,(((s.rigs.getD t.toNat zRg).stuck)||((Ovr.Stuck c.overrides t s.mom).1))⟩:Rg)⟩:Slt) (((Cnd.candL w s).getD li1 (zRq,zCs)).1) (((Cnd.candL w s).getD li1 (zRq,zCs)).2)),(((Cnd.candL w s).getD li1 (zRq,zCs)).1).alert⟩:Rq)] from rfl))] ?_
     refine run_nil (blockR_normal ?_)
     exact run_nil (⟨kr,(lx1.1,lx1.2++[(⟨(((Cnd.candL w s).getD li1 (zRq,zCs)).1).prog,(((Cnd.candL w s).getD li1 (zRq,zCs)).1).tile,(((Cnd.candL w s).getD li1 (zRq,zCs)).1).filter,(Slo.worth (⟨w,c,s,t,(⟨(((Wea.At c.spells s.mom).1).clear),((Wea.At c.spells s.mom).1).seeing,((Wea.At c.spells s.mom).1).opn⟩:Cnd),(⟨(s.rigs.getD t.toNat zRg).pos,(s.rigs.getD t.toNat zRg).filter,(((s.rigs.getD t.toNat zRg).stuck)||((Ovr.Stuck c.overrides t s.mom).1))⟩:Rg)⟩:Slt) (((Cnd.candL w s).getD li1 (zRq,zCs)).1) (((Cnd.candL w s).getD li1 (zRq,zCs)).2)),(((Cnd.candL w s).getD li1 (zRq,zCs)).1).alert⟩:Rq)]),rowW (fun qn qr=>Requests_b1_s w c s t (lx1.1,lx1.2++[(⟨(((Cnd.candL w s).getD li1 (zRq,zCs)).1).prog,(((Cnd.candL w s).getD li1 (zRq,zCs)).1).tile,(((Cnd.candL w s).getD li1 (zRq,zCs)).1).filter,(Slo.worth (⟨w,c,s,t,(⟨(((Wea.At c.spells s.mom).1).clear),((Wea.At c.spells s.mom).1).seeing,((Wea.At c.spells s.mom).1).opn⟩:Cnd),(⟨(s.rigs.getD t.toNat zRg).pos,(s.rigs.getD t.toNat zRg).filter,(((s.rigs.getD t.toNat zRg).stuck)||((Ovr.Stuck c.overrides t s.mom).1))⟩:Rg)⟩:Slt) (((Cnd.candL w s).getD li1 (zRq,zCs)).1) (((Cnd.candL w s).getD li1 (zRq,zCs)).2)),(((Cnd.candL w s).getD li1 (zRq,zCs)).1).alert⟩:Rq)]) lx1.1.length (lx1.1.map encExc) qn qr) (lx1.2.length+1) ((lx1.2.map encRq)++[[cI ((((Cnd.candL w s).getD li1 (zRq,zCs)).1).prog),cI ((((Cnd.candL w s).getD li1 (zRq,zCs)).1).tile),cI ((((Cnd.candL w s).getD li1 (zRq,zCs)).1).filter),cI (Slo.worth (⟨w,c,s,t,(⟨(((Wea.At c.spells s.mom).1).clear),((Wea.At c.spells s.mom).1).seeing,((Wea.At c.spells s.mom).1).opn⟩:Cnd),(⟨(s.rigs.getD t.toNat zRg).pos,(s.rigs.getD t.toNat zRg).filter,(((s.rigs.getD t.toNat zRg).stuck)||((Ovr.Stuck c.overrides t s.mom).1))⟩:Rg)⟩:Slt) (((Cnd.candL w s).getD li1 (zRq,zCs)).1) (((Cnd.candL w s).getD li1 (zRq,zCs)).2)),.bool ((((Cnd.candL w s).getD li1 (zRq,zCs)).1).alert)]]) (lx1.2++[(⟨(((Cnd.candL w s).getD li1 (zRq,zCs)).1).prog,(((Cnd.candL w s).getD li1 (zRq,zCs)).1).tile,(((Cnd.candL w s).getD li1 (zRq,zCs)).1).filter,(Slo.worth (⟨w,c,s,t,(⟨(((Wea.At c.spells s.mom).1).clear),((Wea.At c.spells s.mom).1).seeing,((Wea.At c.spells s.mom).1).opn⟩:Cnd),(⟨(s.rigs.getD t.toNat zRg).pos,(s.rigs.getD t.toNat zRg).filter,(((s.rigs.getD t.toNat zRg).stuck)||((Ovr.Stuck c.overrides t s.mom).1))⟩:Rg)⟩:Slt) (((Cnd.candL w s).getD li1 (zRq,zCs)).1) (((Cnd.candL w s).getD li1 (zRq,zCs)).2)),(((Cnd.candL w s).getD li1 (zRq,zCs)).1).alert⟩:Rq)]) (rowBn rfl (show 1=List.length [(⟨(((Cnd.candL w s).getD li1 (zRq,zCs)).1).prog,(((Cnd.candL w s).getD li1 (zRq,zCs)).1).tile,(((Cnd.candL w s).getD li1 (zRq,zCs)).1).filter,(Slo.worth (⟨w,c,s,t,(⟨(((Wea.At c.spells s.mom).1).clear),((Wea.At c.spells s.mom).1).seeing,((Wea.At c.spells s.mom).1).opn⟩:Cnd),(⟨(s.rigs.getD t.toNat zRg).pos,(s.rigs.getD t.toNat zRg).filter,(((s.rigs.getD t.toNat zRg).stuck)||((Ovr.Stuck c.overrides t s.mom).1))⟩:Rg)⟩:Slt) (((Cnd.candL w s).getD li1 (zRq,zCs)).1) (((Cnd.candL w s).getD li1 (zRq,zCs)).2)),(((Cnd.candL w s).getD li1 (zRq,zCs)).1).alert⟩:Rq)] from rfl)) (rowB rfl (show [[cI ((((Cnd.candL w s).getD li1 (zRq,zCs)).1).prog),cI ((((Cnd.candL w s).getD li1 (zRq,zCs)).1).tile),cI ((((Cnd.candL w s).getD li1 (zRq,zCs)).1).filter),cI (Slo.worth (⟨w,c,s,t,(⟨(((Wea.At c.spells s.mom).1).clear),((Wea.At c.spells s.mom).1).seeing,((Wea.At c.spells s.mom).1).opn⟩:Cnd),(⟨(s.rigs.getD t.toNat zRg).pos,(s.rigs.getD t.toNat zRg).filter,(((s.rigs.getD t.toNat zRg).stuck)||((Ovr.Stuck c.overrides t s.mom).1))⟩:Rg)⟩:Slt) (((Cnd.candL w s).getD li1 (zRq,zCs)).1) (((Cnd.candL w s).getD li1 (zRq,zCs)).2)),.bool ((((Cnd.candL w s).getD li1 (zRq,zCs)).1).alert)]]=List.map encRq [(⟨(((Cnd.candL w s).getD li1 (zRq,zCs)).1).prog,(((Cnd.candL w s).getD li1 (zRq,zCs)).1).tile,(((Cnd.candL w s).getD li1 (zRq,zCs)).1).filter,(Slo.worth (⟨w,c,s,t,(⟨(((Wea.At c.spells s.mom).1).clear),((Wea.At c.spells s.mom).1).seeing,((Wea.At c.spells s.mom).1).opn⟩:Cnd),(⟨(s.rigs.getD t.toNat zRg).pos,(s.rigs.getD t.toNat zRg).filter,(((s.rigs.getD t.toNat zRg).stuck)||((Ovr.Stuck c.overrides t s.mom).1))⟩:Rg)⟩:Slt) (((Cnd.candL w s).getD li1 (zRq,zCs)).1) (((Cnd.candL w s).getD li1 (zRq,zCs)).2)),(((Cnd.candL w s).getD li1 (zRq,zCs)).1).alert⟩:Rq)] from rfl)) (rowW (fun qn qr=>Requests_b1_s w c s t (lx1.1,lx1.2++[(⟨(((Cnd.candL w s).getD li1 (zRq,zCs)).1).prog,(((Cnd.candL w s).getD li1 (zRq,zCs)).1).tile,(((Cnd.candL w s).getD li1 (zRq,zCs)).1).filter,(Slo.worth (⟨w,c,s,t,(⟨(((Wea.At c.spells s.mom).1).clear),((Wea.At c.spells s.mom).1).seeing,((Wea.At c.spells s.mom).1).opn⟩:Cnd),(⟨(s.rigs.getD t.toNat zRg).pos,(s.rigs.getD t.toNat zRg).filter,(((s.rigs.getD t.toNat zRg).stuck)||((Ovr.Stuck c.overrides t s.mom).1))⟩:Rg)⟩:Slt) (((Cnd.candL w s).getD li1 (zRq,zCs)).1) (((Cnd.candL w s).getD li1 (zRq,zCs)).2)),(((Cnd.candL w s).getD li1 (zRq,zCs)).1).alert⟩:Rq)]) qn qr (lx1.2.length+1) ((lx1.2.map encRq)++[[cI ((((Cnd.candL w s).getD li1 (zRq,zCs)).1).prog),cI ((((Cnd.candL w s).getD li1 (zRq,zCs)).1).tile),cI ((((Cnd.candL w s).getD li1 (zRq,zCs)).1).filter),cI (Slo.worth (⟨w,c,s,t,(⟨(((Wea.At c.spells s.mom).1).clear),((Wea.At c.spells s.mom).1).seeing,((Wea.At c.spells s.mom).1).opn⟩:Cnd),(⟨(s.rigs.getD t.toNat zRg).pos,(s.rigs.getD t.toNat zRg).filter,(((s.rigs.getD t.toNat zRg).stuck)||((Ovr.Stuck c.overrides t s.mom).1))⟩:Rg)⟩:Slt) (((Cnd.candL w s).getD li1 (zRq,zCs)).1) (((Cnd.candL w s).getD li1 (zRq,zCs)).2)),.bool ((((Cnd.candL w s).getD li1 (zRq,zCs)).1).alert)]])) lx1.1.length (lx1.1.map encExc) lx1.1 (rfl) (rfl) (wkTo [13,16,17] [18,19,121] kr)),ee10⟩)
   ·have ee5:=(fin_nx ee4 hr1).trans (Requests_b1_r.eq_1 w c s t lx1)
    refine run_nil (blockR_normal ?_)
    refine uq [] [@pu (lx1.2.length=(lx1.2.map encRq).length) (rowN rfl rfl)] ?_
    refine ud ee5 (fun hh3 ee6=>?_) (fun hh3 ee7=>?_)
    ·refine u0 ?_
     refine run_weaken (wk_nilLst 8 5 (elM encRq zRq []) kr) ?_ nofun
     refine run_weaken (wk_nilLst 9 5 (elM encExc zExc []) kr) ?_ nofun
     exact run_ret (ut _ (by rw [ee6]<;>rfl))
    ·refine u0 ?_
     refine frzRow hB 8 119 lx1.2.length 60 5 (lx1.2.map encRq) (elM encRq zRq lx1.2) [9,10] [13,16,17] kr kr (len_row _ _) (elM_row _ _ _) kr ?_ nofun
     refine frzRow hB 9 101 lx1.1.length 62 5 (lx1.1.map encExc) (elM encExc zExc lx1.1) [8,10] [] kr kr (len_row _ _) (elM_row _ _ _) kr ?_ nofun
     exact run_ret (ut _ (by rw [ee7]<;>rfl))
end Go.Proofs.YtidbmbpeblmliaaGreatDoor.Req
namespace Go.Sym
variable {P:Program}
def CLe(c d:C):Prop:=∀ K v,RelK K c v→RelK K d v
theorem CLe.refl(c:C):CLe c c:=fun _ _ h=>h
theorem CLe.nil(sz:Nat)(f:Nat→List C):CLe .nil (.lst sz 0 f):=fun K v h=>by
 cases h
 exact .lst0 sz f
def CsLe:List C→List C→Prop
 | [],[]=>True
 | c :: cs,d :: ds=>CLe c d∧CsLe cs ds
 | _,_=>False
theorem CsLe.spec:∀ {cs ds:List C},CsLe cs ds→cs.length=ds.length∧∀ j,CLe (cs.getD j .junk) (ds.getD j .junk)
 | [],[],_=>⟨rfl,fun j=>CLe.refl _⟩
 | c :: cs,d :: ds,h=>by
  obtain ⟨h1,h2⟩:=CsLe.spec h.2
  refine ⟨by simp [h1],fun j=>?_⟩
  cases j with
  | zero=>exact h.1
  | succ j=>simpa using h2 j
 | [],_ :: _,h=>h.elim
 | _ :: _,[],h=>h.elim
def AllLt(p:Nat→Prop):Nat→Prop
 | 0=>True
 | n+1=>AllLt p n∧p n
theorem AllLt.spec{p:Nat→Prop}:∀ {n:Nat},AllLt p n→∀ i,i<n→p i
 | n+1,h,i,hi=>by
  by_cases e:i=n
  ·subst e;exact h.2
  ·exact AllLt.spec h.1 i (by omega)
theorem CLe.lst{sz n:Nat}{f g:Nat→List C}(h:AllLt (fun i=>CsLe (f i) (g i)) n):CLe (.lst sz n f) (.lst sz n g):=fun K v hv=>by
 have hs:=fun i hi=>(h.spec i hi).spec
 cases hv with
 | lst0=>exact .lst0 _ _
 | lst1=>exact .lst1 _ _ _
 | lst _ _ _ b off cap arr T fz v hK hg hl hr ho hcap hmx =>
  exact .lst sz n g b off cap arr T fz v hK hg (fun i hi=>by rw [← (hs i hi).1];exact hl i hi) (fun i j hi hj=>(hs i hi).2 j _ _ (hr i j hi hj)) ho hcap hmx
theorem CVle.of{c d:C}(h:CLe c d):CVle (.c c) (.c d):=fun K v hv=>⟨h K v hv.1,hv.2⟩
theorem CVle.agg{cs ds:List C}(h:CsLe cs ds):CVle (.agg cs) (.agg ds):=fun K v hv=>by
 obtain ⟨arr,rfl,h1,h2⟩:=hv
 obtain ⟨g1,g2⟩:=h.spec
 exact ⟨arr,rfl,h1.trans g1,fun j hj=>⟨g2 j _ _ (h2 j (by omega)).1,(h2 j (by omega)).2⟩⟩
def SBle(r r':SB):Prop:=∀ K v,RelSBK K r v→RelSBK K r' v
theorem SBle.v{x y:CV}(h:CVle x y):SBle (.v x) (.v y):=fun K v hv=>h K v hv
theorem SBle.tup{xs ys:List CV}(h:CVles xs ys):SBle (.tup xs) (.tup ys):=fun K v hv=>by
 obtain ⟨vs,rfl,h1,h2⟩:=hv
 obtain ⟨g1,g2⟩:=h.spec
 exact ⟨vs,rfl,h1.trans g1,fun j hj=>g2 j hj K _ (h2 j (by omega))⟩
theorem FCall.le_res{f:FuncId}{args:List CV}{r r':SB}(h:FCall P f args r)(hr:SBle r r'):FCall P f args r':=by
 refine ⟨h.1,fun K w vs hl hK hs hv=>(h.2 K w vs hl hK hs hv).mono ?_⟩
 rintro e w' ⟨K',v,h1,h2,h3,h4,h5,h6⟩
 exact ⟨K',v,h1,h2,h3,h4,h5,hr K' v h6⟩
theorem rowAn0{α:Type}(l:List α):0+l.length=l.length:=Nat.zero_add _
theorem rowA0{α:Type}{enc:α→List C}{z:α}(l:List α):([]:List (List C))++(List.range l.length).map (elM enc z l)=l.map enc:=by rw [elM_list];rfl
theorem cle{p:Prop}(h:p:=by repeat' first
 | exact trivial
 | exact CLe.refl _
 | exact CLe.nil _ _
 | refine CLe.lst ?_
 | refine CVle.agg ?_
 | refine CVle.of ?_
 | refine And.intro ?_ ?_):p:=h
end Go.Sym
