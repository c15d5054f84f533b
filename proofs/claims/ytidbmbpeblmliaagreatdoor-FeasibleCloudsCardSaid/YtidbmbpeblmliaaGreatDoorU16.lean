/- Part of the proof of the statement that the claim's last text names: contracts of functions and laws of the symbolic layer. -/
import Derived.Test.YtidbmbpeblmliaaGreatDoorU13
import Derived.Test.YtidbmbpeblmliaaGreatDoorU14
import Derived.Test.YtidbmbpeblmliaaGreatDoorU15
import Derived.Maps.RangeRun
import Derived.TacticsIn
import Derived.Test.YtidbmbpeblmliaaGreatDoorO11
set_option linter.unusedVariables false
set_option linter.unusedSimpArgs false
namespace Go.Sym
open Go
variable {P:Program} {B:Base P}
def Rounds(P:Program)(B:Base P)(c:Code)(Q:Exit→S→Prop):Nat→S→Prop
 | 0,_=>False
 | n+1,s=>Run P B s (flatC c []) (fun e s'=>match e with
  | .normal=>Rounds P B c Q n s'
  | e=>Q e s')
theorem unrollS{c:Code}{Q:Exit→S→Prop}{n:Nat}{s:S}(h:Run P B s (flatC c []) (fun e s'=>match e with
  | .normal=>Rounds P B c Q n s'
  | e=>Q e s')):Rounds P B c Q (n+1) s:=h
theorem rUnroll{c:Code}{Q:Exit→S→Prop}(n:Nat){s:S}(h:Rounds P B c Q n s){cs:List Code}:Run P B s (.loop c :: cs) Q:=by
 refine rLoop (fun x:Nat×S=>x.2) (fun x=>Rounds P B c Q x.1 x.2) (fun x=>x.1) (n,s) (Wk.refl s) h ?_
 rintro ⟨m,s⟩ hm
 cases m with
 | zero=>exact hm.elim
 | succ m =>
  refine run_mono _ (fun e s' hq=>?_) hm
  cases e with
  | normal=>exact ⟨(m,s'),Wk.refl s',hq,Nat.lt_succ_self m⟩
  | _=>exact hq
end Go.Sym
namespace Go.Sym
open Go
theorem lookI0{z c:List C}{k a:Int}{l:List (List C×List C)}(h:(k==a)=true):Look (([cI a],c) :: l) [cI k] z true c:=by
 have:k=a:=by simpa using h
 subst this
 exact .inl ⟨rfl,0,⟨by simp,fun j hj=>by omega,rfl⟩,rfl⟩
theorem lookIS{z c cs:List C}{k a:Int}{b:Bool}{l:List (List C×List C)}(h:(k==a)=false)(hl:Look l [cI k] z b cs):Look (([cI a],c) :: l) [cI k] z b cs:=by
 have hc:eqCells [cI k] [cI a]=some false:=by simp [eqCells,kindEq,h]
 rcases hl with ⟨hb,i,hat,hv⟩ | ⟨hb,hno,hv⟩
 ·exact .inl ⟨hb,i+1,KeyAt.cons (e:=([cI a],c)) hc hat,hv⟩
 ·exact .inr ⟨hb,KeyNo.cons (e:=([cI a],c)) hc hno,hv⟩
theorem lookIN{z kc:List C}:Look [] kc z false z:=.inr ⟨rfl,fun j hj=>absurd hj (Nat.not_lt_zero _),rfl⟩
end Go.Sym
namespace Go.Sym
theorem runL_true{bd:Nat→Unit→Fl Unit Bool}{k:Unit→Bool}(hb:∀ j,bd j ()=.nx ()∨bd j ()=.rt false):∀ n i,(runL bd n i ()).fin k=true→∀ j,i≤j→j<i+n→bd j ()=.nx ()
 | 0,i,_,j,h1,h2=>by omega
 | n+1,i,h,j,h1,h2=>by
  rw [runL] at h
  rcases hb i with e | e
  ·rw [e] at h
   rcases Nat.eq_or_lt_of_le h1 with rfl | h3
   ·exact e
   ·exact runL_true hb n (i+1) h j h3 (by omega)
  ·rw [e] at h
   cases h
theorem bool_nx{b:Bool}(h:(bif b then (Fl.rt false:Fl Unit Bool) else .nx ())=.nx ()):b=false:=by cases b<;>simp_all
theorem bool_or(b:Bool):(bif b then (Fl.rt false:Fl Unit Bool) else .nx ())=.nx ()∨(bif b then (Fl.rt false:Fl Unit Bool) else .nx ())=.rt false:=by cases b<;>simp
theorem bif_f{b x:Bool}(h:(bif b then false else x)=true):b=false∧x=true:=by cases b<;>simp_all
end Go.Sym
namespace Go.Sym
theorem runL_end{bd:Nat→Unit→Fl Unit Bool}{k:Unit→Bool}(hb:∀ j,bd j ()=.nx ()∨bd j ()=.rt false):∀ n i,(runL bd n i ()).fin k=true→k ()=true
 | 0,i,h=>h
 | n+1,i,h=>by
  rw [runL] at h
  rcases hb i with e | e
  ·rw [e] at h;exact runL_end hb n (i+1) h
  ·rw [e] at h;cases h
end Go.Sym
namespace Go.Sym
open Ieee
theorem read_num(neg:Bool)(r:Nat)(h:r<double.infRung):∃ s m i,double.read (double.word neg r)=.number s m i:=by
 have hs:double.signWeight=9223372036854775808:=by decide
 have hi:double.infRung=9218868437227405312:=by decide
 have e:double.word neg r % double.signWeight=r:=by
  unfold Format.word
  rw [hs]
  cases neg<;>simp<;>omega
 unfold Format.read
 simp only [e]
 split
 ·exact ⟨_,_,_,rfl⟩
 ·exact ⟨_,_,_,rfl⟩
theorem cut_le(neg:Bool)(n d:Nat):Toward.even.cut neg n d≤n / (1 <<< min d (n.log2+2))+1:=by
 unfold Toward.cut
 simp only
 have:∀ b:Bool,b.toNat≤1:=fun b=>by cases b<;>simp
 exact Nat.add_le_add_left (this _) _
theorem nearest_word(neg:Bool)(mag:Nat)(hm:mag<2 ^ 64):∃ r,r<double.infRung∧double.nearest neg mag 0=double.word neg r:=by
 unfold Format.nearest
 split
 ·exact ⟨0,by decide,rfl⟩
 ·rename_i h0
  refine ⟨_,?_,rfl⟩
  have hi:double.infRung=9218868437227405312:=by decide
  have hl:double.leastPlace=-1074:=by decide
  have hf:double.fractionBits=52:=rfl
  have hb:double.binade=4503599627370496:=by decide
  have hlog:mag.log2<64:=(Nat.log2_lt h0).2 hm
  have hmag:mag<2 ^ (mag.log2+1):=Nat.lt_log2_self
  simp only [hl,hf,hb]
  refine Nat.lt_of_le_of_lt (Nat.min_le_left _ _) ?_
  have hmax:max (0+(mag.log2:Int) - (52:Nat)) (-1074)=(mag.log2:Int) - 52:=by omega
  rw [hmax]
  have hcut:=cut_le neg (mag <<< (0 - ((mag.log2:Int) - 52)).toNat) (((mag.log2:Int) - 52) - 0).toNat
  have key:(mag <<< (0 - ((mag.log2:Int) - 52)).toNat) / (1 <<< min (((mag.log2:Int) - 52) - 0).toNat ((mag <<< (0 - ((mag.log2:Int) - 52)).toNat).log2+2))<2 ^ 53:=by
   rcases (by omega:mag.log2≤52∨52<mag.log2) with hg | hg
   ·have e1:(((mag.log2:Int) - 52) - 0).toNat=0:=by omega
    have e2:(0 - ((mag.log2:Int) - 52)).toNat=52 - mag.log2:=by omega
    rw [e1,e2,Nat.zero_min]
    simp only [Nat.shiftLeft_zero,Nat.div_one]
    rw [Nat.shiftLeft_eq]
    calc mag*2 ^ (52 - mag.log2)<2 ^ (mag.log2+1)*2 ^ (52 - mag.log2):=Nat.mul_lt_mul_of_pos_right hmag (Nat.two_pow_pos _)
     _=2 ^ 53:=by rw [← Nat.pow_add];congr 1;omega
   ·have e1:(((mag.log2:Int) - 52) - 0).toNat=mag.log2 - 52:=by omega
    have e2:(0 - ((mag.log2:Int) - 52)).toNat=0:=by omega
    rw [e1,e2,Nat.shiftLeft_zero,Nat.min_eq_left (by omega),Nat.shiftLeft_eq,Nat.one_mul]
    rw [Nat.div_lt_iff_lt_mul (Nat.two_pow_pos _),← Nat.pow_add]
    rw [show 53+(mag.log2 - 52)=mag.log2+1 by omega]
    exact hmag
  have h3:(((mag.log2:Int) - 52) - (-1074)).toNat≤1085:=by omega
  have h4:=Nat.mul_le_mul_right 4503599627370496 h3
  rw [hi]
  have:(2:Nat) ^ 53=9007199254740992:=by decide
  omega
theorem fmul_some{a b:Int}(ha:a.natAbs<2 ^ 64)(hb:b.natAbs<2 ^ 64):(FloatKind.f64.format.mul (FloatKind.f64.nearest a) (FloatKind.f64.nearest b)).isSome=true:=by
 have ea:FloatKind.f64.nearest a=double.nearest (decide (a<0)) a.natAbs 0:=rfl
 have eb:FloatKind.f64.nearest b=double.nearest (decide (b<0)) b.natAbs 0:=rfl
 rw [ea,eb]
 obtain ⟨r,hr,e1⟩:=nearest_word (decide (a<0)) a.natAbs ha
 obtain ⟨r2,hr2,e2⟩:=nearest_word (decide (b<0)) b.natAbs hb
 obtain ⟨s,m,i,f1⟩:=read_num (decide (a<0)) r hr
 obtain ⟨s2,m2,i2,f2⟩:=read_num (decide (b<0)) r2 hr2
 rw [e1,e2]
 show (Option.map double.write ((double.read _).product (double.read _))).isSome=true
 rw [f1,f2]
 rfl
end Go.Sym
namespace Go.Proofs.YtidbmbpeblmliaaGreatDoor.Bnd
open Go.Sym Go.Proofs.YtidbmbpeblmliaaGreatDoor
def over(a:Int)(b:Int):Int:=
 (bif (b==0) then 0 else (bif (((a.tmod b) != 0)&&(!((decide (a<0))==(decide (b<0))))) then (IntKind.i64.wrap ((IntKind.i64.wrap (a.tdiv b)) - 1)) else (IntKind.i64.wrap (a.tdiv b))))
theorem over_c(a:Int)(b:Int):FCall Tryz.prog 257 [vI a,vI b] (.v (vI (over a b))):=by
 have ee0:=over.eq_1 a b
 refine ul Tryz.func257 rfl (fun B hB=>?_)
 refine u0 ?_
 refine rBlock ?_
 refine u0 ?_
 refine ud ee0 (fun hh1 ee1=>?_) (fun hh1 ee2=>?_)
 ·refine u0 ?_
  exact run_ret (blockR_ret (ut _ (by rw [ee1]<;>rfl)))
 ·refine uq [] [uo (b≠0)] ?_
  refine ud ee2 (fun hh2 ee3=>?_) (fun hh2 ee4=>?_)
  ·refine uq [] [uo (b≠0)] ?_
   exact run_ret (blockR_ret (ut _ (by rw [ee3]<;>rfl)))
  ·refine run_nil (blockR_normal ?_)
   refine uq [] [uo (b≠0)] ?_
   exact run_ret (ut _ (by rw [ee4]<;>rfl))
def beyond(n:Int):Bool:=
 ((decide (n<(-1000000000000)))||(decide (n>1000000000000)))
theorem beyond_c(n:Int):FCall Tryz.prog 195 [vI n] (.v (vB (beyond n))):=by
 have ee0:=beyond.eq_1 n
 refine ul Tryz.func195 rfl (fun B hB=>?_)
 refine u0 (u0 ?_)
 exact run_ret (ut _ (by rw [ee0]<;>rfl))
def flags(may:Bool)(mayNot:Bool):I2:=
 (bif (!may) then (⟨0,0⟩:I2) else (bif (!mayNot) then (⟨1,1⟩:I2) else (⟨0,1⟩:I2)))
theorem flags_c(may:Bool)(mayNot:Bool):FCall Tryz.prog 258 [vB may,vB mayNot] (.v (.agg (encI2 (flags may mayNot)))):=by
 have ee0:=flags.eq_1 may mayNot
 refine ul Tryz.func258 rfl (fun B hB=>?_)
 refine u0 ?_
 refine rBlock ?_
 refine u0 ?_
 refine ud ee0 (fun hh1 ee1=>?_) (fun hh1 ee2=>?_)
 ·refine u0 ?_
  exact run_ret (blockR_ret (ut _ (by rw [ee1]<;>rfl)))
 ·refine u0 ?_
  refine ud ee2 (fun hh2 ee3=>?_) (fun hh2 ee4=>?_)
  ·refine u0 ?_
   exact run_ret (blockR_ret (ut _ (by rw [ee3]<;>rfl)))
  ·refine run_nil (blockR_normal ?_)
   refine u0 ?_
   exact run_ret (ut _ (by rw [ee4]<;>rfl))
def times(a:Int)(b:Int):Int:=
 (bif (FloatKind.f64.format.order ((FloatKind.f64.format.mul (FloatKind.f64.nearest a) (FloatKind.f64.nearest b)).getD 0) 4791014804267466752==some .gt) then 2000000000000 else (bif (FloatKind.f64.format.order ((FloatKind.f64.format.mul (FloatKind.f64.nearest a) (FloatKind.f64.nearest b)).getD 0) 14014386841122242560==some .lt) then (-2000000000000) else (IntKind.i64.wrap (a*b))))
theorem times_c(a:Int)(b:Int)(h1:a.natAbs<2 ^ 64)(h2:b.natAbs<2 ^ 64):FCall Tryz.prog 256 [vI a,vI b] (.v (vI (times a b))):=by
 have ee0:=times.eq_1 a b
 refine ul Tryz.func256 rfl (fun B hB=>?_)
 refine u0 ?_
 refine uq [] [@pu ((FloatKind.f64.format.mul (FloatKind.f64.nearest a) (FloatKind.f64.nearest b)).isSome=true) (fmul_some om om)] ?_
 refine rBlock ?_
 refine u0 ?_
 refine ud ee0 (fun hh1 ee1=>?_) (fun hh1 ee2=>?_)
 ·refine u0 ?_
  exact run_ret (blockR_ret (ut _ (by rw [ee1]<;>rfl)))
 ·refine u0 ?_
  refine ud ee2 (fun hh2 ee3=>?_) (fun hh2 ee4=>?_)
  ·refine u0 ?_
   exact run_ret (blockR_ret (ut _ (by rw [ee3]<;>rfl)))
  ·refine run_nil (blockR_normal ?_)
   refine u0 ?_
   exact run_ret (ut _ (by rw [ee4]<;>rfl))
def hull_b1_r(l:List Int)(lx1:I2):I2:=
 lx1
def hull_b1(l:List Int)(li1:Nat)(lx1:I2):Fl I2 I2:=
 .nx (⟨(imin lx1.c0 (l.getD li1 0)),(imax lx1.c1 (l.getD li1 0))⟩:I2)
def hull_b1_s(l:List Int)(li1:Nat)(qv:Int)(lx1:I2):S:=mkS 31 [(2,.b (.v (.c (.ptr 2 0)))),(3,.b (.v (.c (.ptr 3 0)))),(13,.b (.v (.c (.lst 1 l.length (elM Sym.encI 0 l))))),(14,.b (.v (vI (l.length:Int)))),(15,.b (.v (vI qv)))] [(2,.cells [cI 0,cI 0]),(3,.cells (encI2 lx1))]
def hull(l:List Int):I2:=
 (runL (hull_b1 l) l.length 0 (⟨l.getD 0 0,l.getD 0 0⟩:I2)).fin (hull_b1_r l)
theorem hull_c(l:List Int)(hl:1≤l.length):FCall Tryz.prog 255 [.c (.lst 1 l.length (elM Sym.encI 0 l))] (.v (.agg (encI2 (hull l)))):=by
 have ee0:=hull.eq_1 l
 refine ul Tryz.func255 rfl (fun B hB=>?_)
 refine u0 ?_
 refine uq [] [ub 0 l.length,ub 0 l.length] ?_
 refine u0 ?_
 refine uS 0 1 l.length (elM Sym.encI 0 l) (fun hL1=>?_)
 refine uF l.length (hull_b1_s l) (hull_b1 l) (fun _ _=>True) (⟨l.getD 0 0,l.getD 0 0⟩:I2) rfl [2,3,13,14,15] [] trivial (fun li1 lx1 hi1 hJ1 hr1=>?_) (fun lx1 hJ1 hr1=>?_)
 ·have ee2:=hull_b1.eq_1 l li1 lx1
  refine uq [] [ub (li1:Int) l.length] ?_
  refine uq [] [ub 0 2,ub 1 2,ub 0 2,ub 1 2] ?_
  exact run_nil (uN (hull_b1_s l) (⟨(imin lx1.c0 (l.getD li1 0)),(imax lx1.c1 (l.getD li1 0))⟩:I2) hi1 [2,3,13,14,15] [] (trivial) ee2)
 ·have ee1:=(fin_nx ee0 hr1).trans (hull_b1_r.eq_1 l lx1)
  refine u0 ?_
  exact run_ret (ut _ (by rw [ee1]<;>rfl))
def k_mul(k:List I2):I2:=
 (hull [(times ((k.getD 0 zI2).c0) ((k.getD 1 zI2).c0)),(times ((k.getD 0 zI2).c0) ((k.getD 1 zI2).c1)),(times ((k.getD 0 zI2).c1) ((k.getD 1 zI2).c0)),(times ((k.getD 0 zI2).c1) ((k.getD 1 zI2).c1))])
theorem k_mul_c(k:List I2)(hk:2≤k.length)(hb:∀ i:Nat,(k.getD i zI2).c0.natAbs<2 ^ 64∧(k.getD i zI2).c1.natAbs<2 ^ 64):FCall Tryz.prog 187 [.c (.lst 2 k.length (elM encI2 zI2 k))] (.v (.agg (encI2 (k_mul k)))):=by
 have ee0:=k_mul.eq_1 k
 refine ul Tryz.func187 rfl (fun B hB=>?_)
 refine u0 ?_
 refine uq [] [@pu ((0 :Int)≤0∧0<(k.length:Int)) (by have hb0:=hb 0;have hb1:=hb 1;first | omega | (simp;done) | (simp;omega)),@pu ((0 :Int)≤1∧1<(k.length:Int)) (by have hb0:=hb 0;have hb1:=hb 1;first | omega | (simp;done) | (simp;omega))] ?_
 have cc1:=times_c ((k.getD 0 zI2).c0) ((k.getD 1 zI2).c0) (by have hb0:=hb 0;have hb1:=hb 1;first | omega | (simp;done) | (simp;omega)) (by have hb0:=hb 0;have hb1:=hb 1;first | omega | (simp;done) | (simp;omega))
 have cc2:=times_c ((k.getD 0 zI2).c0) ((k.getD 1 zI2).c1) (by have hb0:=hb 0;have hb1:=hb 1;first | omega | (simp;done) | (simp;omega)) (by have hb0:=hb 0;have hb1:=hb 1;first | omega | (simp;done) | (simp;omega))
 have cc3:=times_c ((k.getD 0 zI2).c1) ((k.getD 1 zI2).c0) (by have hb0:=hb 0;have hb1:=hb 1;first | omega | (simp;done) | (simp;omega)) (by have hb0:=hb 0;have hb1:=hb 1;first | omega | (simp;done) | (simp;omega))
 have cc4:=times_c ((k.getD 0 zI2).c1) ((k.getD 1 zI2).c1) (by have hb0:=hb 0;have hb1:=hb 1;first | omega | (simp;done) | (simp;omega)) (by have hb0:=hb 0;have hb1:=hb 1;first | omega | (simp;done) | (simp;omega))
 have cc5:=hull_c [(times ((k.getD 0 zI2).c0) ((k.getD 1 zI2).c0)),(times ((k.getD 0 zI2).c0) ((k.getD 1 zI2).c1)),(times ((k.getD 0 zI2).c1) ((k.getD 1 zI2).c0)),(times ((k.getD 0 zI2).c1) ((k.getD 1 zI2).c1))] (by have hb0:=hb 0;have hb1:=hb 1;first | omega | (simp;done) | (simp;omega))
 refine uq [(4,hcon cc1),(9,hcon cc2),(14,hcon cc3),(19,hcon cc4),(20,.frz 4 (elM Sym.encI 0 [(times ((k.getD 0 zI2).c0) ((k.getD 1 zI2).c0)),(times ((k.getD 0 zI2).c0) ((k.getD 1 zI2).c1)),(times ((k.getD 0 zI2).c1) ((k.getD 1 zI2).c0)),(times ((k.getD 0 zI2).c1) ((k.getD 1 zI2).c1))])),(21,hcon cc5)] [ub 0 2,ub 0 2,pu cc1,ub 0 2,ub 1 2,pu cc2,ub 1 2,ub 0 2,pu cc3,ub 1 2,ub 1 2,pu cc4,@pu (4=4∧∀ i,i<4→(elM Sym.encI 0 [(times ((k.getD 0 zI2).c0) ((k.getD 1 zI2).c0)),(times ((k.getD 0 zI2).c0) ((k.getD 1 zI2).c1)),(times ((k.getD 0 zI2).c1) ((k.getD 1 zI2).c0)),(times ((k.getD 0 zI2).c1) ((k.getD 1 zI2).c1))]) i=[[cI (times ((k.getD 0 zI2).c0) ((k.getD 1 zI2).c0))],[cI (times ((k.getD 0 zI2).c0) ((k.getD 1 zI2).c1))],[cI (times ((k.getD 0 zI2).c1) ((k.getD 1 zI2).c0))],[cI (times ((k.getD 0 zI2).c1) ((k.getD 1 zI2).c1))]].getD i []) (⟨rfl,fun i hi=>match i,hi with | 0,_=>rfl | 1,_=>rfl | 2,_=>rfl | 3,_=>rfl⟩),pu cc5] ?_
 exact run_ret (ut _ (by rw [ee0]<;>rfl))
def k_add(k:List I2):I2:=
 (⟨(IntKind.i64.wrap (((k.getD 0 zI2).c0)+((k.getD 1 zI2).c0))),(IntKind.i64.wrap (((k.getD 0 zI2).c1)+((k.getD 1 zI2).c1)))⟩:I2)
theorem k_add_c(k:List I2)(hk:2≤k.length):FCall Tryz.prog 185 [.c (.lst 2 k.length (elM encI2 zI2 k))] (.v (.agg (encI2 (k_add k)))):=by
 have ee0:=k_add.eq_1 k
 refine ul Tryz.func185 rfl (fun B hB=>?_)
 refine u0 ?_
 refine uq [] [ub 0 k.length,ub 0 2,ub 1 k.length,ub 0 2,ub 0 k.length,ub 1 2,ub 1 k.length,ub 1 2] ?_
 exact run_ret (ut _ (by rw [ee0]<;>rfl))
def k_sub(k:List I2):I2:=
 (⟨(IntKind.i64.wrap (((k.getD 0 zI2).c0) - ((k.getD 1 zI2).c1))),(IntKind.i64.wrap (((k.getD 0 zI2).c1) - ((k.getD 1 zI2).c0)))⟩:I2)
theorem k_sub_c(k:List I2)(hk:2≤k.length):FCall Tryz.prog 186 [.c (.lst 2 k.length (elM encI2 zI2 k))] (.v (.agg (encI2 (k_sub k)))):=by
 have ee0:=k_sub.eq_1 k
 refine ul Tryz.func186 rfl (fun B hB=>?_)
 refine u0 ?_
 refine uq [] [ub 0 k.length,ub 0 2,ub 1 k.length,ub 1 2,ub 0 k.length,ub 1 2,ub 1 k.length,ub 0 2] ?_
 exact run_ret (ut _ (by rw [ee0]<;>rfl))
def k_min(k:List I2):I2:=
 (⟨(imin ((k.getD 0 zI2).c0) ((k.getD 1 zI2).c0)),(imin ((k.getD 0 zI2).c1) ((k.getD 1 zI2).c1))⟩:I2)
theorem k_min_c(k:List I2)(hk:2≤k.length):FCall Tryz.prog 189 [.c (.lst 2 k.length (elM encI2 zI2 k))] (.v (.agg (encI2 (k_min k)))):=by
 have ee0:=k_min.eq_1 k
 refine ul Tryz.func189 rfl (fun B hB=>?_)
 refine u0 ?_
 refine uq [] [ub 0 k.length,ub 0 2,ub 1 k.length,ub 0 2,ub 0 k.length,ub 1 2,ub 1 k.length,ub 1 2] ?_
 exact run_ret (ut _ (by rw [ee0]<;>rfl))
def k_max(k:List I2):I2:=
 (⟨(imax ((k.getD 0 zI2).c0) ((k.getD 1 zI2).c0)),(imax ((k.getD 0 zI2).c1) ((k.getD 1 zI2).c1))⟩:I2)
theorem k_max_c(k:List I2)(hk:2≤k.length):FCall Tryz.prog 190 [.c (.lst 2 k.length (elM encI2 zI2 k))] (.v (.agg (encI2 (k_max k)))):=by
 have ee0:=k_max.eq_1 k
 refine ul Tryz.func190 rfl (fun B hB=>?_)
 refine u0 ?_
 refine uq [] [ub 0 k.length,ub 0 2,ub 1 k.length,ub 0 2,ub 0 k.length,ub 1 2,ub 1 k.length,ub 1 2] ?_
 exact run_ret (ut _ (by rw [ee0]<;>rfl))
def k_less(k:List I2):I2:=
 (flags (decide (((k.getD 0 zI2).c0)<((k.getD 1 zI2).c1))) (decide (((k.getD 0 zI2).c1)≥((k.getD 1 zI2).c0))))
theorem k_less_c(k:List I2)(hk:2≤k.length):FCall Tryz.prog 192 [.c (.lst 2 k.length (elM encI2 zI2 k))] (.v (.agg (encI2 (k_less k)))):=by
 have ee0:=k_less.eq_1 k
 refine ul Tryz.func192 rfl (fun B hB=>?_)
 refine u0 ?_
 have cc1:=flags_c (decide (((k.getD 0 zI2).c0)<((k.getD 1 zI2).c1))) (decide (((k.getD 0 zI2).c1)≥((k.getD 1 zI2).c0)))
 refine uq [(18,hcon cc1)] [ub 0 k.length,ub 0 2,ub 1 k.length,ub 1 2,ub 0 k.length,ub 1 2,ub 1 k.length,ub 0 2,pu cc1] ?_
 exact run_ret (ut _ (by rw [ee0]<;>rfl))
def k_equal(k:List I2):I2:=
 (flags (decide ((imax ((k.getD 0 zI2).c0) ((k.getD 1 zI2).c0))≤(imin ((k.getD 0 zI2).c1) ((k.getD 1 zI2).c1)))) (((((k.getD 0 zI2).c0) != ((k.getD 0 zI2).c1))||(((k.getD 1 zI2).c0) != ((k.getD 1 zI2).c1)))||(((k.getD 0 zI2).c0) != ((k.getD 1 zI2).c0))))
theorem k_equal_c(k:List I2)(hk:2≤k.length):FCall Tryz.prog 193 [.c (.lst 2 k.length (elM encI2 zI2 k))] (.v (.agg (encI2 (k_equal k)))):=by
 have ee0:=k_equal.eq_1 k
 refine ul Tryz.func193 rfl (fun B hB=>?_)
 refine u0 ?_
 refine uq [] [ub 0 k.length,ub 1 k.length] ?_
 have cc1:=flags_c (decide ((imax ((k.getD 0 zI2).c0) ((k.getD 1 zI2).c0))≤(imin ((k.getD 0 zI2).c1) ((k.getD 1 zI2).c1)))) (((((k.getD 0 zI2).c0) != ((k.getD 0 zI2).c1))||(((k.getD 1 zI2).c0) != ((k.getD 1 zI2).c1)))||(((k.getD 0 zI2).c0) != ((k.getD 1 zI2).c0)))
 refine uq [(30,hcon cc1)] [ub 0 2,ub 0 2,ub 1 2,ub 1 2,ub 0 2,ub 1 2,uh (!(((k.getD 0 zI2).c0) != ((k.getD 0 zI2).c1))) 0 2,uh (!(((k.getD 0 zI2).c0) != ((k.getD 0 zI2).c1))) 1 2,uh (!((((k.getD 0 zI2).c0) != ((k.getD 0 zI2).c1))||(((k.getD 1 zI2).c0) != ((k.getD 1 zI2).c1)))) 0 2,uh (!((((k.getD 0 zI2).c0) != ((k.getD 0 zI2).c1))||(((k.getD 1 zI2).c0) != ((k.getD 1 zI2).c1)))) 0 2,pu cc1] ?_
 exact run_ret (ut _ (by rw [ee0]<;>rfl))
def k_neg(k:List I2):I2:=
 (⟨(IntKind.i64.wrap (0 - (k.getD 0 zI2).c1)),(IntKind.i64.wrap (0 - (k.getD 0 zI2).c0))⟩:I2)
theorem k_neg_c(k:List I2)(hk:1≤k.length):FCall Tryz.prog 194 [.c (.lst 2 k.length (elM encI2 zI2 k))] (.v (.agg (encI2 (k_neg k)))):=by
 have ee0:=k_neg.eq_1 k
 refine ul Tryz.func194 rfl (fun B hB=>?_)
 refine u0 ?_
 refine uq [] [ub 0 k.length,ub 1 2,ub 0 k.length,ub 0 2] ?_
 exact run_ret (ut _ (by rw [ee0]<;>rfl))
def k_choose(k:List I2):I2:=
 (bif (decide (((k.getD 0 zI2).c0)>0)) then (k.getD 1 zI2) else (bif (decide (((k.getD 0 zI2).c1)≤0)) then (k.getD 2 zI2) else (hull [(k.getD 1 zI2).c0,(k.getD 1 zI2).c1,(k.getD 2 zI2).c0,(k.getD 2 zI2).c1])))
theorem k_choose_c(k:List I2)(hk:3≤k.length):FCall Tryz.prog 191 [.c (.lst 2 k.length (elM encI2 zI2 k))] (.v (.agg (encI2 (k_choose k)))):=by
 have ee0:=k_choose.eq_1 k
 refine ul Tryz.func191 rfl (fun B hB=>?_)
 refine u0 ?_
 refine uq [] [ub 0 k.length] ?_
 refine rBlock ?_
 refine uq [] [ub 0 2] ?_
 refine ud ee0 (fun hh1 ee1=>?_) (fun hh1 ee2=>?_)
 ·refine uq [] [ub 1 k.length] ?_
  exact run_ret (blockR_ret (ut _ (by rw [ee1]<;>rfl)))
 ·refine uq [] [ub 1 2] ?_
  refine ud ee2 (fun hh2 ee3=>?_) (fun hh2 ee4=>?_)
  ·refine uq [] [ub 2 k.length] ?_
   exact run_ret (blockR_ret (ut _ (by rw [ee3]<;>rfl)))
  ·refine run_nil (blockR_normal ?_)
   have cc1:=hull_c [(k.getD 1 zI2).c0,(k.getD 1 zI2).c1,(k.getD 2 zI2).c0,(k.getD 2 zI2).c1] vo
   refine uq [(16,.frz 4 (elM Sym.encI 0 [(k.getD 1 zI2).c0,(k.getD 1 zI2).c1,(k.getD 2 zI2).c0,(k.getD 2 zI2).c1])),(17,hcon cc1)] [ub 1 k.length,ub 0 2,ub 1 k.length,ub 1 2,ub 2 k.length,ub 0 2,ub 2 k.length,ub 1 2,@pu (4=4∧∀ i,i<4→(elM Sym.encI 0 [(k.getD 1 zI2).c0,(k.getD 1 zI2).c1,(k.getD 2 zI2).c0,(k.getD 2 zI2).c1]) i=[[cI ((k.getD 1 zI2).c0)],[cI ((k.getD 1 zI2).c1)],[cI ((k.getD 2 zI2).c0)],[cI ((k.getD 2 zI2).c1)]].getD i []) (⟨rfl,fun i hi=>match i,hi with | 0,_=>rfl | 1,_=>rfl | 2,_=>rfl | 3,_=>rfl⟩),pu cc1] ?_
   exact run_ret (ut _ (by rw [ee4]<;>rfl))
def k_div_b1_r(k:List I2)(jx1:(List Int))(lx1:(List Int)):I2:=
 (hull lx1)
def k_div_b1(k:List I2)(jx1:(List Int))(li1:Nat)(lx1:(List Int)):Fl (List Int) I2:=
 .nx (lx1++[(over ((k.getD 0 zI2).c0) (jx1.getD li1 0)),(over ((k.getD 0 zI2).c1) (jx1.getD li1 0))])
def k_div_b1_s(k:List I2)(jx1:(List Int))(li1:Nat)(qv:Int)(lx1:(List Int))(n4:Nat)(r4:List (List C)):S:=mkS 65 [(0,.b (.v (.c (.lst 2 k.length (elM encI2 zI2 k))))),(2,.b (.v (.c (.ptr 2 0)))),(4,.b (.v (.c (.row 4 n4)))),(41,.b (.v (.c (.row 15 jx1.length)))),(42,.b (.v (vI (jx1.length:Int)))),(43,.b (.v (vI qv)))] [(2,.cells [cI 0,cI 0]),(4,.row 3 1 r4),(15,.row 3 1 (jx1.map Sym.encI))]
def k_div_k1(k:List I2)(jx1:(List Int)):I2:=
 (runL (k_div_b1 k jx1) jx1.length 0 ([]:List Int)).fin (k_div_b1_r k jx1)
def k_div_k1_s(k:List I2)(jx1:(List Int))(n15:Nat)(r15:List (List C)):S:=mkS 65 [(0,.b (.v (.c (.lst 2 k.length (elM encI2 zI2 k))))),(2,.b (.v (.c (.ptr 2 0)))),(3,.b (.v (.c (.row 15 n15))))] [(2,.cells [cI 0,cI 0]),(15,.row 3 1 r15)]
def k_div(k:List I2):I2:=
 (bif ((decide (((k.getD 1 zI2).c0)≤0))&&(decide (((k.getD 1 zI2).c1)≥0))) then k_div_k1 k ([(k.getD 1 zI2).c0,(k.getD 1 zI2).c1]++[0,(imax (-1) ((k.getD 1 zI2).c0)),(imin 1 ((k.getD 1 zI2).c1))]) else k_div_k1 k [(k.getD 1 zI2).c0,(k.getD 1 zI2).c1])
theorem k_div_c(k:List I2)(hk:2≤k.length):FCall Tryz.prog 188 [.c (.lst 2 k.length (elM encI2 zI2 k))] (.v (.agg (encI2 (k_div k)))):=by
 have ee0:=k_div.eq_1 k
 refine ul Tryz.func188 rfl (fun B hB=>?_)
 refine u0 ?_
 refine uq [] [ub 1 k.length,ub 0 2,ub 1 k.length,ub 1 2] ?_
 refine uq [] [ub 1 k.length,ub 0 2,uh (decide (((k.getD 1 zI2).c0)≤0)) 1 k.length,uh (decide (((k.getD 1 zI2).c0)≤0)) 1 2] ?_
 refine rJoin (fun qz=>k_div_k1_s k qz qz.length (qz.map Sym.encI)) (fun jx1=>k_div k=k_div_k1 k jx1∧(1≤List.length jx1∧List.length jx1≤5)) nofun ?_ (fun jx1 ⟨ee1,hK1⟩=>?_)
 ·refine ud ee0 (fun hh1 ee4=>?_) (fun hh1 ee5=>?_)
  ·refine uq [(11,.frz 3 (elM Sym.encI 0 [0,(imax (-1) ((k.getD 1 zI2).c0)),(imin 1 ((k.getD 1 zI2).c1))]))] [ub 1 k.length,ub 0 2,ub 1 k.length,ub 1 2,@pu (3=3∧∀ i,i<3→(elM Sym.encI 0 [0,(imax (-1) ((k.getD 1 zI2).c0)),(imin 1 ((k.getD 1 zI2).c1))]) i=[[cI 0],[cI (imax (-1) ((k.getD 1 zI2).c0))],[cI (imin 1 ((k.getD 1 zI2).c1))]].getD i []) (⟨rfl,fun i hi=>match i,hi with | 0,_=>rfl | 1,_=>rfl | 2,_=>rfl⟩),@pu (2=[[cI ((k.getD 1 zI2).c0)],[cI ((k.getD 1 zI2).c1)]].length) (rowN (show 2=List.length [(k.getD 1 zI2).c0,(k.getD 1 zI2).c1] from rfl) (show [[cI ((k.getD 1 zI2).c0)],[cI ((k.getD 1 zI2).c1)]]=List.map Sym.encI [(k.getD 1 zI2).c0,(k.getD 1 zI2).c1] from rfl)),uo ((2+3)*(8+1)≤140737488355328)] ?_
   exact run_nil (joined ([(k.getD 1 zI2).c0,(k.getD 1 zI2).c1]++[0,(imax (-1) ((k.getD 1 zI2).c0)),(imin 1 ((k.getD 1 zI2).c1))]) ⟨ee4,(by simp)⟩ (rowW (fun qn qr=>k_div_k1_s k ([(k.getD 1 zI2).c0,(k.getD 1 zI2).c1]++[0,(imax (-1) ((k.getD 1 zI2).c0)),(imin 1 ((k.getD 1 zI2).c1))]) qn qr) (2+3) ([[cI ((k.getD 1 zI2).c0)],[cI ((k.getD 1 zI2).c1)]]++((List.range 3).map (elM Sym.encI 0 [0,(imax (-1) ((k.getD 1 zI2).c0)),(imin 1 ((k.getD 1 zI2).c1))]))) ([(k.getD 1 zI2).c0,(k.getD 1 zI2).c1]++[0,(imax (-1) ((k.getD 1 zI2).c0)),(imin 1 ((k.getD 1 zI2).c1))]) (rowAn (show 2=List.length [(k.getD 1 zI2).c0,(k.getD 1 zI2).c1] from rfl) [0,(imax (-1) ((k.getD 1 zI2).c0)),(imin 1 ((k.getD 1 zI2).c1))]) (rowA (show [[cI ((k.getD 1 zI2).c0)],[cI ((k.getD 1 zI2).c1)]]=List.map Sym.encI [(k.getD 1 zI2).c0,(k.getD 1 zI2).c1] from rfl) [0,(imax (-1) ((k.getD 1 zI2).c0)),(imin 1 ((k.getD 1 zI2).c1))]) (wkTo [0,2,3] [] kr)))
  ·exact run_nil (joined [(k.getD 1 zI2).c0,(k.getD 1 zI2).c1] ⟨ee5,(by simp)⟩ (rowW (fun qn qr=>k_div_k1_s k [(k.getD 1 zI2).c0,(k.getD 1 zI2).c1] qn qr) 2 [[cI ((k.getD 1 zI2).c0)],[cI ((k.getD 1 zI2).c1)]] [(k.getD 1 zI2).c0,(k.getD 1 zI2).c1] ((show 2=List.length [(k.getD 1 zI2).c0,(k.getD 1 zI2).c1] from rfl)) ((show [[cI ((k.getD 1 zI2).c0)],[cI ((k.getD 1 zI2).c1)]]=List.map Sym.encI [(k.getD 1 zI2).c0,(k.getD 1 zI2).c1] from rfl)) (wkTo [0,2,3] [] kr)))
 ·replace ee1:=ee1.trans (k_div_k1.eq_1 k jx1)
  refine u0 ?_
  refine uq [] [@pu (jx1.length=(jx1.map Sym.encI).length) (rowN rfl rfl)] ?_
  refine run_weaken (wk_nilRow 4 4 3 1 kr kr om) ?_ nofun
  refine rForX jx1.length (fun qi qv qz=>k_div_b1_s k jx1 qi qv qz qz.length (qz.map Sym.encI)) (k_div_b1 k jx1) (fun li1 lx1=>lx1.length=2*li1) ([]:List Int) rfl mix (rowW (fun qn qr=>k_div_b1_s k jx1 0 0 ([]:List Int) qn qr) 0 [] ([]:List Int) (rfl) (rfl) (wkTo [0,2,4,41,42,43] [] kr)) (by simp) (fun qi qz=>⟨kr,kr⟩) (fun li1 lx1 hi1 hJ1 hr1=>?_) (fun lx1 hJ1 hr1=>?_)
  ·have ee3:=k_div_b1.eq_1 k jx1 li1 lx1
   refine uq [(1,.frz 0 (fun _=>(Sym.encI (jx1.getD li1 0))))] [@pu ((0≤(li1:Int)∧(li1:Int)<(jx1.length:Int))∧jx1.length=(jx1.map Sym.encI).length) (⟨vo,rowN rfl rfl⟩),@pu ((jx1.length=(jx1.map Sym.encI).length∧li1<jx1.length)∧(jx1.map Sym.encI).getD li1 []=(Sym.encI (jx1.getD li1 0))) (rowGet rfl rfl vo)] ?_
   have cc2:=over_c ((k.getD 0 zI2).c0) (jx1.getD li1 0)
   have cc3:=over_c ((k.getD 0 zI2).c1) (jx1.getD li1 0)
   refine uq [(6,hcon cc2),(12,hcon cc3),(13,.frz 2 (elM Sym.encI 0 [(over ((k.getD 0 zI2).c0) (jx1.getD li1 0)),(over ((k.getD 0 zI2).c1) (jx1.getD li1 0))]))] [ub 0 k.length,ub 0 2,pu cc2,ub 0 k.length,ub 1 2,pu cc3,@pu (2=2∧∀ i,i<2→(elM Sym.encI 0 [(over ((k.getD 0 zI2).c0) (jx1.getD li1 0)),(over ((k.getD 0 zI2).c1) (jx1.getD li1 0))]) i=[[cI (over ((k.getD 0 zI2).c0) (jx1.getD li1 0))],[cI (over ((k.getD 0 zI2).c1) (jx1.getD li1 0))]].getD i []) (⟨rfl,fun i hi=>match i,hi with | 0,_=>rfl | 1,_=>rfl⟩),@pu (lx1.length=(lx1.map Sym.encI).length) (rowN rfl rfl),uo ((lx1.length+2)*(8+1)≤140737488355328)] ?_
   exact run_nil (forX_nx (fun qi qv qz=>k_div_b1_s k jx1 qi qv qz qz.length (qz.map Sym.encI)) (lx1++[(over ((k.getD 0 zI2).c0) (jx1.getD li1 0)),(over ((k.getD 0 zI2).c1) (jx1.getD li1 0))]) hi1 om kr (rowW (fun qn qr=>k_div_b1_s k jx1 (li1+1) (IntKind.i64.wrap ((li1:Int)+1)) (lx1++[(over ((k.getD 0 zI2).c0) (jx1.getD li1 0)),(over ((k.getD 0 zI2).c1) (jx1.getD li1 0))]) qn qr) (lx1.length+2) ((lx1.map Sym.encI)++((List.range 2).map (elM Sym.encI 0 [(over ((k.getD 0 zI2).c0) (jx1.getD li1 0)),(over ((k.getD 0 zI2).c1) (jx1.getD li1 0))]))) (lx1++[(over ((k.getD 0 zI2).c0) (jx1.getD li1 0)),(over ((k.getD 0 zI2).c1) (jx1.getD li1 0))]) (rowAn rfl [(over ((k.getD 0 zI2).c0) (jx1.getD li1 0)),(over ((k.getD 0 zI2).c1) (jx1.getD li1 0))]) (rowA rfl [(over ((k.getD 0 zI2).c0) (jx1.getD li1 0)),(over ((k.getD 0 zI2).c1) (jx1.getD li1 0))]) (wkTo [0,2,4,41,42,43] [] kr)) ((by simp;omega)) ee3)
  ·have ee2:=(fin_nx ee1 hr1).trans (k_div_b1_r.eq_1 k jx1 lx1)
   refine frzRow hB 4 4 lx1.length 3 1 (lx1.map Sym.encI) (elM Sym.encI 0 lx1) [2] [15] kr kr (len_row _ _) (elM_row _ _ _) kr ?_ nofun
   have cc1:=hull_c lx1 vo
   refine us 1 cc1 ?_
   exact run_ret (ut _ (by rw [ee2]<;>rfl))
def ranges_b1_r(l:List Rng)(lx1:(List (BA×I2))):Option (List (BA×I2)×Bool):=
 (some (lx1,(((Sym.encM Sym.encS encI2 lx1).length:Int)==(l.length:Int))))
def ranges_b1(l:List Rng)(li1:Nat)(lx1:(List (BA×I2))):Fl (List (BA×I2)) (Option (List (BA×I2)×Bool)):=
 (bif (((((((((LexS.lex ((l.getD li1 zRng).name)).2.1) != 0)||(((((LexS.lex ((l.getD li1 zRng).name)).1).length:Nat):Int) != 1))||(((((LexS.lex ((l.getD li1 zRng).name)).1).getD 0 zTok).kind) != 1))||(!(((((LexS.lex ((l.getD li1 zRng).name)).1).getD 0 zTok).text).toList==((l.getD li1 zRng).name).toList)))||(beyond ((l.getD li1 zRng).low)))||(beyond ((l.getD li1 zRng).high)))||(decide (((l.getD li1 zRng).low)>((l.getD li1 zRng).high)))) then .rt none else .nx (mput Sym.eqS lx1 ((l.getD li1 zRng).name) (⟨(l.getD li1 zRng).low,(l.getD li1 zRng).high⟩:I2)))
def ranges_b1_s(l:List Rng)(li1:Nat)(qv:Int)(lx1:(List (BA×I2))):S:=mkS 79 [(0,.b (.v (.c (.lst 3 l.length (elM encRng zRng l))))),(4,.b (.v (.c (.omap 10)))),(11,.b (.v (.c (.lst 3 l.length (elM encRng zRng l))))),(12,.b (.v (vI (l.length:Int)))),(13,.b (.v (vI qv)))] [(10,.omap false true (Sym.encM Sym.encS encI2 lx1))]
def ranges(l:List Rng):Option (List (BA×I2)×Bool):=
 (runL (ranges_b1 l) l.length 0 ([]:List (BA×I2))).fin (ranges_b1_r l)
def ranges_o:Option (List (BA×I2)×Bool)→SB
 | none=>.tup [.c (.lit (Value.map none)),vB false]
 | some m=>.tup [.c (.kmap false true (Sym.encM Sym.encS encI2 m.1)),vB m.2]
theorem ranges_c(l:List Rng):FCall Tryz.prog 184 [.c (.lst 3 l.length (elM encRng zRng l))] (ranges_o (ranges l)):=by
 have ee0:=ranges.eq_1 l
 refine ul Tryz.func184 rfl (fun B hB=>?_)
 refine u0 (u0 (u0 ?_))
 refine uS 0 3 l.length (elM encRng zRng l) (fun hL1=>?_)
 refine uF l.length (ranges_b1_s l) (ranges_b1 l) (fun _ _=>True) ([]:List (BA×I2)) rfl [0,4,11,12,13] [] trivial (fun li1 lx1 hi1 hJ1 hr1=>?_) (fun lx1 hJ1 hr1=>?_)
 ·have ee2:=ranges_b1.eq_1 l li1 lx1
  refine uq [] [ub (li1:Int) l.length] ?_
  have cc1:=LexS.lex_c ((l.getD li1 zRng).name)
  refine us 2 cc1 ?_
  have cc2:=beyond_c ((l.getD li1 zRng).low)
  have cc3:=beyond_c ((l.getD li1 zRng).high)
  refine uq [(26,hcon cc2),(31,hcon cc3)] [uh (!((((LexS.lex ((l.getD li1 zRng).name)).2.1) != 0)||(((((LexS.lex ((l.getD li1 zRng).name)).1).length:Nat):Int) != 1))) 0 ((LexS.lex ((l.getD li1 zRng).name)).1).length,uh (!(((((LexS.lex ((l.getD li1 zRng).name)).2.1) != 0)||(((((LexS.lex ((l.getD li1 zRng).name)).1).length:Nat):Int) != 1))||(((((LexS.lex ((l.getD li1 zRng).name)).1).getD 0 zTok).kind) != 1))) 0 ((LexS.lex ((l.getD li1 zRng).name)).1).length,pu cc2,pu cc3] ?_
  refine ud ee2 (fun hh1 ee3=>?_) (fun hh1 ee5=>?_)
  ·refine u0 ?_
   have ee4:=fin_rt ee0 hr1 hi1 ee3
   exact run_ret (ut _ (by rw [ee4]<;>rfl))
  ·refine uq [(8,.put (Sym.encM Sym.encS encI2 (mput Sym.eqS lx1 ((l.getD li1 zRng).name) (⟨(l.getD li1 zRng).low,(l.getD li1 zRng).high⟩:I2))))] [uk 9 false [.str],@pu (Put (Sym.encM Sym.encS encI2 lx1) (Sym.encS ((l.getD li1 zRng).name)) (encI2 (⟨(l.getD li1 zRng).low,(l.getD li1 zRng).high⟩:I2)) (Sym.encM Sym.encS encI2 (mput Sym.eqS lx1 ((l.getD li1 zRng).name) (⟨(l.getD li1 zRng).low,(l.getD li1 zRng).high⟩:I2)))) (put_of Sym.keyS _ _ _)] ?_
   exact run_nil (uN (ranges_b1_s l) (mput Sym.eqS lx1 ((l.getD li1 zRng).name) (⟨(l.getD li1 zRng).low,(l.getD li1 zRng).high⟩:I2)) hi1 [0,4,11,12,13] [6] (trivial) ee5)
 ·have ee1:=(fin_nx ee0 hr1).trans (ranges_b1_r.eq_1 l lx1)
  refine u0 ?_
  refine frzMap hB 2 10 false true (Sym.encM Sym.encS encI2 lx1) [3] [] kr kr kr ?_ nofun
  exact run_ret (ut _ (by rw [ee1]<;>rfl))
end Go.Proofs.YtidbmbpeblmliaaGreatDoor.Bnd
namespace Go.Sym
open Go.RowKit Go.ChangeMaps
variable {P:Program} {w:World}
def wpL(P:Program)(Q:Exit→Act→World→Prop):List Oper→Act→World→Prop
 | [],a,w=>Q .normal a w
 | o :: r,a,w=>o.wpIn (FB none) 0 P a w (wpL P Q r) Q
theorem wpL_eq{ops:Array Oper}{Q:Exit→Act→World→Prop}:∀ l:List Oper,(∀ o,o∈l→o.guard=none)→wpListIn (FB none) 0 P ops Q l=wpL P Q l
 | [],_=>by funext a w;simp [wpListIn,wpL]
 | o :: r,h=>by
  funext a w
  have hg:=h o (List.mem_cons_self ..)
  have hw:∀ y,Region.wanted o y=true:=fun y=>by simp [Region.wanted,hg]
  simp only [wpListIn,wpL,hw,if_true]
  rw [wpL_eq r fun o' h'=>h o' (List.mem_cons_of_mem _ h')]
theorem wpIn_list{id:Nat}{ops:List Oper}{Q:Exit→Act→World→Prop}{a:Act}(hg:∀ o,o∈ops→o.guard=none)(h:wpL P Q ops a w):(Code.region id ops.toArray false).wpIn (FB none) 0 P Q a w:=by
 refine wpIn_region ?_
 have e:=wpOpsIn_eq_wpListIn (F:=FB none) (n:=0) (P:=P) (ops:=ops.toArray) (Q:=Q) ops 0 (fun j=>by simp)
 rw [List.range_eq_range',show ops.toArray.size=ops.length by simp,e,wpL_eq ops hg]
 exact h
theorem op_value{o:Oper}{a:Act}{w':World}{v:Value}{next:Act→World→Prop}{Q:Exit→Act→World→Prop}(hnd:∀ c,o.op≠.defer c)(hrun:(execOp a.eval o).run P w=.ok (.value v) w')(h:next (a.put o.dst v) w'):o.wpIn (FB none) 0 P a w next Q:=
 wpIn_of hnd (by rw [hrun];exact h)
theorem eval_put_eq{a:Act}{d:Nat}{v:Value}(h:d<a.tmps.size):(a.put (some d) v).eval (.tmp d)=v:=by
 show (a.tmps.setIfInBounds d v).getD d undef=v
 simp [Array.getD_eq_getD_getElem?,h]
theorem eval_put_ne{a:Act}{d k:Nat}{v:Value}(h:k≠d):(a.put (some d) v).eval (.tmp k)=a.eval (.tmp k):=by
 show (a.tmps.setIfInBounds d v).getD k undef=a.tmps.getD k undef
 simp [Array.getD_eq_getD_getElem?,Array.getElem?_setIfInBounds_ne (Ne.symm h)]
theorem size_put{a:Act}{d:Nat}{v:Value}:(a.put (some d) v).tmps.size=a.tmps.size:=by
 show (a.tmps.setIfInBounds d v).size=a.tmps.size
 simp
theorem perm_rest{n i:Nat}{l:List Nat}(hn:l.Nodup)(hlt:∀ x,x∈l→x<n)(hi:i<n)(hil:i∉l):∃ rest,(l++i :: rest).Perm (List.range n):=by
 refine ⟨(List.range n).filter fun x=>!(l++[i]).contains x,?_⟩
 refine (List.perm_ext_iff_of_nodup ?_ List.nodup_range).2 fun x=>?_
 ·refine List.nodup_append.2 ⟨hn,List.nodup_cons.2 ⟨?_,List.Pairwise.filter _ List.nodup_range⟩,?_⟩
  ·simp
  ·intro x hx y hy e
   subst e
   rcases List.mem_cons.1 hy with rfl | hy
   ·exact hil hx
   ·simp [hx] at hy
 ·simp only [List.mem_append,List.mem_cons,List.mem_filter,List.mem_range,List.contains_eq_mem,List.not_mem_nil,or_false,Bool.not_eq_true',decide_eq_false_iff_not]
  constructor
  ·rintro (h | rfl | ⟨h,_⟩)
   ·exact hlt x h
   ·exact hi
   ·exact h
  ·intro h
   by_cases h1:x∈l
   ·exact .inl h1
   by_cases h2:x=i
   ·exact .inr (.inl h2)
   ·refine .inr (.inr ⟨h,?_⟩)
    rintro (h | h)
    ·exact h1 h
    ·exact h2 h
end Go.Sym
namespace Go.Sym
open Go Go.RowKit Go.ChangeMaps
variable {P:Program}
def symF(l:List (ByteArray×Int))(op:Int):ByteArray:=match l.find? (fun e=>e.2==op) with
 | some e=>e.1
 | none=>⟨#[]⟩
theorem symF_none{l:List (ByteArray×Int)}{op:Int}(h:∀ i,i<l.length→(l.getD i (⟨#[]⟩,0)).2≠op):symF l op=⟨#[]⟩:=by
 unfold symF
 rw [List.find?_eq_none.2 (fun e he=>?_)]
 obtain ⟨i,hi,rfl⟩:=List.getElem_of_mem he
 have:=h i hi
 simpa [gE,hi] using this
theorem symF_some{l:List (ByteArray×Int)}{op:Int}(hu:(l.map (·.2)).Nodup){i:Nat}(hi:i<l.length)(h:(l.getD i (⟨#[]⟩,0)).2=op):symF l op=(l.getD i (⟨#[]⟩,0)).1:=by
 induction l generalizing i with
 | nil=>simp at hi
 | cons e l ih =>
  obtain ⟨h1,h2⟩:=List.nodup_cons.1 hu
  cases i with
  | zero =>
   have h:e.2=op:=by simpa using h
   simp [symF,h]
  | succ i =>
   have hi:i<l.length:=by simpa using hi
   have h:(l.getD i (⟨#[]⟩,0)).2=op:=by simpa using h
   have hne:(e.2==op)=false:=by
    rw [beq_eq_false_iff_ne]
    intro he
    refine h1 ?_
    show e.2∈_
    rw [he,← h]
    have:l.getD i (⟨#[]⟩,0)∈l:=by simp [gE,hi]
    exact List.mem_map.2 ⟨_,this,rfl⟩
   have:=ih h2 hi h
   simp only [symF,List.find?_cons,hne] at this ⊢
   simpa using this
structure FindLoop (z b:Nat) (es:Array MapEntry) (l:List (ByteArray×Int)) (op:Int) (w:World) (a:Act) (W:World) (seen:Array Nat):Prop where
 size:a.tmps.size=18
 defers:a.defers=[]
 op':a.eval (.tmp 1)=.int .i64 op
 it:a.eval (.tmp 8)=.pointer (some ⟨z,0,none⟩)
 at':W.heap[z]?=some (.mapIter (some b) es.size seen es.size)
 nd:seen.toList.Nodup
 lt:∀ x,x∈seen.toList→x<es.size
 no:∀ x,x∈seen.toList→(l.getD x (⟨#[]⟩,0)).2≠op
 below:Below w.heap.size w W
theorem fcall_find{f mt et r0 r1 r2 r3 r4 r5 r6 id0 id1:Nat}{fn:Func}{z0 a0 a1 b0 b1 c0 c1 c2 c3 c4 d0 d1 d2 e0 e1 g0:Oper}{l:List (ByteArray×Int)}{op:Int} 
  (hf:P.funcs[f]?=some fn) (hname:(fn.name== "runtime.NumGoroutine")=false)
  (hb:fn.body=some ((Code.region r0 #[z0] false).seq (((Code.region r1 #[a0,a1] false).seq (Code.block id0 (.loop ((Code.region r2 #[b0,b1] false).seq ((Code.cond (.tmp 10) .skip (.exit id0)).seq (Code.block id1 ((Code.region r3 #[c0,c1,c2,c3,c4] false).seq ((Code.region r4 #[d0,d1,d2] false).seq (Code.cond (.tmp 16) ((Code.region r5 #[e0,e1] false).seq .ret) .skip))))))))).seq ((Code.region r6 #[g0] false).seq .ret))))
  (hn:fn.ntmps=18) (hres:fn.results=#[.tmp 4]) (hg:[z0,a0,a1,b0,b1,c0,c1,c2,c3,c4,d0,d1,d2,e0,e1,g0].all (fun o=>o.guard.isNone)=true)
  (hz0:z0.op=.assign (.const (.string ⟨#[]⟩))∧z0.dst=some 4)
  (ha0:a0.op=.move (.tmp 0)∧a0.dst=some 7) (ha1:a1.op=.range mt (.tmp 7)∧a1.dst=some 8)
  (hb0:b0.op=.next (.tmp 8) false∧b0.dst=some 9) (hb1:b1.op=.extract (.tmp 9) 0∧b1.dst=some 10)
  (hc0:c0.op=.entry (.tmp 8)∧c0.dst=some 11) (hc1:c1.op=.extract (.tmp 11) 0∧c1.dst=some 12) (hc2:c2.op=.extract (.tmp 11) 1∧c2.dst=some 13) (hc3:c3.op=.assign (.tmp 12)∧c3.dst=some 5) (hc4:c4.op=.assign (.tmp 13)∧c4.dst=some 6)
  (hd0:d0.op=.move (.tmp 6)∧d0.dst=some 14) (hd1:d1.op=.move (.tmp 1)∧d1.dst=some 15) (hd2:d2.op=.binOp .eql et (.tmp 14) (.tmp 15) et∧d2.dst=some 16)
  (he0:e0.op=.move (.tmp 5)∧e0.dst=some 17) (he1:e1.op=.assign (.tmp 17)∧e1.dst=some 4) (hg0:g0.op=.assign (.const (.string ⟨#[]⟩))∧g0.dst=some 4)
  {kt vt:Nat} (hu:P.underlying mt=some (.map kt vt)) (hnd:(l.map (·.2)).Nodup) :
  FCall P f [.c (.kmap false false (encM encS encI l)),vI op] (.v (.c (.str (symF l op)))):=by
 have hg':∀ o,o∈[z0,a0,a1,b0,b1,c0,c1,c2,c3,c4,d0,d1,d2,e0,e1,g0]→o.guard=none:=fun o ho=>by
  have:=List.all_eq_true.1 hg o ho
  simpa using this
 refine ⟨⟨fn,hf,by rw [hb];rfl,hname⟩,?_⟩
 intro K w cvs hKl hK hsz hrel
 obtain ⟨v0,v1,rfl⟩:∃ v0 v1,cvs=#[v0,v1]:=by
  have:cvs.size=2:=hsz
  exact ⟨cvs[0],cvs[1],Array.ext (by simp [this]) fun i h1 h2=>by
   rcases (by omega:i=0∨i=1) with rfl | rfl<;>rfl⟩
 have hv0:=(hrel 0 (by simp)).1
 have hv1:=(hrel 1 (by simp)).1
 simp at hv0 hv1
 obtain ⟨b,es,rfl,hKm,hmr⟩:=kmap_rel hv0
 obtain rfl:v1=.int .i64 op:=by cases hv1;rfl
 obtain ⟨zz,hez⟩:∃ zz,w.heap.size=zz:=⟨_,rfl⟩
 have hborn:∀ j (h:j<es.size),es[j].born=j:=fun j h=>(hmr.2 j es[j] (by simp [h])).2.2
 have hnd':(es.toList.map (·.born)).Nodup:=by
  have:es.toList.map (·.born)=List.range es.size:=by
   refine List.ext_getElem (by simp) fun i h1 h2=>?_
   simp at h1
   simp [hborn i h1]
  rw [this];exact List.nodup_range
 have hlen:es.size=l.length:=by have:=hmr.1;simpa [encM] using this
 have hent:∀ i,i<es.size→∀ e,es[i]?=some e→e.key=.string (l.getD i (⟨#[]⟩,0)).1∧(l.getD i (⟨#[]⟩,0)).1.size≤maxLen∧e.val=.int .i64 (l.getD i (⟨#[]⟩,0)).2:=fun i hi e he=>by
  obtain ⟨⟨hkr,hko⟩,⟨hvr,hvo⟩,_⟩:=hmr.2 i e he
  have hx:(encM encS encI l).getD i ([],[])=([.str (l.getD i (⟨#[]⟩,0)).1],[cI (l.getD i (⟨#[]⟩,0)).2]):=by
   have:i<l.length:=by omega
   simp [encM,gE,this,encS,encI]
  rw [hx] at hkr hvr
  have h1:=(hkr.2 0 (by simp)).1
  have h2:=(hvr.2 0 (by simp)).1
  rw [oneOr_cells hko] at h1
  rw [oneOr_cells hvo] at h2
  simp at h1 h2
  refine ⟨?_,?_,?_⟩
  ·generalize e.key=u at h1 ⊢
   cases h1;rfl
  ·generalize e.key=u at h1
   cases h1;assumption
  ·generalize e.val=u at h2 ⊢
   cases h2;rfl
 refine (callsIn_wide (n:=0)).1 (callsIn_of_wp hf hb trivial ?_ rfl)
 have hts:∀ u:Array Value,u=#[Value.map (some b),Value.int .i64 op]++Array.replicate (fn.ntmps - (#[Value.map (some b),Value.int .i64 op]).size) undef →
   u.size=18∧u.getD 0 undef=.map (some b)∧u.getD 1 undef=.int .i64 op:=by
  rintro u rfl
  refine ⟨by simp [hn],?_,?_⟩
  ·rw [Array.getD_eq_getD_getElem?,Array.getElem?_append_left (by simp)];rfl
  ·rw [Array.getD_eq_getD_getElem?,Array.getElem?_append_left (by simp)];rfl
 obtain ⟨t1,t2,t3⟩:=hts _ rfl
 generalize #[Value.map (some b),Value.int .i64 op]++Array.replicate (fn.ntmps - (#[Value.map (some b),Value.int .i64 op]).size) undef=u at t1 t2 t3
 refine wpIn_seq (wpIn_list (ops:=[z0]) (fun o ho=>hg' o (by simp at ho ⊢;simp [ho])) ?_)
 refine op_value (v:=.string ⟨#[]⟩) (w':=w) (by simp [hz0.1]) (by simp only [execOp,hz0.1,Sem.run_pure,Act.eval]) ?_
 rw [hz0.2]
 have s0:(({ tmps:=u,defers:=[] }:Act).put (some 4) (.string ⟨#[]⟩)).tmps.size=18:=by rw [size_put];exact t1
 have s1:(({ tmps:=u,defers:=[] }:Act).put (some 4) (.string ⟨#[]⟩)).eval (.tmp 0)=.map (some b):=by rw [eval_put_ne (by omega)];exact t2
 have s2:(({ tmps:=u,defers:=[] }:Act).put (some 4) (.string ⟨#[]⟩)).eval (.tmp 1)=.int .i64 op:=by rw [eval_put_ne (by omega)];exact t3
 have s3:(({ tmps:=u,defers:=[] }:Act).put (some 4) (.string ⟨#[]⟩)).defers=[]:=rfl
 generalize ({ tmps:=u,defers:=[] }:Act).put (some 4) (.string ⟨#[]⟩)=A0 at s0 s1 s2 s3
 show (Code.seq _ _).wpIn (FB none) 0 P _ A0 w
 refine wpIn_seq (wpIn_seq (wpIn_list (ops:=[a0,a1]) (fun o ho=>hg' o (by simp at ho ⊢;rcases ho with rfl | rfl<;>simp)) ?_))
 refine op_value (v:=.map (some b)) (w':=w) (by simp [ha0.1]) (by simp only [execOp,ha0.1,s1,Sem.run_pure]) ?_
 rw [ha0.2]
 refine op_value (w':=w.alloc (.mapIter (some b) es.size #[] es.size)) (v:=.pointer (some ⟨zz,0,none⟩)) (by simp [ha1.1]) ?_ ?_
 ·simp only [execOp,ha1.1,eval_put_eq (a:=A0) (d:=7) (v:=.map (some b)) (by rw [s0];omega),Sem.run_bind,run_range_map w mt kt vt b es es.size hu (hK _ _ hKm),Result.andThen_ok,Sem.run_pure,hez]
 rw [ha1.2]
 have hstart:FindLoop zz b es l op w ((A0.put (some 7) (.map (some b))).put (some 8) (.pointer (some ⟨zz,0,none⟩))) (w.alloc (.mapIter (some b) es.size #[] es.size)) #[]:=by
  refine ⟨by rw [size_put,size_put,s0],s3,by rw [eval_put_ne (by omega),eval_put_ne (by omega),s2],by rw [eval_put_eq (by rw [size_put,s0];omega)],by rw [← hez];exact World.alloc_heap_new w _,List.nodup_nil,fun x hx=>by simp at hx,fun x hx=>by simp at hx,?_⟩
  exact ⟨rfl,rfl,rfl,by simp,fun c hc=>Below.heap_alloc _ _ _ hc⟩
 generalize (A0.put (some 7) (.map (some b))).put (some 8) (.pointer (some ⟨zz,0,none⟩))=A1 at hstart
 generalize w.alloc (.mapIter (some b) es.size #[] es.size)=W0 at hstart
 show (Code.block id0 _).wpIn (FB none) 0 P _ A1 W0
 refine wpIn_block (wpIn_loop (fun a W=>∃ seen,FindLoop zz b es l op w a W seen) (fun _ W=>match W.heap[zz]? with | some (.mapIter _ _ s _)=>es.size - s.size | _=>0) ⟨_,hstart⟩ ?_)
 clear hstart
 rintro a W ⟨seen,h⟩
 have hbw:b<w.heap.size:=(Array.getElem?_eq_some_iff.1 (hK _ _ hKm)).1
 have hWb:W.heap[b]?=some (.map es es.size):=(h.below.block b hbw).trans (hK _ _ hKm)
 have hold:∀ x∈es.toList,x.born<es.size:=fun x hx=>by
  obtain ⟨j,hj,rfl⟩:=List.getElem_of_mem hx
  simp at hj
  simp [hborn j hj,hj]
 have hfin:∀ (a:Act) (W:World) (s:ByteArray),a.defers=[]→a.eval (.tmp 4)=.string s→s=symF l op→s.size≤maxLen→Below w.heap.size w W→bodyPost P fn (fun e w'=>∃ K' v,K.le K'∧(∀ b,b<w.heap.size→K b=none→K' b=none)∧Knows K' w'∧Below w.heap.size w w'∧e=.returned v∧RelSBK K' (.v (.c (.str (symF l op)))) v) .ret a W:=by
  intro a W s h1 h2 h3 h4 h5
  subst h3
  refine ⟨h1,.string (symF l op),?_,K,.string (symF l op),Know.le_refl _,fun _ _ h=>h,fun c x hc=>?_,h5,rfl,RelK.str _ h4,rfl⟩
  ·have h2':a.tmps.getD 4 undef=.string (symF l op):=h2
   simp [results,hres]
   simpa using h2'
  ·have h6:=hK c x hc
   rw [h5.block c (Array.getElem?_eq_some_iff.1 h6).1];exact h6
 refine wpIn_seq (wpIn_list (ops:=[b0,b1]) (fun o ho=>hg' o (by simp at ho ⊢;rcases ho with rfl | rfl<;>simp)) ?_)
 rcases run_next_at (P:=P) W b0.type zz b es.size es.size seen es es.size h.at' hWb hold (Nat.le_refl _) with ⟨hl0,hrun⟩ | ⟨e,he,w2,hw2,hrun⟩
 ·
  refine op_value (v:=.tuple #[.bool false]) (w':=W) (by simp [hb0.1]) (by simp only [execOp,hb0.1,h.it,Sem.run_bind,hrun,Result.andThen_ok,Sem.run_pure]) ?_
  rw [hb0.2]
  refine op_value (v:=.bool false) (w':=W) (by simp [hb1.1]) (by simp [execOp,hb1.1,eval_put_eq (a:=a) (d:=9) (v:=.tuple #[.bool false]) (by rw [h.size];omega),Instr.extract]) ?_
  rw [hb1.2]
  refine wpIn_seq (wpIn_cond_false (by rw [eval_put_eq (by rw [size_put,h.size];omega)]) (wpIn_exit ?_))
  simp only [Exit.then,Exit.inBlock,if_true]
  have hall:symF l op=⟨#[]⟩:=symF_none fun i hi=>by
   refine h.no i ?_
   have hxe:i<es.size:=by rw [hlen];exact hi
   have h1:leftOf es seen=#[]:=Array.eq_empty_of_size_eq_zero hl0
   rw [leftOf,Array.filter_eq_empty_iff] at h1
   have h2:=h1 es[i] (by simp)
   rw [hborn i hxe] at h2
   simpa using h2
  have q1:((a.put (some 9) (.tuple #[.bool false])).put (some 10) (.bool false)).tmps.size=18:=by rw [size_put,size_put,h.size]
  have q2:((a.put (some 9) (.tuple #[.bool false])).put (some 10) (.bool false)).defers=[]:=h.defers
  generalize (a.put (some 9) (.tuple #[.bool false])).put (some 10) (.bool false)=A2 at q1 q2
  show (Code.seq _ _).wpIn (FB none) 0 P _ A2 W
  refine wpIn_seq (wpIn_list (ops:=[g0]) (fun o ho=>hg' o (by simp at ho ⊢;simp [ho])) ?_)
  refine op_value (v:=.string ⟨#[]⟩) (w':=W) (by simp [hg0.1]) (by simp only [execOp,hg0.1,Sem.run_pure,Act.eval]) ?_
  rw [hg0.2]
  show Code.ret.wpIn (FB none) 0 P _ (A2.put (some 4) (.string ⟨#[]⟩)) W
  exact wpIn_ret (hfin (A2.put (some 4) (.string ⟨#[]⟩)) W ⟨#[]⟩ q2 (eval_put_eq (by rw [q1];omega)) hall.symm (by decide) h.below)
 ·
  obtain ⟨hee,hes⟩:e∈es.toList∧e.born∉seen.toList:=by
   simp [leftOf] at he
   exact ⟨by simpa using he.1,by simpa using he.2⟩
  obtain ⟨i,hi',hie⟩:=List.getElem_of_mem hee
  have hi:i<es.size:=by simpa using hi'
  have heq:es[i]=e:=by simpa using hie
  have hbi:e.born=i:=by rw [← heq];exact hborn i hi
  rw [hbi] at hes hrun
  have hw2h:w2.heap=W.heap∧w2.os=W.os∧w2.tape=W.tape∧w2.output=W.output:=by rcases hw2 with rfl | rfl<;>exact ⟨rfl,rfl,rfl,rfl⟩
  obtain ⟨hwh,hwo,hwt,hwp⟩:=hw2h
  have hzW:zz<W.heap.size:=(Array.getElem?_eq_some_iff.1 h.at').1
  generalize hW2:setBlock w2 zz (.mapIter (some b) es.size (seen.push i) es.size)=W2 at hrun
  have g1:W2.heap[zz]?=some (.mapIter (some b) es.size (seen.push i) es.size):=by rw [← hW2];simp [setBlock,hwh,hzW]
  have g2:∀ c,c≠zz→W2.heap[c]?=W.heap[c]?:=fun c hc=>by rw [← hW2];simp [setBlock,hwh,Array.getElem?_setIfInBounds_ne (Ne.symm hc)]
  have g3:W2.heap.size=W.heap.size:=by rw [← hW2];simp [setBlock,hwh]
  have g4:W2.os=W.os∧W2.tape=W.tape∧W2.output=W.output:=by rw [← hW2];exact ⟨hwo,hwt,hwp⟩
  have hbz:b≠zz:=fun e=>by omega
  have g5:W2.heap[b]?=some (.map es es.size):=(g2 b hbz).trans hWb
  have g6:Below w.heap.size w W2:=⟨g4.1.trans h.below.os,g4.2.1.trans h.below.tape,g4.2.2.trans h.below.output,by rw [g3];exact h.below.size,fun c hc=>(g2 c (by omega)).trans (h.below.block c hc)⟩
  obtain ⟨ek,eks,ev⟩:=hent i hi e (by rw [← heq];simp [hi])
  have hil:i<l.length:=by omega
  refine op_value (v:=.tuple #[.bool true,e.key,e.val]) (w':=W2) (by simp [hb0.1]) (by simp only [execOp,hb0.1,h.it,Sem.run_bind,hrun,Result.andThen_ok,Sem.run_pure]) ?_
  rw [hb0.2]
  refine op_value (v:=.bool true) (w':=W2) (by simp [hb1.1]) (by simp [execOp,hb1.1,eval_put_eq (a:=a) (d:=9) (v:=.tuple #[.bool true,e.key,e.val]) (by rw [h.size];omega),Instr.extract]) ?_
  rw [hb1.2]
  refine wpIn_seq (wpIn_cond_true (by rw [eval_put_eq (by rw [size_put,h.size];omega)]) (wpIn_skip ?_))
  have p1:((a.put (some 9) (.tuple #[.bool true,e.key,e.val])).put (some 10) (.bool true)).tmps.size=18:=by rw [size_put,size_put,h.size]
  have p2:((a.put (some 9) (.tuple #[.bool true,e.key,e.val])).put (some 10) (.bool true)).eval (.tmp 1)=.int .i64 op:=by rw [eval_put_ne (by omega),eval_put_ne (by omega),h.op']
  have p3:((a.put (some 9) (.tuple #[.bool true,e.key,e.val])).put (some 10) (.bool true)).eval (.tmp 8)=.pointer (some ⟨zz,0,none⟩):=by rw [eval_put_ne (by omega),eval_put_ne (by omega),h.it]
  have p4:((a.put (some 9) (.tuple #[.bool true,e.key,e.val])).put (some 10) (.bool true)).defers=[]:=h.defers
  generalize (a.put (some 9) (.tuple #[.bool true,e.key,e.val])).put (some 10) (.bool true)=A1' at p1 p2 p3 p4
  show (Code.block id1 _).wpIn (FB none) 0 P _ A1' W2
  refine wpIn_block (wpIn_seq (wpIn_list (ops:=[c0,c1,c2,c3,c4]) (fun o ho=>hg' o (by simp at ho ⊢;rcases ho with rfl | rfl | rfl | rfl | rfl<;>simp)) ?_))
  have hentr:=run_entry_at (P:=P) W2 zz b es.size seen es es.size e (by rw [hbi];exact g1) g5 hee hnd'
  rw [ek,ev] at hentr
  generalize hks:(l.getD i (⟨#[]⟩,0)).1=ks at hentr eks
  generalize hvs:(l.getD i (⟨#[]⟩,0)).2=vs at hentr
  refine op_value (v:=.tuple #[.string ks,.int .i64 vs]) (w':=W2) (by simp [hc0.1]) (by simp only [execOp,hc0.1,p3,Sem.run_bind,hentr,Result.andThen_ok,Sem.run_pure]) ?_
  rw [hc0.2]
  refine op_value (v:=.string ks) (w':=W2) (by simp [hc1.1]) (by simp [execOp,hc1.1,eval_put_eq (a:=A1') (d:=11) (v:=.tuple #[.string ks,.int .i64 vs]) (by rw [p1];omega),Instr.extract]) ?_
  rw [hc1.2]
  refine op_value (v:=.int .i64 vs) (w':=W2) (by simp [hc2.1]) (by simp [execOp,hc2.1,eval_put_ne (a:=A1'.put (some 11) (.tuple #[.string ks,.int .i64 vs])) (d:=12) (k:=11) (v:=.string ks) (by omega),eval_put_eq (a:=A1') (d:=11) (v:=.tuple #[.string ks,.int .i64 vs]) (by rw [p1];omega),Instr.extract]) ?_
  rw [hc2.2]
  generalize hB:((A1'.put (some 11) (.tuple #[.string ks,.int .i64 vs])).put (some 12) (.string ks)).put (some 13) (.int .i64 vs)=B
  have B1:B.tmps.size=18:=by rw [← hB,size_put,size_put,size_put,p1]
  have B2:B.eval (.tmp 1)=.int .i64 op:=by rw [← hB,eval_put_ne (by omega),eval_put_ne (by omega),eval_put_ne (by omega),p2]
  have B3:B.eval (.tmp 8)=.pointer (some ⟨zz,0,none⟩):=by rw [← hB,eval_put_ne (by omega),eval_put_ne (by omega),eval_put_ne (by omega),p3]
  have B4:B.eval (.tmp 12)=.string ks:=by rw [← hB,eval_put_ne (by omega),eval_put_eq (by rw [size_put,p1];omega)]
  have B5:B.eval (.tmp 13)=.int .i64 vs:=by rw [← hB,eval_put_eq (by rw [size_put,size_put,p1];omega)]
  have B6:B.defers=[]:=by rw [← hB];exact p4
  clear hB
  refine op_value (v:=.string ks) (w':=W2) (by simp [hc3.1]) (by simp only [execOp,hc3.1,B4,Sem.run_pure]) ?_
  rw [hc3.2]
  refine op_value (v:=.int .i64 vs) (w':=W2) (by simp [hc4.1]) (by simp only [execOp,hc4.1,eval_put_ne (a:=B) (d:=5) (k:=13) (v:=.string ks) (by omega),B5,Sem.run_pure]) ?_
  rw [hc4.2]
  generalize hD:(B.put (some 5) (.string ks)).put (some 6) (.int .i64 vs)=D
  have D1:D.tmps.size=18:=by rw [← hD,size_put,size_put,B1]
  have D2:D.eval (.tmp 1)=.int .i64 op:=by rw [← hD,eval_put_ne (by omega),eval_put_ne (by omega),B2]
  have D3:D.eval (.tmp 8)=.pointer (some ⟨zz,0,none⟩):=by rw [← hD,eval_put_ne (by omega),eval_put_ne (by omega),B3]
  have D4:D.eval (.tmp 5)=.string ks:=by rw [← hD,eval_put_ne (by omega),eval_put_eq (by rw [B1];omega)]
  have D5:D.eval (.tmp 6)=.int .i64 vs:=by rw [← hD,eval_put_eq (by rw [size_put,B1];omega)]
  have D6:D.defers=[]:=by rw [← hD];exact B6
  clear hD
  show (Code.seq _ _).wpIn (FB none) 0 P _ D W2
  refine wpIn_seq (wpIn_list (ops:=[d0,d1,d2]) (fun o ho=>hg' o (by simp at ho ⊢;rcases ho with rfl | rfl | rfl<;>simp)) ?_)
  refine op_value (v:=.int .i64 vs) (w':=W2) (by simp [hd0.1]) (by simp only [execOp,hd0.1,D5,Sem.run_pure]) ?_
  rw [hd0.2]
  refine op_value (v:=.int .i64 op) (w':=W2) (by simp [hd1.1]) (by simp only [execOp,hd1.1,eval_put_ne (a:=D) (d:=14) (k:=1) (v:=.int .i64 vs) (by omega),D2,Sem.run_pure]) ?_
  rw [hd1.2]
  refine op_value (v:=.bool (vs==op)) (w':=W2) (by simp [hd2.1]) (by
   have i1:((D.put (some 14) (.int .i64 vs)).put (some 15) (.int .i64 op)).eval (.tmp 14)=.int .i64 vs:=by rw [eval_put_ne (by omega),eval_put_eq (by rw [D1];omega)]
   have i2:((D.put (some 14) (.int .i64 vs)).put (some 15) (.int .i64 op)).eval (.tmp 15)=.int .i64 op:=by rw [eval_put_eq (by rw [size_put,D1];omega)]
   have hgd:(eqGuard .eql et (.tmp 14) (.tmp 15) (.int .i64 vs) (.int .i64 op)).run P W2=.ok () W2:=by unfold eqGuard;simp
   simp [execOp,hd2.1,i1,i2,hgd,binOp,Op.intCmp]) ?_
  rw [hd2.2]
  have F1:(((D.put (some 14) (.int .i64 vs)).put (some 15) (.int .i64 op)).put (some 16) (.bool (vs==op))).tmps.size=18:=by rw [size_put,size_put,size_put,D1]
  have F2:(((D.put (some 14) (.int .i64 vs)).put (some 15) (.int .i64 op)).put (some 16) (.bool (vs==op))).eval (.tmp 1)=.int .i64 op:=by rw [eval_put_ne (by omega),eval_put_ne (by omega),eval_put_ne (by omega),D2]
  have F3:(((D.put (some 14) (.int .i64 vs)).put (some 15) (.int .i64 op)).put (some 16) (.bool (vs==op))).eval (.tmp 8)=.pointer (some ⟨zz,0,none⟩):=by rw [eval_put_ne (by omega),eval_put_ne (by omega),eval_put_ne (by omega),D3]
  have F4:(((D.put (some 14) (.int .i64 vs)).put (some 15) (.int .i64 op)).put (some 16) (.bool (vs==op))).eval (.tmp 5)=.string ks:=by rw [eval_put_ne (by omega),eval_put_ne (by omega),eval_put_ne (by omega),D4]
  have F5:(((D.put (some 14) (.int .i64 vs)).put (some 15) (.int .i64 op)).put (some 16) (.bool (vs==op))).eval (.tmp 16)=.bool (vs==op):=by rw [eval_put_eq (by rw [size_put,size_put,D1];omega)]
  have F6:(((D.put (some 14) (.int .i64 vs)).put (some 15) (.int .i64 op)).put (some 16) (.bool (vs==op))).defers=[]:=D6
  generalize ((D.put (some 14) (.int .i64 vs)).put (some 15) (.int .i64 op)).put (some 16) (.bool (vs==op))=F at F1 F2 F3 F4 F5 F6
  show (Code.cond _ _ _).wpIn (FB none) 0 P _ F W2
  cases hcmp:(vs==op) with
  | true =>
   rw [hcmp] at F5
   have hvo:vs=op:=by simpa using hcmp
   refine wpIn_cond_true F5 (wpIn_seq (wpIn_list (ops:=[e0,e1]) (fun o ho=>hg' o (by simp at ho ⊢;rcases ho with rfl | rfl<;>simp)) ?_))
   refine op_value (v:=.string ks) (w':=W2) (by simp [he0.1]) (by simp only [execOp,he0.1,F4,Sem.run_pure]) ?_
   rw [he0.2]
   refine op_value (v:=.string ks) (w':=W2) (by simp [he1.1]) (by simp only [execOp,he1.1,eval_put_eq (a:=F) (d:=17) (v:=.string ks) (by rw [F1];omega),Sem.run_pure]) ?_
   rw [he1.2]
   show Code.ret.wpIn (FB none) 0 P _ ((F.put (some 17) (.string ks)).put (some 4) (.string ks)) W2
   exact wpIn_ret (hfin ((F.put (some 17) (.string ks)).put (some 4) (.string ks)) W2 ks F6 (eval_put_eq (by rw [size_put,F1];omega)) (by rw [symF_some hnd hil (hvs.trans hvo),hks]) eks g6)
  | false =>
   rw [hcmp] at F5
   have hvo:vs≠op:=by simpa using hcmp
   refine wpIn_cond_false F5 (wpIn_skip ?_)
   refine ⟨⟨seen.push i,⟨F1,F6,F2,F3,g1,?_,?_,?_,g6⟩⟩,?_⟩
   ·rw [Array.toList_push]
    exact List.nodup_append.2 ⟨h.nd,by simp,fun x hx y hy e=>by
     simp at hy
     subst hy;subst e
     exact hes hx⟩
   ·intro x hx
    rw [Array.toList_push] at hx
    rcases List.mem_append.1 hx with hx | hx
    ·exact h.lt x hx
    ·simp at hx;subst hx;exact hi
   ·intro x hx
    rw [Array.toList_push] at hx
    rcases List.mem_append.1 hx with hx | hx
    ·exact h.no x hx
    ·simp at hx;subst hx;rw [hvs];exact hvo
   ·rw [h.at',g1]
    simp only [Array.size_push]
    obtain ⟨rest,hr⟩:=perm_rest (n:=es.size) h.nd h.lt hi hes
    have:=hr.length_eq
    simp at this
    omega
end Go.Sym
