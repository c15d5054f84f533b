/- Part of the proof of the statement that the claim's last text names: contracts of functions and laws of the symbolic layer. -/
import Derived.Test.YtidbmbpeblmliaaGreatDoorU14
import Derived.Test.YtidbmbpeblmliaaGreatDoorU16
import Derived.Test.YtidbmbpeblmliaaGreatDoorU13
import Derived.Test.YtidbmbpeblmliaaGreatDoorU12
set_option linter.unusedVariables false
set_option linter.unusedSimpArgs false
namespace Go.Proofs.YtidbmbpeblmliaaGreatDoor.Dif
open Go.Sym Go.Proofs.YtidbmbpeblmliaaGreatDoor
def key1(t:Tel):BA:=
 t.id
theorem key1_c(t:Tel):FCall Tryz.prog 57 [.agg (encTel t)] (.v (.c (.str (key1 t)))):=by
 have ee0:=key1.eq_1 t
 refine ul Tryz.func57 rfl (fun B hB=>?_)
 refine uq [(0,.imm)] [] ?_
 refine u0 ?_
 exact run_ret (ut _ (by rw [ee0]<;>rfl))
def diff1_b1_r(l:List Tel)(lx1:(List (BA×Bool))):Bool:=
 true
def diff1_b1(l:List Tel)(li1:Nat)(lx1:(List (BA×Bool))):Fl (List (BA×Bool)) Bool:=
 (bif (mgetD Sym.eqS false lx1 (key1 (l.getD li1 zTel))) then .rt false else .nx (mput Sym.eqS lx1 (key1 (l.getD li1 zTel)) true))
def diff1_b1_s(l:List Tel)(li1:Nat)(qv:Int)(lx1:(List (BA×Bool))):S:=mkS 25 [(1,.b (.v (.c (.clo 57 [])))),(5,.b (.v (.c (.omap 9)))),(10,.b (.v (.c (.lst 9 l.length (elM encTel zTel l))))),(11,.b (.v (vI (l.length:Int)))),(12,.b (.v (vI qv)))] [(9,.omap false false (Sym.encM Sym.encS Sym.encB lx1))]
def diff1(l:List Tel):Bool:=
 (runL (diff1_b1 l) l.length 0 ([]:List (BA×Bool))).fin (diff1_b1_r l)
theorem diff1_c(l:List Tel):FCall Tryz.prog 56 [.c (.lst 9 l.length (elM encTel zTel l)),.c (.clo 57 [])] (.v (vB (diff1 l))):=by
 have ee0:=diff1.eq_1 l
 refine ul Tryz.func56 rfl (fun B hB=>?_)
 refine u0 (u0 (u0 ?_))
 refine uS 0 9 l.length (elM encTel zTel l) (fun hL1=>?_)
 refine uF l.length (diff1_b1_s l) (diff1_b1 l) (fun _ _=>True) ([]:List (BA×Bool)) rfl [1,5,10,11,12] [] trivial (fun li1 lx1 hi1 hJ1 hr1=>?_) (fun lx1 hJ1 hr1=>?_)
 ·have ee2:=diff1_b1.eq_1 l li1 lx1
  refine uq [] [ub (li1:Int) l.length] ?_
  have cc1:=key1_c (l.getD li1 zTel)
  refine us 2 cc1 ?_
  refine uq [(2,.look (mgetB Sym.eqS lx1 (key1 (l.getD li1 zTel))) (Sym.encB (mgetD Sym.eqS false lx1 (key1 (l.getD li1 zTel)))))] [uk 9 false [.str],@pu (Look (Sym.encM Sym.encS Sym.encB lx1) (Sym.encS (key1 (l.getD li1 zTel))) (Sym.encB false) (mgetB Sym.eqS lx1 (key1 (l.getD li1 zTel))) (Sym.encB (mgetD Sym.eqS false lx1 (key1 (l.getD li1 zTel))))) (look_of Sym.keyS _ _ _)] ?_
  refine ud ee2 (fun hh1 ee3=>?_) (fun hh1 ee5=>?_)
  ·refine u0 ?_
   have ee4:=fin_rt ee0 hr1 hi1 ee3
   exact run_ret (ut _ (by rw [ee4]<;>rfl))
  ·refine uq [(2,.put (Sym.encM Sym.encS Sym.encB (mput Sym.eqS lx1 (key1 (l.getD li1 zTel)) true)))] [uk 9 false [.str],@pu (Put (Sym.encM Sym.encS Sym.encB lx1) (Sym.encS (key1 (l.getD li1 zTel))) (Sym.encB true) (Sym.encM Sym.encS Sym.encB (mput Sym.eqS lx1 (key1 (l.getD li1 zTel)) true))) (put_of Sym.keyS _ _ _)] ?_
   exact run_nil (uN (diff1_b1_s l) (mput Sym.eqS lx1 (key1 (l.getD li1 zTel)) true) hi1 [1,5,10,11,12] [7] (trivial) ee5)
 ·have ee1:=(fin_nx ee0 hr1).trans (diff1_b1_r.eq_1 l lx1)
  refine u0 ?_
  exact run_ret (ut _ (by rw [ee1]<;>rfl))
def key2(p:Ptn):BA:=
 p.id
theorem key2_c(p:Ptn):FCall Tryz.prog 59 [.agg (encPtn p)] (.v (.c (.str (key2 p)))):=by
 have ee0:=key2.eq_1 p
 refine ul Tryz.func59 rfl (fun B hB=>?_)
 refine uq [(0,.imm)] [] ?_
 refine u0 ?_
 exact run_ret (ut _ (by rw [ee0]<;>rfl))
def diff2_b1_r(l:List Ptn)(lx1:(List (BA×Bool))):Bool:=
 true
def diff2_b1(l:List Ptn)(li1:Nat)(lx1:(List (BA×Bool))):Fl (List (BA×Bool)) Bool:=
 (bif (mgetD Sym.eqS false lx1 (key2 (l.getD li1 zPtn))) then .rt false else .nx (mput Sym.eqS lx1 (key2 (l.getD li1 zPtn)) true))
def diff2_b1_s(l:List Ptn)(li1:Nat)(qv:Int)(lx1:(List (BA×Bool))):S:=mkS 25 [(1,.b (.v (.c (.clo 59 [])))),(5,.b (.v (.c (.omap 9)))),(10,.b (.v (.c (.lst 2 l.length (elM encPtn zPtn l))))),(11,.b (.v (vI (l.length:Int)))),(12,.b (.v (vI qv)))] [(9,.omap false false (Sym.encM Sym.encS Sym.encB lx1))]
def diff2(l:List Ptn):Bool:=
 (runL (diff2_b1 l) l.length 0 ([]:List (BA×Bool))).fin (diff2_b1_r l)
theorem diff2_c(l:List Ptn):FCall Tryz.prog 58 [.c (.lst 2 l.length (elM encPtn zPtn l)),.c (.clo 59 [])] (.v (vB (diff2 l))):=by
 have ee0:=diff2.eq_1 l
 refine ul Tryz.func58 rfl (fun B hB=>?_)
 refine u0 (u0 (u0 ?_))
 refine uS 0 2 l.length (elM encPtn zPtn l) (fun hL1=>?_)
 refine uF l.length (diff2_b1_s l) (diff2_b1 l) (fun _ _=>True) ([]:List (BA×Bool)) rfl [1,5,10,11,12] [] trivial (fun li1 lx1 hi1 hJ1 hr1=>?_) (fun lx1 hJ1 hr1=>?_)
 ·have ee2:=diff2_b1.eq_1 l li1 lx1
  refine uq [] [ub (li1:Int) l.length] ?_
  have cc1:=key2_c (l.getD li1 zPtn)
  refine us 2 cc1 ?_
  refine uq [(2,.look (mgetB Sym.eqS lx1 (key2 (l.getD li1 zPtn))) (Sym.encB (mgetD Sym.eqS false lx1 (key2 (l.getD li1 zPtn)))))] [uk 9 false [.str],@pu (Look (Sym.encM Sym.encS Sym.encB lx1) (Sym.encS (key2 (l.getD li1 zPtn))) (Sym.encB false) (mgetB Sym.eqS lx1 (key2 (l.getD li1 zPtn))) (Sym.encB (mgetD Sym.eqS false lx1 (key2 (l.getD li1 zPtn))))) (look_of Sym.keyS _ _ _)] ?_
  refine ud ee2 (fun hh1 ee3=>?_) (fun hh1 ee5=>?_)
  ·refine u0 ?_
   have ee4:=fin_rt ee0 hr1 hi1 ee3
   exact run_ret (ut _ (by rw [ee4]<;>rfl))
  ·refine uq [(2,.put (Sym.encM Sym.encS Sym.encB (mput Sym.eqS lx1 (key2 (l.getD li1 zPtn)) true)))] [uk 9 false [.str],@pu (Put (Sym.encM Sym.encS Sym.encB lx1) (Sym.encS (key2 (l.getD li1 zPtn))) (Sym.encB true) (Sym.encM Sym.encS Sym.encB (mput Sym.eqS lx1 (key2 (l.getD li1 zPtn)) true))) (put_of Sym.keyS _ _ _)] ?_
   exact run_nil (uN (diff2_b1_s l) (mput Sym.eqS lx1 (key2 (l.getD li1 zPtn)) true) hi1 [1,5,10,11,12] [7] (trivial) ee5)
 ·have ee1:=(fin_nx ee0 hr1).trans (diff2_b1_r.eq_1 l lx1)
  refine u0 ?_
  exact run_ret (ut _ (by rw [ee1]<;>rfl))
def key3(p:Prg):BA:=
 p.id
theorem key3_c(p:Prg):FCall Tryz.prog 61 [.agg (encPrg p)] (.v (.c (.str (key3 p)))):=by
 have ee0:=key3.eq_1 p
 refine ul Tryz.func61 rfl (fun B hB=>?_)
 refine uq [(0,.imm)] [] ?_
 refine u0 ?_
 exact run_ret (ut _ (by rw [ee0]<;>rfl))
def diff3_b1_r(l:List Prg)(lx1:(List (BA×Bool))):Bool:=
 true
def diff3_b1(l:List Prg)(li1:Nat)(lx1:(List (BA×Bool))):Fl (List (BA×Bool)) Bool:=
 (bif (mgetD Sym.eqS false lx1 (key3 (l.getD li1 zPrg))) then .rt false else .nx (mput Sym.eqS lx1 (key3 (l.getD li1 zPrg)) true))
def diff3_b1_s(l:List Prg)(li1:Nat)(qv:Int)(lx1:(List (BA×Bool))):S:=mkS 25 [(1,.b (.v (.c (.clo 61 [])))),(5,.b (.v (.c (.omap 9)))),(10,.b (.v (.c (.lst 10 l.length (elM encPrg zPrg l))))),(11,.b (.v (vI (l.length:Int)))),(12,.b (.v (vI qv)))] [(9,.omap false false (Sym.encM Sym.encS Sym.encB lx1))]
def diff3(l:List Prg):Bool:=
 (runL (diff3_b1 l) l.length 0 ([]:List (BA×Bool))).fin (diff3_b1_r l)
theorem diff3_c(l:List Prg):FCall Tryz.prog 60 [.c (.lst 10 l.length (elM encPrg zPrg l)),.c (.clo 61 [])] (.v (vB (diff3 l))):=by
 have ee0:=diff3.eq_1 l
 refine ul Tryz.func60 rfl (fun B hB=>?_)
 refine u0 (u0 (u0 ?_))
 refine uS 0 10 l.length (elM encPrg zPrg l) (fun hL1=>?_)
 refine uF l.length (diff3_b1_s l) (diff3_b1 l) (fun _ _=>True) ([]:List (BA×Bool)) rfl [1,5,10,11,12] [] trivial (fun li1 lx1 hi1 hJ1 hr1=>?_) (fun lx1 hJ1 hr1=>?_)
 ·have ee2:=diff3_b1.eq_1 l li1 lx1
  refine uq [] [ub (li1:Int) l.length] ?_
  have cc1:=key3_c (l.getD li1 zPrg)
  refine us 2 cc1 ?_
  refine uq [(2,.look (mgetB Sym.eqS lx1 (key3 (l.getD li1 zPrg))) (Sym.encB (mgetD Sym.eqS false lx1 (key3 (l.getD li1 zPrg)))))] [uk 9 false [.str],@pu (Look (Sym.encM Sym.encS Sym.encB lx1) (Sym.encS (key3 (l.getD li1 zPrg))) (Sym.encB false) (mgetB Sym.eqS lx1 (key3 (l.getD li1 zPrg))) (Sym.encB (mgetD Sym.eqS false lx1 (key3 (l.getD li1 zPrg))))) (look_of Sym.keyS _ _ _)] ?_
  refine ud ee2 (fun hh1 ee3=>?_) (fun hh1 ee5=>?_)
  ·refine u0 ?_
   have ee4:=fin_rt ee0 hr1 hi1 ee3
   exact run_ret (ut _ (by rw [ee4]<;>rfl))
  ·refine uq [(2,.put (Sym.encM Sym.encS Sym.encB (mput Sym.eqS lx1 (key3 (l.getD li1 zPrg)) true)))] [uk 9 false [.str],@pu (Put (Sym.encM Sym.encS Sym.encB lx1) (Sym.encS (key3 (l.getD li1 zPrg))) (Sym.encB true) (Sym.encM Sym.encS Sym.encB (mput Sym.eqS lx1 (key3 (l.getD li1 zPrg)) true))) (put_of Sym.keyS _ _ _)] ?_
   exact run_nil (uN (diff3_b1_s l) (mput Sym.eqS lx1 (key3 (l.getD li1 zPrg)) true) hi1 [1,5,10,11,12] [7] (trivial) ee5)
 ·have ee1:=(fin_nx ee0 hr1).trans (diff3_b1_r.eq_1 l lx1)
  refine u0 ?_
  exact run_ret (ut _ (by rw [ee1]<;>rfl))
def key4(f:Fol):I3:=
 (⟨f.prog,f.tile,f.filter⟩:I3)
theorem key4_c(f:Fol):FCall Tryz.prog 213 [.agg (encFol f)] (.v (.agg (encI3 (key4 f)))):=by
 have ee0:=key4.eq_1 f
 refine ul Tryz.func213 rfl (fun B hB=>?_)
 refine uq [(0,.imm)] [] ?_
 refine u0 ?_
 exact run_ret (ut _ (by rw [ee0]<;>rfl))
def diff4_b1_r(l:List Fol)(lx1:(List (I3×Bool))):Bool:=
 true
def diff4_b1(l:List Fol)(li1:Nat)(lx1:(List (I3×Bool))):Fl (List (I3×Bool)) Bool:=
 (bif (mgetD eqI3 false lx1 (key4 (l.getD li1 zFol))) then .rt false else .nx (mput eqI3 lx1 (key4 (l.getD li1 zFol)) true))
def diff4_b1_s(l:List Fol)(li1:Nat)(qv:Int)(lx1:(List (I3×Bool))):S:=mkS 25 [(1,.b (.v (.c (.clo 213 [])))),(5,.b (.v (.c (.omap 9)))),(10,.b (.v (.c (.lst 5 l.length (elM encFol zFol l))))),(11,.b (.v (vI (l.length:Int)))),(12,.b (.v (vI qv)))] [(9,.omap true false (Sym.encM encI3 Sym.encB lx1))]
def diff4(l:List Fol):Bool:=
 (runL (diff4_b1 l) l.length 0 ([]:List (I3×Bool))).fin (diff4_b1_r l)
theorem diff4_c(l:List Fol):FCall Tryz.prog 212 [.c (.lst 5 l.length (elM encFol zFol l)),.c (.clo 213 [])] (.v (vB (diff4 l))):=by
 have ee0:=diff4.eq_1 l
 refine ul Tryz.func212 rfl (fun B hB=>?_)
 refine u0 (u0 (u0 ?_))
 refine uS 0 5 l.length (elM encFol zFol l) (fun hL1=>?_)
 refine uF l.length (diff4_b1_s l) (diff4_b1 l) (fun _ _=>True) ([]:List (I3×Bool)) rfl [1,5,10,11,12] [] trivial (fun li1 lx1 hi1 hJ1 hr1=>?_) (fun lx1 hJ1 hr1=>?_)
 ·have ee2:=diff4_b1.eq_1 l li1 lx1
  refine uq [] [ub (li1:Int) l.length] ?_
  have cc1:=key4_c (l.getD li1 zFol)
  refine us 2 cc1 ?_
  refine uq [(2,.look (mgetB eqI3 lx1 (key4 (l.getD li1 zFol))) (Sym.encB (mgetD eqI3 false lx1 (key4 (l.getD li1 zFol)))))] [uk 279 true [.int .i64,.int .i64,.int .i64],@pu (Look (Sym.encM encI3 Sym.encB lx1) (encI3 (key4 (l.getD li1 zFol))) (Sym.encB false) (mgetB eqI3 lx1 (key4 (l.getD li1 zFol))) (Sym.encB (mgetD eqI3 false lx1 (key4 (l.getD li1 zFol))))) (look_of keyI3 _ _ _)] ?_
  refine ud ee2 (fun hh1 ee3=>?_) (fun hh1 ee5=>?_)
  ·refine u0 ?_
   have ee4:=fin_rt ee0 hr1 hi1 ee3
   exact run_ret (ut _ (by rw [ee4]<;>rfl))
  ·refine uq [(2,.put (Sym.encM encI3 Sym.encB (mput eqI3 lx1 (key4 (l.getD li1 zFol)) true)))] [uk 279 true [.int .i64,.int .i64,.int .i64],@pu (Put (Sym.encM encI3 Sym.encB lx1) (encI3 (key4 (l.getD li1 zFol))) (Sym.encB true) (Sym.encM encI3 Sym.encB (mput eqI3 lx1 (key4 (l.getD li1 zFol)) true))) (put_of keyI3 _ _ _)] ?_
   exact run_nil (uN (diff4_b1_s l) (mput eqI3 lx1 (key4 (l.getD li1 zFol)) true) hi1 [1,5,10,11,12] [7,8] (trivial) ee5)
 ·have ee1:=(fin_nx ee0 hr1).trans (diff4_b1_r.eq_1 l lx1)
  refine u0 ?_
  exact run_ret (ut _ (by rw [ee1]<;>rfl))
end Go.Proofs.YtidbmbpeblmliaaGreatDoor.Dif
namespace Go.Proofs.YtidbmbpeblmliaaGreatDoor.Cad
open Go.Sym Go.Proofs.YtidbmbpeblmliaaGreatDoor
def within(n:Int)(low:Int)(high:Int):Bool:=
 ((decide (low≤n))&&(decide (n≤high)))
theorem within_c(n:Int)(low:Int)(high:Int):FCall Tryz.prog 88 [vI n,vI low,vI high] (.v (vB (within n low high))):=by
 have ee0:=within.eq_1 n low high
 refine ul Tryz.func88 rfl (fun B hB=>?_)
 refine u0 (u0 ?_)
 exact run_ret (ut _ (by rw [ee0]<;>rfl))
def Valid_b1_r(s:Sq)(lx1:Unit):Bool:=
 true
def Valid_b1(s:Sq)(li1:Nat)(lx1:Unit):Fl Unit Bool:=
 (bif (((!(within ((s.l.getD li1 zStp).f) 0 7))||(!(within ((s.l.getD li1 zStp).lo) 0 ((s.l.getD li1 zStp).hi))))||(decide (((s.l.getD li1 zStp).hi)>38399))) then .rt false else .nx ())
def Valid_b1_s(s:Sq)(li1:Nat)(qv:Int)(lx1:Unit):S:=mkS 41 [(17,.b (.v (.c (.lst 3 s.l.length (elM encStp zStp s.l))))),(18,.b (.v (vI (s.l.length:Int)))),(19,.b (.v (vI qv)))] []
def Valid(s:Sq):Bool:=
 (bif ((!(within (s.l.length:Int) 1 40))||(!(within s.rep 1 100))) then false else (runL (Valid_b1 s) s.l.length 0 ()).fin (Valid_b1_r s))
theorem Valid_c(s:Sq):FCall Tryz.prog 104 [.agg (encSq s)] (.v (vB (Valid s))):=by
 have ee0:=Valid.eq_1 s
 refine ul Tryz.func104 rfl (fun B hB=>?_)
 refine uq [(0,.imm)] [] ?_
 have cc1:=within_c (s.l.length:Int) 1 40
 have cc2:=within_c s.rep 1 100
 refine uq [(3,hcon cc1),(8,hcon cc2)] [pu cc1,pu cc2] ?_
 refine ud ee0 (fun hh1 ee1=>?_) (fun hh1 ee2=>?_)
 ·refine u0 ?_
  exact run_ret (ut _ (by rw [ee1]<;>rfl))
 ·refine u0 ?_
  refine uR 0 (.agg (encSq s)) (fun hR=>?_)
  have hL1:s.l.length≤9223372036854775807:=Real.len (hR 0 (Nat.le_of_ble_eq_true rfl))
  refine uF s.l.length (Valid_b1_s s) (Valid_b1 s) (fun _ _=>True) () rfl [17,18,19] [] trivial (fun li1 lx1 hi1 hJ1 hr1=>?_) (fun lx1 hJ1 hr1=>?_)
  ·have ee4:=Valid_b1.eq_1 s li1 lx1
   refine uq [] [ub (li1:Int) s.l.length] ?_
   have cc3:=within_c ((s.l.getD li1 zStp).f) 0 7
   have cc4:=within_c ((s.l.getD li1 zStp).lo) 0 ((s.l.getD li1 zStp).hi)
   refine uq [(2,hcon cc3),(9,hcon cc4)] [pu cc3,pu cc4] ?_
   refine ud ee4 (fun hh2 ee5=>?_) (fun hh2 ee7=>?_)
   ·refine u0 ?_
    have ee6:=fin_rt ee2 hr1 hi1 ee5
    exact run_ret (ut _ (by rw [ee6]<;>rfl))
   ·exact run_nil (uN (Valid_b1_s s) () hi1 [17,18,19] [4] (trivial) ee7)
  ·have ee3:=(fin_nx ee2 hr1).trans (Valid_b1_r.eq_1 s lx1)
   refine u0 ?_
   exact run_ret (ut _ (by rw [ee3]<;>rfl))
def valid(s:Sq)(c:Cs):Bool:=
 (bif (!(Valid s)) then false else (bif (c.next==0&&(c.round==0&&(c.last==0&&(c.over==false&&true)))) then true else (bif c.over then (((c.next==0)&&(c.round==s.rep))&&(within c.last 0 38399)) else ((((within c.next 0 (IntKind.i64.wrap ((s.l.length:Int) - 1)))&&(within c.round 0 (IntKind.i64.wrap (s.rep - 1))))&&(within c.last 0 38399))&&(decide ((IntKind.i64.wrap (c.next+c.round))>0))))))
theorem valid_c(s:Sq)(c:Cs):FCall Tryz.prog 87 [.agg (encSq s),.agg (encCs c)] (.v (vB (valid s c))):=by
 have ee0:=valid.eq_1 s c
 refine ul Tryz.func87 rfl (fun B hB=>?_)
 refine uq [(0,.imm),(1,.imm)] [] ?_
 refine rBlock ?_
 have cc1:=Valid_c s
 refine us 1 cc1 ?_
 refine ud ee0 (fun hh1 ee1=>?_) (fun hh1 ee2=>?_)
 ·refine u0 ?_
  exact run_ret (blockR_ret (ut _ (by rw [ee1]<;>rfl)))
 ·refine uq [] [ue 90 [.int .i64,.int .i64,.int .i64,.bool]] ?_
  refine ud ee2 (fun hh2 ee3=>?_) (fun hh2 ee4=>?_)
  ·refine u0 ?_
   exact run_ret (blockR_ret (ut _ (by rw [ee3]<;>rfl)))
  ·refine u0 ?_
   refine ud ee4 (fun hh3 ee5=>?_) (fun hh3 ee6=>?_)
   ·have cc2:=within_c c.last 0 38399
    refine us 13 cc2 ?_
    exact run_ret (blockR_ret (ut _ (by rw [ee5]<;>rfl)))
   ·refine run_nil (blockR_normal ?_)
    have cc3:=within_c c.next 0 (IntKind.i64.wrap ((s.l.length:Int) - 1))
    have cc4:=within_c c.round 0 (IntKind.i64.wrap (s.rep - 1))
    have cc5:=within_c c.last 0 38399
    refine uq [(6,hcon cc3),(13,hcon cc4),(18,hcon cc5)] [pu cc3,pu cc4,pu cc5] ?_
    exact run_ret (ut _ (by rw [ee6]<;>rfl))
def window(s:Sq)(c:Cs):Spn:=
 (bif ((IntKind.i64.wrap (c.next+c.round))==0) then (⟨0,38399⟩:Spn) else (⟨(IntKind.i64.wrap (c.last+((s.l.getD c.next.toNat zStp).lo))),(imin (IntKind.i64.wrap (c.last+((s.l.getD c.next.toNat zStp).hi))) 38399)⟩:Spn))
theorem window_c(s:Sq)(c:Cs)(h:¬ (IntKind.i64.wrap (c.next+c.round)==0)=true→0≤c.next∧c.next<(s.l.length:Int)):FCall Tryz.prog 91 [.agg (encSq s),.agg (encCs c)] (.v (.agg (encSpn (window s c)))):=by
 have ee0:=window.eq_1 s c
 refine ul Tryz.func91 rfl (fun B hB=>?_)
 refine uq [(0,.imm),(1,.imm)] [] ?_
 refine u0 ?_
 refine ud ee0 (fun hh1 ee1=>?_) (fun hh1 ee2=>?_)
 ·refine u0 ?_
  exact run_ret (ut _ (by rw [ee1]<;>rfl))
 ·refine uq [] [ub c.next s.l.length] ?_
  refine u0 ?_
  exact run_ret (ut _ (by rw [ee2]<;>rfl))
theorem within_iff{n lo hi:Int}:within n lo hi=true↔lo≤n∧n≤hi:=by simp [within]
theorem Valid_len{s:Sq}(h:Valid s=true):(1≤s.l.length∧s.l.length≤40)∧1≤s.rep∧s.rep≤100:=by
 rw [Valid] at h
 cases h1:within (s.l.length:Int) 1 40 with
 | false=>rw [h1] at h;exact absurd h (by simp)
 | true =>
  cases h2:within s.rep 1 100 with
  | false=>rw [h1,h2] at h;exact absurd h (by simp)
  | true =>
   rw [within_iff] at h1 h2
   omega
theorem ok_win{s:Sq}{c:Cs}(h:valid s c=true)(ho:c.over=false):¬ (IntKind.i64.wrap (c.next+c.round)==0)=true→0≤c.next∧c.next<(s.l.length:Int):=by
 intro hz
 rw [valid] at h
 cases hv:Valid s with
 | false=>rw [hv] at h;exact absurd h (by simp)
 | true =>
  have hl:=Valid_len hv
  rw [hv,ho] at h
  cases h0:(c.next==0&&(c.round==0&&(c.last==0&&((false:Bool)==false&&true)))) with
  | true =>
   simp at h0
   rw [h0.1,h0.2.1] at hz
   exact absurd rfl hz
  | false =>
   rw [h0] at h
   simp only [Bool.not_true,cond_false,Bool.and_eq_true,within_iff] at h
   have:=h.1.1.1
   rw [w64 _ om om] at this
   omega
def rd1(s:Sq)(c:Cs)(m:Int):Bool:=
 ((valid s c)&&(within m 0 38399))
theorem rd1_c(s:Sq)(c:Cs)(m:Int):FCall Tryz.prog 86 [.c (.kptr (encSq s) 0),.c (.kptr (encCs c) 0),.c (.kptr [cI m] 0)] (.v (vB (rd1 s c m))):=by
 have ee0:=rd1.eq_1 s c m
 refine ul Tryz.func86 rfl (fun B hB=>?_)
 refine u0 ?_
 have cc1:=valid_c s c
 have cc2:=within_c m 0 38399
 refine uq [(2,hcon cc1),(5,hcon cc2)] [pu cc1,pu cc2] ?_
 exact run_ret (ut _ (by rw [ee0]<;>rfl))
def rd2(c:Cs):Bool:=
 (!c.over)
theorem rd2_c(c:Cs):FCall Tryz.prog 89 [.c (.kptr (encCs c) 0)] (.v (vB (rd2 c))):=by
 have ee0:=rd2.eq_1 c
 refine ul Tryz.func89 rfl (fun B hB=>?_)
 refine u0 (u0 ?_)
 exact run_ret (ut _ (by rw [ee0]<;>rfl))
def rd3(m:Int)(s:Sq)(c:Cs):Bool:=
 (decide (m≥((window s c).frm)))
theorem rd3_c(m:Int)(s:Sq)(c:Cs)(h:¬ (IntKind.i64.wrap (c.next+c.round)==0)=true→0≤c.next∧c.next<(s.l.length:Int)):FCall Tryz.prog 90 [.c (.kptr [cI m] 0),.c (.kptr (encSq s) 0),.c (.kptr (encCs c) 0)] (.v (vB (rd3 m s c))):=by
 have ee0:=rd3.eq_1 m s c
 refine ul Tryz.func90 rfl (fun B hB=>?_)
 refine u0 ?_
 have cc1:=window_c s c (by exact h)
 refine us 3 cc1 ?_
 exact run_ret (ut _ (by rw [ee0]<;>rfl))
def rd4(m:Int)(s:Sq)(c:Cs):Bool:=
 (decide (m≤((window s c).til)))
theorem rd4_c(m:Int)(s:Sq)(c:Cs)(h:¬ (IntKind.i64.wrap (c.next+c.round)==0)=true→0≤c.next∧c.next<(s.l.length:Int)):FCall Tryz.prog 92 [.c (.kptr [cI m] 0),.c (.kptr (encSq s) 0),.c (.kptr (encCs c) 0)] (.v (vB (rd4 m s c))):=by
 have ee0:=rd4.eq_1 m s c
 refine ul Tryz.func92 rfl (fun B hB=>?_)
 refine u0 ?_
 have cc1:=window_c s c (by exact h)
 refine us 3 cc1 ?_
 exact run_ret (ut _ (by rw [ee0]<;>rfl))
def first(s:Sq)(c:Cs)(m:Int):Int:=
 (bif (!(rd1 s c m)) then 1 else (bif (!(rd2 c)) then 11 else (bif (!(rd3 m s c)) then 16 else (bif (!(rd4 m s c)) then 17 else 0))))
theorem first_c(s:Sq)(c:Cs)(m:Int):FCall Tryz.prog 93 [.c (.lst 2 4 (fun i=>sub [cI 1,.clo 86 [.kptr (encSq s) 0,.kptr (encCs c) 0,.kptr [cI m] 0],cI 11,.clo 89 [.kptr (encCs c) 0],cI 16,.clo 90 [.kptr [cI m] 0,.kptr (encSq s) 0,.kptr (encCs c) 0],cI 17,.clo 92 [.kptr [cI m] 0,.kptr (encSq s) 0,.kptr (encCs c) 0]] (0+i*2) 2))] (.v (vI (first s c m))):=by
 have ee0:=first.eq_1 s c m
 refine ul Tryz.func93 rfl (fun B hB=>?_)
 refine u0 (u0 ?_)
 refine rBlock ?_
 refine rUnroll 5 ?_
 refine unrollS ?_
 refine u0 ?_
 refine rCondT true kr rfl ?_
 refine rBlock ?_
 refine uq [] [ub 0 4] ?_
 have cc1:=rd1_c s c m
 refine us 2 cc1 ?_
 refine ud ee0 (fun hh1 ee1=>?_) (fun hh1 ee2=>?_)
 ·refine u0 ?_
  exact run_ret (blockR_ret (blockR_ret (ut _ (by rw [ee1]<;>rfl))))
 ·refine run_nil (blockR_normal ?_)
  refine u0 ?_
  refine run_nil ?_
  refine unrollS ?_
  refine rTold (mkS 18 [(5,.b (.v (.c (.lst 2 4 (fun i=>sub [cI 1,.clo 86 [.kptr (encSq s) 0,.kptr (encCs c) 0,.kptr [cI m] 0],cI 11,.clo 89 [.kptr (encCs c) 0],cI 16,.clo 90 [.kptr [cI m] 0,.kptr (encSq s) 0,.kptr (encCs c) 0],cI 17,.clo 92 [.kptr [cI m] 0,.kptr (encSq s) 0,.kptr (encCs c) 0]] (0+i*2) 2))))),(6,.b (.v (vI 4))),(7,.b (.v (vI 1)))] []) [5,6,7] [4] kr ?_ nofun
  refine u0 ?_
  refine rCondT true kr rfl ?_
  refine rBlock ?_
  refine uq [] [ub 1 4] ?_
  have cc2:=rd2_c c
  refine us 2 cc2 ?_
  refine ud ee2 (fun hh2 ee3=>?_) (fun hh2 ee4=>?_)
  ·refine u0 ?_
   exact run_ret (blockR_ret (blockR_ret (ut _ (by rw [ee3]<;>rfl))))
  ·refine run_nil (blockR_normal ?_)
   refine u0 ?_
   refine run_nil ?_
   refine unrollS ?_
   refine rTold (mkS 18 [(5,.b (.v (.c (.lst 2 4 (fun i=>sub [cI 1,.clo 86 [.kptr (encSq s) 0,.kptr (encCs c) 0,.kptr [cI m] 0],cI 11,.clo 89 [.kptr (encCs c) 0],cI 16,.clo 90 [.kptr [cI m] 0,.kptr (encSq s) 0,.kptr (encCs c) 0],cI 17,.clo 92 [.kptr [cI m] 0,.kptr (encSq s) 0,.kptr (encCs c) 0]] (0+i*2) 2))))),(6,.b (.v (vI 4))),(7,.b (.v (vI 2)))] []) [5,6,7] [4] kr ?_ nofun
   refine u0 ?_
   refine rCondT true kr rfl ?_
   refine rBlock ?_
   refine uq [] [ub 2 4] ?_
   have cc3:=rd3_c m s c (by exact ok_win (by simp only [rd1,q1,q2,q3,q4,q5,q6,q7,q8,q9,q10,q11,q12] at *;simp_all) (by simp only [rd2] at *;simp_all))
   refine us 2 cc3 ?_
   refine ud ee4 (fun hh3 ee5=>?_) (fun hh3 ee6=>?_)
   ·refine u0 ?_
    exact run_ret (blockR_ret (blockR_ret (ut _ (by rw [ee5]<;>rfl))))
   ·refine run_nil (blockR_normal ?_)
    refine u0 ?_
    refine run_nil ?_
    refine unrollS ?_
    refine rTold (mkS 18 [(5,.b (.v (.c (.lst 2 4 (fun i=>sub [cI 1,.clo 86 [.kptr (encSq s) 0,.kptr (encCs c) 0,.kptr [cI m] 0],cI 11,.clo 89 [.kptr (encCs c) 0],cI 16,.clo 90 [.kptr [cI m] 0,.kptr (encSq s) 0,.kptr (encCs c) 0],cI 17,.clo 92 [.kptr [cI m] 0,.kptr (encSq s) 0,.kptr (encCs c) 0]] (0+i*2) 2))))),(6,.b (.v (vI 4))),(7,.b (.v (vI 3)))] []) [5,6,7] [4] kr ?_ nofun
    refine u0 ?_
    refine rCondT true kr rfl ?_
    refine rBlock ?_
    refine uq [] [ub 3 4] ?_
    have cc4:=rd4_c m s c (by exact ok_win (by simp only [rd1,q1,q2,q3,q4,q5,q6,q7,q8,q9,q10,q11,q12] at *;simp_all) (by simp only [rd2] at *;simp_all))
    refine us 2 cc4 ?_
    refine ud ee6 (fun hh4 ee7=>?_) (fun hh4 ee8=>?_)
    ·refine u0 ?_
     exact run_ret (blockR_ret (blockR_ret (ut _ (by rw [ee7]<;>rfl))))
    ·refine run_nil (blockR_normal ?_)
     refine u0 ?_
     refine run_nil ?_
     refine unrollS ?_
     refine rTold (mkS 18 [(5,.b (.v (.c (.lst 2 4 (fun i=>sub [cI 1,.clo 86 [.kptr (encSq s) 0,.kptr (encCs c) 0,.kptr [cI m] 0],cI 11,.clo 89 [.kptr (encCs c) 0],cI 16,.clo 90 [.kptr [cI m] 0,.kptr (encSq s) 0,.kptr (encCs c) 0],cI 17,.clo 92 [.kptr [cI m] 0,.kptr (encSq s) 0,.kptr (encCs c) 0]] (0+i*2) 2))))),(6,.b (.v (vI 4))),(7,.b (.v (vI 4)))] []) [5,6,7] [4] kr ?_ nofun
     refine u0 ?_
     refine rCondF false kr rfl ?_
     refine run_exit (blockR_exit ?_)
     refine u0 ?_
     exact run_ret (ut _ (by rw [ee8]<;>rfl))
def Ready(s:Sq)(c:Cs)(m:Int):Int:=
 (first s c m)
theorem Ready_c(s:Sq)(c:Cs)(m:Int):FCall Tryz.prog 27 [.agg (encSq s),.agg (encCs c),vI m] (.v (vI (Ready s c m))):=by
 have ee0:=Ready.eq_1 s c m
 refine ul Tryz.func27 rfl (fun B hB=>?_)
 refine uq [(0,.imm),(1,.imm),(2,.imm)] [] ?_
 refine u0 ?_
 refine frzBox hB 7 7 0 [cI 1,.clo 86 [.kptr (encSq s) 0,.kptr (encCs c) 0,.kptr [cI m] 0],cI 11,.clo 89 [.kptr (encCs c) 0],cI 16,.clo 90 [.kptr [cI m] 0,.kptr (encSq s) 0,.kptr (encCs c) 0],cI 17,.clo 92 [.kptr [cI m] 0,.kptr (encSq s) 0,.kptr (encCs c) 0]] [] [] kr kr kr ?_ nofun
 have ccF:=first_c s c m
 refine uq [(1,hcon ccF)] [pu ccF] ?_
 exact run_ret (ut _ (by rw [ee0]<;>rfl))
theorem valid_next{s:Sq}{c:Cs}(h:valid s c=true)(ho:c.over=false):0≤c.next∧c.next<(s.l.length:Int):=by
 rw [valid] at h
 cases hv:Valid s with
 | false=>rw [hv] at h;exact absurd h (by simp)
 | true =>
  have hl:=Valid_len hv
  rw [hv,ho] at h
  cases h0:(c.next==0&&(c.round==0&&(c.last==0&&((false:Bool)==false&&true)))) with
  | true =>
   simp at h0
   omega
  | false =>
   rw [h0] at h
   simp only [Bool.not_true,cond_false,Bool.and_eq_true,within_iff] at h
   have:=h.1.1.1
   rw [w64 _ om om] at this
   omega
theorem ready_valid{s:Sq}{c:Cs}{m:Int}(h:(Ready s c m==1)=false):valid s c=true:=by
 cases hv:valid s c with
 | true=>rfl
 | false =>
  have h1:rd1 s c m=false:=by rw [rd1,hv];rfl
  rw [Ready,first,h1] at h
  cases h
end Go.Proofs.YtidbmbpeblmliaaGreatDoor.Cad
namespace Go.Proofs.YtidbmbpeblmliaaGreatDoor.Cfm
open Go.Sym Go.Proofs.YtidbmbpeblmliaaGreatDoor
def at'(t:Ta):Plc:=
 (⟨t.t,t.c,t.f⟩:Plc)
theorem at'_c(t:Ta):FCall Tryz.prog 272 [.agg (encTa t)] (.v (.agg (encPlc (at' t)))):=by
 have ee0:=at'.eq_1 t
 refine ul Tryz.func272 rfl (fun B hB=>?_)
 refine uq [(0,.imm)] [] ?_
 refine u0 ?_
 exact run_ret (ut _ (by rw [ee0]<;>rfl))
def exists_(p:Plc):Bool:=
 ((((((decide (p.pt≥0))&&(decide (p.pt<512)))&&(decide (p.pc≥0)))&&(decide (p.pc<4)))&&(decide (p.pf≥0)))&&(decide (p.pf<8)))
theorem exists__c(p:Plc):FCall Tryz.prog 273 [.agg (encPlc p)] (.v (vB (exists_ p))):=by
 have ee0:=exists_.eq_1 p
 refine ul Tryz.func273 rfl (fun B hB=>?_)
 refine uq [(0,.imm)] [] ?_
 refine u0 ?_
 exact run_ret (ut _ (by rw [ee0]<;>rfl))
def cor_b1_r(vals:List Int)(lx1:Unit):Int:=
 0
def cor_b1(vals:List Int)(li1:Nat)(lx1:Unit):Fl Unit Int:=
 (bif ((vals.getD li1 0) != 0) then .rt (vals.getD li1 0) else .nx ())
def cor_b1_s(vals:List Int)(li1:Nat)(qv:Int)(lx1:Unit):S:=mkS 18 [(3,.b (.v (vI 0))),(6,.b (.v (.c (.lst 1 vals.length (elM Sym.encI 0 vals))))),(7,.b (.v (vI (vals.length:Int)))),(8,.b (.v (vI qv)))] []
def cor(vals:List Int):Int:=
 (runL (cor_b1 vals) vals.length 0 ()).fin (cor_b1_r vals)
theorem cor_c(vals:List Int):FCall Tryz.prog 328 [.c (.lst 1 vals.length (elM Sym.encI 0 vals))] (.v (vI (cor vals))):=by
 have ee0:=cor.eq_1 vals
 refine ul Tryz.func328 rfl (fun B hB=>?_)
 refine u0 (u0 (u0 ?_))
 refine uS 0 1 vals.length (elM Sym.encI 0 vals) (fun hL1=>?_)
 refine uF vals.length (cor_b1_s vals) (cor_b1 vals) (fun _ _=>True) () rfl [3,6,7,8] [] trivial (fun li1 lx1 hi1 hJ1 hr1=>?_) (fun lx1 hJ1 hr1=>?_)
 ·have ee2:=cor_b1.eq_1 vals li1 lx1
  refine uq [] [ub (li1:Int) vals.length] ?_
  refine u0 ?_
  refine ud ee2 (fun hh1 ee3=>?_) (fun hh1 ee5=>?_)
  ·refine u0 ?_
   have ee4:=fin_rt ee0 hr1 hi1 ee3
   exact run_ret (ut _ (by rw [ee4]<;>rfl))
  ·exact run_nil (uN (cor_b1_s vals) () hi1 [3,6,7,8] [] (trivial) ee5)
 ·have ee1:=(fin_nx ee0 hr1).trans (cor_b1_r.eq_1 vals lx1)
  refine u0 ?_
  exact run_ret (ut _ (by rw [ee1]<;>rfl))
def compare(a:Plc)(b:Plc):Int:=
 (cor [(IntKind.i64.wrap (a.pt - b.pt)),(IntKind.i64.wrap (a.pc - b.pc)),(IntKind.i64.wrap (a.pf - b.pf))])
theorem compare_c(a:Plc)(b:Plc):FCall Tryz.prog 274 [.agg (encPlc a),.agg (encPlc b)] (.v (vI (compare a b))):=by
 have ee0:=compare.eq_1 a b
 refine ul Tryz.func274 rfl (fun B hB=>?_)
 refine uq [(0,.imm),(1,.imm)] [] ?_
 have cc1:=cor_c [(IntKind.i64.wrap (a.pt - b.pt)),(IntKind.i64.wrap (a.pc - b.pc)),(IntKind.i64.wrap (a.pf - b.pf))]
 refine uq [(15,.frz 3 (elM Sym.encI 0 [(IntKind.i64.wrap (a.pt - b.pt)),(IntKind.i64.wrap (a.pc - b.pc)),(IntKind.i64.wrap (a.pf - b.pf))])),(16,hcon cc1)] [@pu (3=3∧∀ i,i<3→(elM Sym.encI 0 [(IntKind.i64.wrap (a.pt - b.pt)),(IntKind.i64.wrap (a.pc - b.pc)),(IntKind.i64.wrap (a.pf - b.pf))]) i=[[cI (IntKind.i64.wrap (a.pt - b.pt))],[cI (IntKind.i64.wrap (a.pc - b.pc))],[cI (IntKind.i64.wrap (a.pf - b.pf))]].getD i []) (⟨rfl,fun i hi=>match i,hi with | 0,_=>rfl | 1,_=>rfl | 2,_=>rfl⟩),pu cc1] ?_
 exact run_ret (ut _ (by rw [ee0]<;>rfl))
def tallies_b1_r(l:List Ta)(lx1:Unit):Bool:=
 (decide ((l.length:Int)≤1000))
def tallies_b1(l:List Ta)(li1:Nat)(lx1:Unit):Fl Unit Bool:=
 (bif ((((!(exists_ (at' (l.getD li1 zTa))))||(decide (((l.getD li1 zTa).n)<1)))||(decide (((l.getD li1 zTa).n)>1000)))||((decide ((li1:Int)>0))&&(decide ((compare (at' (l.getD ((IntKind.i64.wrap ((li1:Int) - 1)).toNat) zTa)) (at' (l.getD li1 zTa)))≥0)))) then .rt false else .nx ())
def tallies_b1_s(l:List Ta)(li1:Nat)(qv:Int)(lx1:Unit):S:=mkS 46 [(0,.b (.v (.c (.lst 4 l.length (elM encTa zTa l))))),(5,.b (.v (.c (.lst 4 l.length (elM encTa zTa l))))),(6,.b (.v (vI (l.length:Int)))),(7,.b (.v (vI qv)))] []
def tallies(l:List Ta):Bool:=
 (runL (tallies_b1 l) l.length 0 ()).fin (tallies_b1_r l)
theorem tallies_c(l:List Ta):FCall Tryz.prog 207 [.c (.lst 4 l.length (elM encTa zTa l))] (.v (vB (tallies l))):=by
 have ee0:=tallies.eq_1 l
 refine ul Tryz.func207 rfl (fun B hB=>?_)
 refine u0 (u0 ?_)
 refine uS 0 4 l.length (elM encTa zTa l) (fun hL1=>?_)
 refine uF l.length (tallies_b1_s l) (tallies_b1 l) (fun _ _=>True) () rfl [0,5,6,7] [] trivial (fun li1 lx1 hi1 hJ1 hr1=>?_) (fun lx1 hJ1 hr1=>?_)
 ·have ee2:=tallies_b1.eq_1 l li1 lx1
  refine uq [] [ub (li1:Int) l.length] ?_
  have cc1:=at'_c (l.getD li1 zTa)
  have cc2:=exists__c (at' (l.getD li1 zTa))
  have cc3:=at'_c (l.getD ((IntKind.i64.wrap ((li1:Int) - 1)).toNat) zTa)
  have cc4:=at'_c (l.getD li1 zTa)
  have cc5:=compare_c (at' (l.getD ((IntKind.i64.wrap ((li1:Int) - 1)).toNat) zTa)) (at' (l.getD li1 zTa))
  refine uq [(1,hcon cc1),(2,hcon cc2),(23,hcon cc3),(25,hcon cc4),(26,hcon cc5)] [pu cc1,pu cc2,uh ((!(((!(exists_ (at' (l.getD li1 zTa))))||(decide (((l.getD li1 zTa).n)<1)))||(decide (((l.getD li1 zTa).n)>1000))))&&(decide ((li1:Int)>0))) (IntKind.i64.wrap ((li1:Int) - 1)) l.length,pu cc3,pu cc4,pu cc5] ?_
  refine ud ee2 (fun hh1 ee3=>?_) (fun hh1 ee5=>?_)
  ·refine u0 ?_
   have ee4:=fin_rt ee0 hr1 hi1 ee3
   exact run_ret (ut _ (by rw [ee4]<;>rfl))
  ·exact run_nil (uN (tallies_b1_s l) () hi1 [0,5,6,7] [4] (trivial) ee5)
 ·have ee1:=(fin_nx ee0 hr1).trans (tallies_b1_r.eq_1 l lx1)
  refine u0 ?_
  exact run_ret (ut _ (by rw [ee1]<;>rfl))
def need_(t:Ta)(need:Int):Bool:=
 (decide (t.n≥need))
theorem need__c(t:Ta)(need:Int):FCall Tryz.prog 209 [.agg (encTa t),.c (.kptr [cI need] 0)] (.v (vB (need_ t need))):=by
 have ee0:=need_.eq_1 t need
 refine ul Tryz.func209 rfl (fun B hB=>?_)
 refine uq [(0,.imm)] [] ?_
 refine u0 ?_
 exact run_ret (ut _ (by rw [ee0]<;>rfl))
def only_b1_r(l:List Ta)(need:Int)(lx1:(List Ta)):(List Ta):=
 lx1
def only_b1(l:List Ta)(need:Int)(li1:Nat)(lx1:(List Ta)):Fl (List Ta) (List Ta):=
 (bif (need_ (l.getD li1 zTa) need) then .nx (lx1++[(l.getD li1 zTa)]) else .nx lx1)
def only_b1_s(l:List Ta)(need:Int)(li1:Nat)(qv:Int)(lx1:(List Ta))(n5:Nat)(r5:List (List C)):S:=mkS 23 [(1,.b (.v (.c (.clo 209 [.kptr [cI need] 0])))),(5,.b (.v (.c (.row 5 n5)))),(8,.b (.v (.c (.lst 4 l.length (elM encTa zTa l))))),(9,.b (.v (vI (l.length:Int)))),(10,.b (.v (vI qv)))] [(5,.row 274 4 r5)]
def only(l:List Ta)(need:Int):(List Ta):=
 (runL (only_b1 l need) l.length 0 ([]:List Ta)).fin (only_b1_r l need)
theorem only_c(l:List Ta)(need:Int)(hl:l.length≤4000000000000):FCall Tryz.prog 208 [.c (.lst 4 l.length (elM encTa zTa l)),.c (.clo 209 [.kptr [cI need] 0])] (.v (.c (.lst 4 ((only l need).length) (elM encTa zTa (only l need))))):=by
 have ee0:=only.eq_1 l need
 refine ul Tryz.func208 rfl (fun B hB=>?_)
 refine u0 (u0 (u0 ?_))
 refine run_weaken (wk_nilRow 5 5 274 4 kr kr om) ?_ nofun
 refine uS 0 4 l.length (elM encTa zTa l) (fun hL1=>?_)
 refine rForX l.length (fun qi qv qz=>only_b1_s l need qi qv qz qz.length (qz.map encTa)) (only_b1 l need) (fun li1 lx1=>lx1.length≤li1) ([]:List Ta) rfl mix (rowW (fun qn qr=>only_b1_s l need 0 0 ([]:List Ta) qn qr) 0 [] ([]:List Ta) (rfl) (rfl) (wkTo [1,5,8,9,10] [] kr)) (by simp) (fun qi qz=>⟨kr,kr⟩) (fun li1 lx1 hi1 hJ1 hr1=>?_) (fun lx1 hJ1 hr1=>?_)
 ·have ee2:=only_b1.eq_1 l need li1 lx1
  refine uq [] [ub (li1:Int) l.length] ?_
  have cc1:=need__c (l.getD li1 zTa) need
  refine us 2 cc1 ?_
  refine ud ee2 (fun hh1 ee3=>?_) (fun hh1 ee4=>?_)
  ·refine uq [(2,.frz 1 (elM encTa zTa [(l.getD li1 zTa)]))] [@pu (1=1∧∀ i,i<1→(elM encTa zTa [(l.getD li1 zTa)]) i=[(encTa (l.getD li1 zTa))].getD i []) (⟨rfl,fun i hi=>match i,hi with | 0,_=>rfl⟩),@pu (lx1.length=(lx1.map encTa).length) (rowN rfl rfl),uo ((lx1.length+1)*(32+1)≤140737488355328)] ?_
   exact run_nil (forX_nx (fun qi qv qz=>only_b1_s l need qi qv qz qz.length (qz.map encTa)) (lx1++[(l.getD li1 zTa)]) hi1 om kr (rowW (fun qn qr=>only_b1_s l need (li1+1) (IntKind.i64.wrap ((li1:Int)+1)) (lx1++[(l.getD li1 zTa)]) qn qr) (lx1.length+1) ((lx1.map encTa)++((List.range 1).map (elM encTa zTa [(l.getD li1 zTa)]))) (lx1++[(l.getD li1 zTa)]) (rowAn rfl [(l.getD li1 zTa)]) (rowA rfl [(l.getD li1 zTa)]) (wkTo [1,5,8,9,10] [7] kr)) ((by first | omega | (simp;omega) | (simp only [List.length_append,List.length_cons,List.length_nil] at *;omega))) ee3)
  ·exact run_nil (forX_nx (fun qi qv qz=>only_b1_s l need qi qv qz qz.length (qz.map encTa)) lx1 hi1 om kr (rowW (fun qn qr=>only_b1_s l need (li1+1) (IntKind.i64.wrap ((li1:Int)+1)) lx1 qn qr) lx1.length (lx1.map encTa) lx1 (rfl) (rfl) (wkTo [1,5,8,9,10] [7] kr)) ((by first | omega | (simp;omega) | (simp only [List.length_append,List.length_cons,List.length_nil] at *;omega))) ee4)
 ·have ee1:=(fin_nx ee0 hr1).trans (only_b1_r.eq_1 l need lx1)
  refine u0 ?_
  refine frzRow hB 4 5 lx1.length 274 4 (lx1.map encTa) (elM encTa zTa lx1) [] [] kr kr (len_row _ _) (elM_row _ _ _) kr ?_ nofun
  exact run_ret (ut _ (by rw [ee1]<;>rfl))
theorem tallies_len{l:List Ta}(h:tallies l=true):l.length≤1000:=by
 have:=runL_end (k:=tallies_b1_r l) (fun j=>bool_or _) _ _ h
 simp [tallies_b1_r] at this
 omega
def Confirmed(l:List Ta)(need:Int):(List Ta)×Int:=
 (bif (((!(tallies l))||(decide (need<1)))||(decide (need>1000))) then ([],1) else ((only l need),0))
theorem Confirmed_c(l:List Ta)(need:Int):FCall Tryz.prog 111 [.c (.lst 4 l.length (elM encTa zTa l)),vI need] (.tup [.c (.lst 4 (((Confirmed l need).1).length) (elM encTa zTa ((Confirmed l need).1))),vI ((Confirmed l need).2)]):=by
 have ee0:=Confirmed.eq_1 l need
 refine ul Tryz.func111 rfl (fun B hB=>?_)
 refine uq [(0,.imm)] [] ?_
 have cc1:=tallies_c l
 refine us 1 cc1 ?_
 refine ud ee0 (fun hh1 ee1=>?_) (fun hh1 ee2=>?_)
 ·refine u0 ?_
  refine run_weaken (wk_nilLst 4 4 (elM encTa zTa []) kr) ?_ nofun
  exact run_ret (ut _ (by rw [ee1]<;>rfl))
 ·have hq:=tallies_len (l:=l) (by revert hh1;cases tallies l<;>simp)
  have cc2:=only_c l need vo
  refine us 2 cc2 ?_
  exact run_ret (ut _ (by rw [ee2]<;>rfl))
end Go.Proofs.YtidbmbpeblmliaaGreatDoor.Cfm
namespace Go.Proofs.YtidbmbpeblmliaaGreatDoor.Bal
open Go.Sym Go.Proofs.YtidbmbpeblmliaaGreatDoor
def outf(n:Int)(lo:Int)(hi:Int):Bool:=
 ((decide (n<lo))||(decide (n>hi)))
theorem outf_c(n:Int)(lo:Int)(hi:Int):FCall Tryz.prog 276 [vI n,.c (.kptr [cI lo] 0),.c (.kptr [cI hi] 0)] (.v (vB (outf n lo hi))):=by
 have ee0:=outf.eq_1 n lo hi
 refine ul Tryz.func276 rfl (fun B hB=>?_)
 refine u0 (u0 ?_)
 exact run_ret (ut _ (by rw [ee0]<;>rfl))
theorem outside_c(lo:Int)(hi:Int):FCall Tryz.prog 211 [vI lo,vI hi] (.v (.c (.clo 276 [.kptr [cI lo] 0,.kptr [cI hi] 0]))):=by
 refine ul Tryz.func211 rfl (fun B hB=>?_)
 refine uq [(0,.imm),(1,.imm)] [] ?_
 refine u0 ?_
 exact run_ret (ut (.v (.c (.clo 276 [.kptr [cI lo] 0,.kptr [cI hi] 0]))) rfl)
def indexF_b1_r(s:List Int)(lo:Int)(hi:Int)(lx1:Unit):Int:=
 (-1)
def indexF_b1(s:List Int)(lo:Int)(hi:Int)(li1:Nat)(lx1:Unit):Fl Unit Int:=
 (bif (outf (s.getD li1 0) lo hi) then .rt (li1:Int) else .nx ())
def indexF_b1_s(s:List Int)(lo:Int)(hi:Int)(li1:Nat)(qv:Int)(lx1:Unit):S:=mkS 19 [(0,.b (.v (.c (.lst 1 s.length (elM Sym.encI 0 s))))),(1,.b (.v (.c (.clo 276 [.kptr [cI lo] 0,.kptr [cI hi] 0])))),(7,.b (.v (vI (s.length:Int)))),(8,.b (.v (vI qv)))] []
def indexF(s:List Int)(lo:Int)(hi:Int):Int:=
 (runL (indexF_b1 s lo hi) s.length 0 ()).fin (indexF_b1_r s lo hi)
theorem indexF_c(s:List Int)(lo:Int)(hi:Int):FCall Tryz.prog 275 [.c (.lst 1 s.length (elM Sym.encI 0 s)),.c (.clo 276 [.kptr [cI lo] 0,.kptr [cI hi] 0])] (.v (vI (indexF s lo hi))):=by
 have ee0:=indexF.eq_1 s lo hi
 refine ul Tryz.func275 rfl (fun B hB=>?_)
 refine u0 (u0 ?_)
 refine uS 0 1 s.length (elM Sym.encI 0 s) (fun hL1=>?_)
 refine uF s.length (indexF_b1_s s lo hi) (indexF_b1 s lo hi) (fun _ _=>True) () rfl [0,1,7,8] [] trivial (fun li1 lx1 hi1 hJ1 hr1=>?_) (fun lx1 hJ1 hr1=>?_)
 ·have ee2:=indexF_b1.eq_1 s lo hi li1 lx1
  refine u0 ?_
  have cc1:=outf_c (s.getD li1 0) lo hi
  refine uq [(5,hcon cc1)] [ub (li1:Int) s.length,pu cc1] ?_
  refine ud ee2 (fun hh1 ee3=>?_) (fun hh1 ee5=>?_)
  ·refine u0 ?_
   have ee4:=fin_rt ee0 hr1 hi1 ee3
   exact run_ret (ut _ (by rw [ee4]<;>rfl))
  ·exact run_nil (uN (indexF_b1_s s lo hi) () hi1 [0,1,7,8] [] (trivial) ee5)
 ·have ee1:=(fin_nx ee0 hr1).trans (indexF_b1_r.eq_1 s lo hi lx1)
  refine u0 ?_
  exact run_ret (ut _ (by rw [ee1]<;>rfl))
def containsF(s:List Int)(lo:Int)(hi:Int):Bool:=
 (decide ((indexF s lo hi)≥0))
theorem containsF_c(s:List Int)(lo:Int)(hi:Int):FCall Tryz.prog 210 [.c (.lst 1 s.length (elM Sym.encI 0 s)),.c (.clo 276 [.kptr [cI lo] 0,.kptr [cI hi] 0])] (.v (vB (containsF s lo hi))):=by
 have ee0:=containsF.eq_1 s lo hi
 refine ul Tryz.func210 rfl (fun B hB=>?_)
 refine u0 ?_
 have cc1:=indexF_c s lo hi
 refine us 2 cc1 ?_
 exact run_ret (ut _ (by rw [ee0]<;>rfl))
def Valid(shares:List Int)(used:List Int):Bool:=
 (bif (((decide ((shares.length:Int)<1))||(decide ((shares.length:Int)>16)))||((used.length:Int) != (shares.length:Int))) then false else ((!(containsF shares 1 1000))&&(!(containsF used 0 1000000))))
theorem Valid_c(shares:List Int)(used:List Int):FCall Tryz.prog 112 [.c (.lst 1 shares.length (elM Sym.encI 0 shares)),.c (.lst 1 used.length (elM Sym.encI 0 used))] (.v (vB (Valid shares used))):=by
 have ee0:=Valid.eq_1 shares used
 refine ul Tryz.func112 rfl (fun B hB=>?_)
 refine u0 (u0 ?_)
 refine ud ee0 (fun hh1 ee1=>?_) (fun hh1 ee2=>?_)
 ·refine u0 ?_
  exact run_ret (ut _ (by rw [ee1]<;>rfl))
 ·have cc1:=outside_c 1 1000
  have cc2:=containsF_c shares 1 1000
  have cc3:=outside_c 0 1000000
  have cc4:=containsF_c used 0 1000000
  refine uq [(1,hcon cc1),(2,hcon cc2),(6,hcon cc3),(7,hcon cc4)] [pu cc1,pu cc2,pu cc3,pu cc4] ?_
  exact run_ret (ut _ (by rw [ee2]<;>rfl))
def sum_b1_r(l:List Int)(lx1:Int):Int:=
 lx1
def sum_b1(l:List Int)(li1:Nat)(lx1:Int):Fl Int Int:=
 .nx (IntKind.i64.wrap (lx1+(l.getD li1 0)))
def sum_b1_s(l:List Int)(li1:Nat)(qv:Int)(lx1:Int):S:=mkS 17 [(3,.b (.v (vI lx1))),(6,.b (.v (.c (.lst 1 l.length (elM Sym.encI 0 l))))),(7,.b (.v (vI (l.length:Int)))),(8,.b (.v (vI qv)))] []
def sum(l:List Int):Int:=
 (runL (sum_b1 l) l.length 0 0).fin (sum_b1_r l)
theorem sum_c(l:List Int):FCall Tryz.prog 219 [.c (.lst 1 l.length (elM Sym.encI 0 l))] (.v (vI (sum l))):=by
 have ee0:=sum.eq_1 l
 refine ul Tryz.func219 rfl (fun B hB=>?_)
 refine u0 (u0 (u0 ?_))
 refine uS 0 1 l.length (elM Sym.encI 0 l) (fun hL1=>?_)
 refine uF l.length (sum_b1_s l) (sum_b1 l) (fun _ _=>True) 0 rfl [3,6,7,8] [] trivial (fun li1 lx1 hi1 hJ1 hr1=>?_) (fun lx1 hJ1 hr1=>?_)
 ·have ee2:=sum_b1.eq_1 l li1 lx1
  refine uq [] [ub (li1:Int) l.length] ?_
  refine u0 ?_
  exact run_nil (uN (sum_b1_s l) (IntKind.i64.wrap (lx1+(l.getD li1 0))) hi1 [3,6,7,8] [] (trivial) ee2)
 ·have ee1:=(fin_nx ee0 hr1).trans (sum_b1_r.eq_1 l lx1)
  refine u0 ?_
  exact run_ret (ut _ (by rw [ee1]<;>rfl))
theorem Valid_len{shares used:List Int}(h:Valid shares used=true):(1≤shares.length∧shares.length≤16)∧used.length=shares.length:=by
 rw [Valid] at h
 have:=(bif_f h).1
 simp only [q1,q2,q3,q4,q5,q6,q7,q8,q9,q10,q11,q12] at this
 omega
def Balance(shares:List Int)(used:List Int)(partner:Int):Int×Int:=
 (bif (((!(Valid shares used))||(decide (partner<0)))||(decide (partner≥(shares.length:Int)))) then (0,1) else ((IntKind.i64.wrap ((IntKind.i64.wrap ((shares.getD partner.toNat 0)*(sum used))) - (IntKind.i64.wrap ((used.getD partner.toNat 0)*(sum shares))))),0))
theorem Balance_c(shares:List Int)(used:List Int)(partner:Int):FCall Tryz.prog 133 [.c (.lst 1 shares.length (elM Sym.encI 0 shares)),.c (.lst 1 used.length (elM Sym.encI 0 used)),vI partner] (.tup [vI ((Balance shares used partner).1),vI ((Balance shares used partner).2)]):=by
 have ee0:=Balance.eq_1 shares used partner
 refine ul Tryz.func133 rfl (fun B hB=>?_)
 refine u0 ?_
 have cc1:=Valid_c shares used
 refine us 2 cc1 ?_
 refine ud ee0 (fun hh1 ee1=>?_) (fun hh1 ee2=>?_)
 ·refine u0 ?_
  exact run_ret (ut _ (by rw [ee1]<;>rfl))
 ·have hq:=Valid_len (shares:=shares) (used:=used) (by revert hh1;cases Valid shares used<;>simp)
  have cc2:=sum_c used
  have cc3:=sum_c shares
  refine uq [(5,hcon cc2),(12,hcon cc3)] [ub partner shares.length,pu cc2,ub partner used.length,pu cc3] ?_
  exact run_ret (ut _ (by rw [ee2]<;>rfl))
end Go.Proofs.YtidbmbpeblmliaaGreatDoor.Bal
namespace Go.Sym
open Go
variable {P:Program} {B:Base P}
def Fl.isNx{σ ρ:Type}:Fl σ ρ→Bool
 | .nx _=>true
 | _=>false
def stR{σ ρ:Type}(bd:Nat→σ→Fl σ ρ)(x0:σ):Nat→σ
 | 0=>x0
 | i+1=>match bd i (stR bd x0 i) with
  | .nx y=>y
  | _=>stR bd x0 i
theorem rRangeX{α σ ρ:Type}{s:S}{g:Operand}{ps:Array Tmp}{assign body:Code}{cs:List Code}{Q:Exit→S→Prop}{f:FuncId}{caps:List C} 
  (hB:B.Fn) (hg:s.ev [] g=some (.v (.c (.clo f caps)))) (xs:List α) (z:α) (enc:α→List CV) (hit:FIter P f caps (xs.map enc)) (hps:∀ a,(enc a).length=ps.size)
  (I:σ→S) (bd:Nat→σ→Fl σ ρ) (J:Nat→σ→Prop) (x0:σ) (hw:Wk P s (I x0)) (h0:J 0 x0) (hJ:∀ i x y,i<xs.length→J i x→bd i x=.nx y→J (i+1) y) (hY:∀ x,(I x).noY=true)
  (round:∀ i x,i<xs.length→J i x→runL bd xs.length 0 x0=runL bd (xs.length - i) i x→∀ B1:Base P,Run P B1 (startR (I x) ps.toList (enc (xs.getD i z))) (flatC assign []) (fun e s1=>e=.normal∧s1.noY=true∧∀ B2:Base P,
   Run P B2 s1 (flatC body []) (fun e s'=>match e with
    | .normal=>s'.fits (I x).t.length=true∧∃ y,Wk P (unpin s') (I y)∧bd i x=.nx y
    | .ret=>s'.fits (I x).t.length=true∧(∃ r,bd i x=.rt r)∧Q .ret (unpin s')
    | .exit id=>s'.fits (I x).t.length=true∧(∃ r,bd i x=.rt r)∧Q (.exit id) (unpin s')
    | _=>False)))
  (hend:∀ x,J xs.length x→runL bd xs.length 0 x0=runL bd (xs.length - xs.length) xs.length x→Run P B (I x) cs Q):Run P B s (.rangeFunc g ps assign body :: cs) Q:=by
 obtain ⟨k,hk,hno,hyes⟩:∃ k,k≤xs.length∧(k<xs.length→(bd k (stR bd x0 k)).isNx=false)∧∀ j,j<k→(bd j (stR bd x0 j)).isNx=true:=by
  have key:∀ m,m≤xs.length→(∀ j,j<xs.length - m→(bd j (stR bd x0 j)).isNx=true)→∃ k,k≤xs.length∧(k<xs.length→(bd k (stR bd x0 k)).isNx=false)∧∀ j,j<k→(bd j (stR bd x0 j)).isNx=true:=by
   intro m
   induction m with
   | zero=>intro _ h;exact ⟨xs.length,Nat.le_refl _,fun h=>absurd h (Nat.lt_irrefl _),fun j hj=>h j (by omega)⟩
   | succ m ih =>
    intro hm h
    cases hc:(bd (xs.length - (m+1)) (stR bd x0 (xs.length - (m+1)))).isNx with
    | false=>exact ⟨xs.length - (m+1),by omega,fun _=>hc,fun j hj=>h j hj⟩
    | true =>
     refine ih (by omega) fun j hj=>?_
     by_cases h1:j<xs.length - (m+1)
     ·exact h j h1
     ·have h2:j=xs.length - (m+1):=by omega
      rw [h2];exact hc
  exact key xs.length (Nat.le_refl _) fun j hj=>by omega
 have hr:∀ i,i≤k→runL bd xs.length 0 x0=runL bd (xs.length - i) i (stR bd x0 i):=by
  intro i
  induction i with
  | zero=>intro _;rfl
  | succ i ih =>
   intro hi
   rw [ih (by omega),runL_step (by omega)]
   have h1:=hyes i (by omega)
   rw [stR]
   cases hb:bd i (stR bd x0 i) with
   | nx y=>rfl
   | br y=>rw [hb] at h1;cases h1
   | rt r=>rw [hb] at h1;cases h1
 have hj:∀ i,i≤k→J i (stR bd x0 i):=by
  intro i
  induction i with
  | zero=>intro _;exact h0
  | succ i ih =>
   intro hi
   have h1:=hyes i (by omega)
   have h2:=ih (by omega)
   rw [stR]
   cases hb:bd i (stR bd x0 i) with
   | nx y=>exact hJ i _ y (by omega) h2 hb
   | br y=>rw [hb] at h1;cases h1
   | rt r=>rw [hb] at h1;cases h1
 have hget:∀ i,i<xs.length→(xs.map enc).getD i []=enc (xs.getD i z):=fun i hi=>by simp [gE,hi]
 refine rRange hB.r hB.fn hg hit (fun i hi=>by rw [List.length_map] at hi;rw [hget i hi];exact hps _) k (by rw [List.length_map];exact hk) (fun i=>I (stR bd x0 i)) hw (fun i _=>hY _) (fun i hi hik B1=>?_) (fun hkn=>?_)
 ·rw [List.length_map] at hi
  rw [hget i hi]
  refine run_mono _ (fun e s1 ⟨h1,h2,h3⟩=>⟨h1,h2,fun B2=>run_mono _ (fun e' s' hq=>?_) (h3 B2)⟩) (round i (stR bd x0 i) hi (hj i hik) (hr i hik) B1)
  cases e' with
  | normal =>
   obtain ⟨hf,y,hw2,hb⟩:=hq
   have hlt:i<k:=by
    rcases Nat.lt_or_eq_of_le hik with h | rfl
    ·exact h
    ·have:=hno hi
     rw [hb] at this;cases this
   refine ⟨hlt,s',Wk.refl s',hf,?_⟩
   show Wk P (unpin s') (I (stR bd x0 (i+1)))
   rw [stR,hb];exact hw2
  | ret =>
   obtain ⟨hf,⟨r,hb⟩,hQ⟩:=hq
   have hik':i=k:=by
    rcases Nat.lt_or_eq_of_le hik with h | h
    ·have:=hyes i h
     rw [hb] at this;cases this
    ·exact h
   exact ⟨hik',s',Wk.refl s',hf,hQ⟩
  | exit id =>
   obtain ⟨hf,⟨r,hb⟩,hQ⟩:=hq
   have hik':i=k:=by
    rcases Nat.lt_or_eq_of_le hik with h | h
    ·have:=hyes i h
     rw [hb] at this;cases this
    ·exact h
   exact ⟨hik',s',Wk.refl s',hf,hQ⟩
  | _=>exact hq.elim
 ·rw [List.length_map] at hkn
  subst hkn
  exact hend _ (hj _ (Nat.le_refl _)) (hr _ (Nat.le_refl _))
end Go.Sym
namespace Go.Sym
theorem rng_ret{σ ρ:Type}{s':S}{n i:Nat}{x:σ}{bd:Nat→σ→Fl σ ρ}{r:ρ}{Q:Exit→S→Prop}{e:Exit}(hf:s'.fits n=true)(hb:bd i x=.rt r)(h:Q e (unpin s')):s'.fits n=true∧(∃ r,bd i x=.rt r)∧Q e (unpin s'):=⟨hf,⟨r,hb⟩,h⟩
end Go.Sym
namespace Go.Sym
open Go Go.RowKit
variable {P:Program} {B:Base P} {E:Env} {w:World}
theorem run_frzPtr{s s':S}{cs:List Code}{Q:Exit→S→Prop}(hB:B.Fn)(n i r off:Nat)(bs xs:List C)(ks ns:List Nat)(hn:s.m[n]?=some (some (.pcells bs)))(hi:bs[i]?=some (.ptr r off))(hm:s.m[r]?=some (some (.cells xs))) 
  (hz:frzC s n i r (.kptr xs off) ks ns=some s') (h:Run P B s' cs Q) (hne:cs≠[]):Run P B s cs Q:=by
 cases cs with
 | nil=>exact absurd rfl hne
 | cons c cs =>
 intro E a w hs
 unfold frzC at hz
 rw [hn] at hz
 simp only at hz
 split at hz
 case h_2=>cases hz
 rename_i s1 hs1
 split at hz
 case h_2=>cases hz
 rename_i cs' hn1
 split at hz
 case h_2=>cases hz
 rename_i hlen
 cases hz
 have hlen:=Nat.eq_of_beq_eq_true hlen
 have hil:i<bs.length:=(List.getElem?_eq_some_iff.1 hi).1
 obtain ⟨bb,barr,bT,hbb,hbh,hbr⟩:=hs.core.pcells hn
 have hkc:=(hbr.2 i hil).1
 have ei:bs.getD i .junk=.ptr r off:=by simp [gE,hi]
 rw [ei] at hkc
 obtain ⟨b,hcel,hu⟩:RelP E r off (barr.getD i undef):=hkc
 have hc0:Core B E (s.m.set n (some (boxOf (bs.set i .junk)))) w:=setCell_core hs.core hn (fun _ _ _ _ _ _=>RelK.junk _)
 have hc0':Core B E (s.m.set n (some (.pcells (bs.set i .junk)))) w:=by
  obtain ⟨hrn,hmn⟩:=hs.core.noRow hbb
  refine hs.core.step ⟨_,hn⟩ (Env.Le.refl E) rfl (fun _ _=>⟨rfl,rfl,rfl⟩) (fun b h=>rfl) (fun x h=>?_) (fun b h=>?_) ?_ (fun b' h=>⟨.inr h,hs.core.lt n b' h⟩) (Nat.le_refl _) rfl rfl rfl (fun _ _ _=>rfl)
  ·rw [hrn] at h;cases h
  ·rw [hmn] at h;cases h
  ·refine ⟨bb,barr,bT,hbb,hbh,by rw [List.length_set];exact hbr.1,fun j hj=>?_⟩
   rw [List.length_set] at hj
   obtain ⟨g1,g2⟩:=hbr.2 j hj
   refine ⟨?_,g2⟩
   by_cases hij:i=j
   ·subst hij
    have e2:(bs.set i C.junk).getD i .junk=C.junk:=by simp [gE,hj]
    rw [e2];exact RelK.junk _
   ·have e2:(bs.set i C.junk).getD j .junk=bs.getD j .junk:=by simp [gE,hij]
    rw [e2];exact g1
 have hs0:Sim B E { s with m:=s.m.set n (some (.pcells (bs.set i .junk))) } a w:=hs.le (Env.Le.refl E) hc0'
 obtain ⟨E1,hs1',hK1,hc1,hh1⟩:=wk_slim hs1 _ _ _ _ hs0
 obtain ⟨b',arr,T,hcel',hb,hrel⟩:=hs.core.cells hm
 rw [hcel] at hcel'
 cases hcel'
 have hheld:E.holds r b:=.inl hcel
 have hgone:∀ j,¬ E1.holds j b:=by
  intro j hj
  have hjr:j=r:=hs.core.inj j r b (hh1 j b hj) hheld
  subst hjr
  have hnj:n≠j:=fun e=>by rw [e,hm] at hn;cases hn
  have hmn:s1.m[j]?=some none:=slim_none hs1 (by simp only [List.length_set];exact (List.getElem?_eq_some_iff.1 hm).1)
  obtain ⟨h1,h2,h3⟩:=hs1'.core.nothing hmn
  rcases hj with h | h | ⟨_,_,h,_⟩
  ·rw [h1] at h;cases h
  ·rw [h3] at h;cases h
  ·rw [h2] at h;cases h
 have hgn:E1.c.w0.heap.size≤b:=by
  rw [hc1]
  rcases hs.core.new r b hheld with h | h
  ·exact h
  ·exact absurd h (hB.W b)
 have hcell1:E1.cel n=some bb:=by
  obtain ⟨b,arr2,T2,hb2,_,_⟩:=hs1'.core.pcells hn1
  obtain ⟨q1,q2⟩:=hs.core.noRow hbb
  rw [hb2,holds_cel q1 q2 hbb (hh1 n b (.inl hb2))]
 obtain ⟨E2,hle2,hKg,hc2⟩:=hs1'.core.learn hgone hb hgn
 have hKK:E.K.le E2.K:=by rw [← hK1];exact hle2.K
 have hl:RelK E2.K (.kptr xs off) (barr.getD i undef):=by
  rw [hu]
  exact .kptr xs off b arr T (0,0) hKg hrel.1 (fun j hj=>(hrel.2 j hj).1.mono hKK) (fun j hj=>(hrel.2 j hj).2)
 have hc3:=setCell_core (i:=i) (c:=.kptr xs off) hc2 hn1 (fun b arr T hb hh2 _=>by
  have e1:=hle2.cel n bb hcell1
  rw [e1] at hb
  cases hb
  rw [hbh] at hh2
  cases hh2
  exact hl)
 exact h E2 a w (hs1'.le hle2 hc3)
theorem frzPtr{s:S}{cs:List Code}{Q:Exit→S→Prop}(hB:B.Fn)(n i r off:Nat)(bs xs:List C)(ks ns:List Nat)(hn:s.m[n]?=some (some (.pcells bs)))(hi:bs[i]?=some (.ptr r off))(hm:s.m[r]?=some (some (.cells xs))) 
  (hz:(frzC s n i r (.kptr xs off) ks ns).isSome=true) (h:Run P B (getS (frzC s n i r (.kptr xs off) ks ns)) cs Q) (hne:cs≠[]):Run P B s cs Q:=
 run_frzPtr hB n i r off bs xs ks ns hn hi hm (getS_eq hz) h hne
end Go.Sym
