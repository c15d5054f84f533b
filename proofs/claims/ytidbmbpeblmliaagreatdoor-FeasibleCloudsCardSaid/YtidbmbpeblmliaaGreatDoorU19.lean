/- Part of the proof of the statement that the claim's last text names: contracts of functions and laws of the symbolic layer. -/
import Derived.Test.YtidbmbpeblmliaaGreatDoorU14
import Derived.Test.YtidbmbpeblmliaaGreatDoorU15
import Derived.Test.YtidbmbpeblmliaaGreatDoorU12
import Derived.Test.YtidbmbpeblmliaaGreatDoorU13
import Derived.Test.YtidbmbpeblmliaaGreatDoorO08
import Derived.Test.YtidbmbpeblmliaaGreatDoorU17
set_option linter.unusedVariables false
set_option linter.unusedSimpArgs false
namespace Go.Proofs.YtidbmbpeblmliaaGreatDoor.Mer
open Go.Sym Go.Proofs.YtidbmbpeblmliaaGreatDoor
def identifier(s:BA):Bool:=
 ((((((LexS.lex s).2.1)==0)&&((((LexS.lex s).1).length:Int)==1))&&(((((LexS.lex s).1).getD 0 zTok).kind)==1))&&(((((LexS.lex s).1).getD 0 zTok).text).toList==s.toList))
theorem identifier_c(s:BA):FCall Tryz.prog 277 [.c (.str s)] (.v (vB (identifier s))):=by
 have ee0:=identifier.eq_1 s
 refine ul Tryz.func277 rfl (fun B hB=>?_)
 refine u0 ?_
 have cc1:=LexS.lex_c s
 refine us 1 cc1 ?_
 refine uq [] [uh ((((LexS.lex s).2.1)==0)&&((((LexS.lex s).1).length:Int)==1)) 0 ((LexS.lex s).1).length,uh (((((LexS.lex s).2.1)==0)&&((((LexS.lex s).1).length:Int)==1))&&(((((LexS.lex s).1).getD 0 zTok).kind)==1)) 0 ((LexS.lex s).1).length] ?_
 exact run_ret (ut _ (by rw [ee0]<;>rfl))
def out(n:Int):Bool:=
 ((decide (n<(-1000000000000)))||(decide (n>1000000000000)))
theorem out_c(n:Int):FCall Tryz.prog 224 [vI n] (.v (vB (out n))):=by
 have ee0:=out.eq_1 n
 refine ul Tryz.func224 rfl (fun B hB=>?_)
 refine u0 (u0 ?_)
 exact run_ret (ut _ (by rw [ee0]<;>rfl))
def values_b1_r(l:List Vr)(lx1:(List (BA×Int))):Option (List (BA×Int)):=
 (some lx1)
def values_b1(l:List Vr)(li1:Nat)(lx1:(List (BA×Int))):Fl (List (BA×Int)) (Option (List (BA×Int))):=
 (bif (((mgetB Sym.eqS lx1 ((l.getD li1 zVr).name))||(!(identifier ((l.getD li1 zVr).name))))||(out ((l.getD li1 zVr).value))) then .rt none else .nx (mput Sym.eqS lx1 ((l.getD li1 zVr).name) ((l.getD li1 zVr).value)))
def values_b1_s(l:List Vr)(li1:Nat)(qv:Int)(lx1:(List (BA×Int))):S:=mkS 42 [(4,.b (.v (.c (.omap 9)))),(10,.b (.v (.c (.lst 2 l.length (elM encVr zVr l))))),(11,.b (.v (vI (l.length:Int)))),(12,.b (.v (vI qv)))] [(9,.omap false false (Sym.encM Sym.encS Sym.encI lx1))]
def values(l:List Vr):Option (List (BA×Int)):=
 (runL (values_b1 l) l.length 0 ([]:List (BA×Int))).fin (values_b1_r l)
def values_o:Option (List (BA×Int))→SB
 | none=>.tup [.c (.lit (Value.map none)),vB false]
 | some m=>.tup [.c (.kmap false false (Sym.encM Sym.encS Sym.encI m)),vB true]
theorem values_c(l:List Vr):FCall Tryz.prog 220 [.c (.lst 2 l.length (elM encVr zVr l))] (values_o (values l)):=by
 have ee0:=values.eq_1 l
 refine ul Tryz.func220 rfl (fun B hB=>?_)
 refine u0 (u0 (u0 ?_))
 refine uS 0 2 l.length (elM encVr zVr l) (fun hL1=>?_)
 refine uF l.length (values_b1_s l) (values_b1 l) (fun _ _=>True) ([]:List (BA×Int)) rfl [4,10,11,12] [] trivial (fun li1 lx1 hi1 hJ1 hr1=>?_) (fun lx1 hJ1 hr1=>?_)
 ·have ee2:=values_b1.eq_1 l li1 lx1
  refine uq [] [ub (li1:Int) l.length] ?_
  refine uq [(3,.look (mgetB Sym.eqS lx1 ((l.getD li1 zVr).name)) (Sym.encI (mgetD Sym.eqS 0 lx1 ((l.getD li1 zVr).name))))] [uk 9 false [.str],@pu (Look (Sym.encM Sym.encS Sym.encI lx1) (Sym.encS ((l.getD li1 zVr).name)) (Sym.encI 0) (mgetB Sym.eqS lx1 ((l.getD li1 zVr).name)) (Sym.encI (mgetD Sym.eqS 0 lx1 ((l.getD li1 zVr).name)))) (look_of Sym.keyS _ _ _)] ?_
  have cc1:=identifier_c ((l.getD li1 zVr).name)
  have cc2:=out_c ((l.getD li1 zVr).value)
  refine uq [(4,hcon cc1),(10,hcon cc2)] [pu cc1,pu cc2] ?_
  refine ud ee2 (fun hh1 ee3=>?_) (fun hh1 ee5=>?_)
  ·refine u0 ?_
   have ee4:=fin_rt ee0 hr1 hi1 ee3
   exact run_ret (ut _ (by rw [ee4]<;>rfl))
  ·refine uq [(5,.put (Sym.encM Sym.encS Sym.encI (mput Sym.eqS lx1 ((l.getD li1 zVr).name) ((l.getD li1 zVr).value))))] [uk 9 false [.str],@pu (Put (Sym.encM Sym.encS Sym.encI lx1) (Sym.encS ((l.getD li1 zVr).name)) (Sym.encI ((l.getD li1 zVr).value)) (Sym.encM Sym.encS Sym.encI (mput Sym.eqS lx1 ((l.getD li1 zVr).name) ((l.getD li1 zVr).value)))) (put_of Sym.keyS _ _ _)] ?_
   exact run_nil (uN (values_b1_s l) (mput Sym.eqS lx1 ((l.getD li1 zVr).name) ((l.getD li1 zVr).value)) hi1 [4,10,11,12] [6] (trivial) ee5)
 ·have ee1:=(fin_nx ee0 hr1).trans (values_b1_r.eq_1 l lx1)
  refine u0 ?_
  refine frzMap hB 2 9 false false (Sym.encM Sym.encS Sym.encI lx1) [3] [] kr kr kr ?_ nofun
  exact run_ret (ut _ (by rw [ee1]<;>rfl))
def number(is:Bool):Int:=
 (bif is then 1 else 0)
theorem number_c(is:Bool):FCall Tryz.prog 280 [vB is] (.v (vI (number is))):=by
 have ee0:=number.eq_1 is
 refine ul Tryz.func280 rfl (fun B hB=>?_)
 refine u0 (u0 ?_)
 refine ud ee0 (fun hh1 ee1=>?_) (fun hh1 ee2=>?_)
 ·refine u0 ?_
  exact run_ret (ut _ (by rw [ee1]<;>rfl))
 ·refine u0 ?_
  exact run_ret (ut _ (by rw [ee2]<;>rfl))
def div(a:Int)(b:Int):Int:=
 (bif (b==0) then 0 else (bif (((a.tmod b) != 0)&&(!((decide (a<0))==(decide (b<0))))) then (IntKind.i64.wrap ((IntKind.i64.wrap (a.tdiv b)) - 1)) else (IntKind.i64.wrap (a.tdiv b))))
theorem div_c(a:Int)(b:Int):FCall Tryz.prog 279 [vI a,vI b] (.v (vI (div a b))):=by
 have ee0:=div.eq_1 a b
 refine ul Tryz.func279 rfl (fun B hB=>?_)
 refine u0 (u0 ?_)
 refine ud ee0 (fun hh1 ee1=>?_) (fun hh1 ee2=>?_)
 ·refine u0 ?_
  exact run_ret (ut _ (by rw [ee1]<;>rfl))
 ·refine uq [] [uo (b≠0)] ?_
  refine uq [] [uo (b≠0)] ?_
  refine ud ee2 (fun hh2 ee3=>?_) (fun hh2 ee4=>?_)
  ·refine u0 (u0 ?_)
   exact run_ret (ut _ (by rw [ee3]<;>rfl))
  ·refine u0 ?_
   exact run_ret (ut _ (by rw [ee4]<;>rfl))
def Clamp(n:Int):Int:=
 (imin (imax n 1) 10000)
theorem Clamp_c(n:Int):FCall Tryz.prog 135 [vI n] (.v (vI (Clamp n))):=by
 have ee0:=Clamp.eq_1 n
 refine ul Tryz.func135 rfl (fun B hB=>?_)
 refine u0 (u0 ?_)
 exact run_ret (ut _ (by rw [ee0]<;>rfl))
def abs(n:Int):Int:=
 (IntKind.u64.wrap (imax n (IntKind.i64.wrap (0 - n))))
theorem abs_c(n:Int):FCall Tryz.prog 330 [vI n] (.v (.c (.int .u64 (abs n)))):=by
 have ee0:=abs.eq_1 n
 refine ul Tryz.func330 rfl (fun B hB=>?_)
 refine u0 (u0 ?_)
 exact run_ret (ut _ (by rw [ee0]<;>rfl))
def mul64(x:Int)(y:Int):Int×Int:=
 ((IntKind.u64.wrap ((IntKind.u64.wrap ((IntKind.u64.wrap ((x.fdiv (2 ^ 32))*(y.fdiv (2 ^ 32))))+((IntKind.u64.wrap ((IntKind.u64.wrap ((x.fdiv (2 ^ 32))*(andI .u64 y 4294967295)))+((IntKind.u64.wrap ((andI .u64 x 4294967295)*(andI .u64 y 4294967295))).fdiv (2 ^ 32)))).fdiv (2 ^ 32))))+((IntKind.u64.wrap ((andI .u64 (IntKind.u64.wrap ((IntKind.u64.wrap ((x.fdiv (2 ^ 32))*(andI .u64 y 4294967295)))+((IntKind.u64.wrap ((andI .u64 x 4294967295)*(andI .u64 y 4294967295))).fdiv (2 ^ 32)))) 4294967295)+(IntKind.u64.wrap ((andI .u64 x 4294967295)*(y.fdiv (2 ^ 32)))))).fdiv (2 ^ 32)))),(IntKind.u64.wrap (x*y)))
theorem mul64_c(x:Int)(y:Int):FCall Tryz.prog 329 [.c (.int .u64 x),.c (.int .u64 y)] (.tup [.c (.int .u64 ((mul64 x y).1)),.c (.int .u64 ((mul64 x y).2))]):=by
 have ee0:=mul64.eq_1 x y
 refine ul Tryz.func329 rfl (fun B hB=>?_)
 refine u0 (u0 ?_)
 refine uq [] [@pu (0≤(32 :Int)∧32≤(IntKind.u64.bits:Int)) (by decide)] ?_
 refine u0 ?_
 refine uq [] [@pu (0≤(32 :Int)∧32≤(IntKind.u64.bits:Int)) (by decide)] ?_
 refine u0 ?_
 refine uq [] [@pu (0≤(32 :Int)∧32≤(IntKind.u64.bits:Int)) (by decide)] ?_
 refine u0 ?_
 refine uq [] [@pu (0≤(32 :Int)∧32≤(IntKind.u64.bits:Int)) (by decide)] ?_
 refine u0 ?_
 refine uq [] [@pu (0≤(32 :Int)∧32≤(IntKind.u64.bits:Int)) (by decide)] ?_
 refine u0 ?_
 exact run_ret (ut _ (by rw [ee0]<;>rfl))
def mul(a:Int)(b:Int):Int:=
 (bif ((decide (((mul64 (abs a) (abs b)).1)>0))||(decide (((mul64 (abs a) (abs b)).2)>1000000000000))) then 1000000000001 else (IntKind.i64.wrap (a*b)))
theorem mul_c(a:Int)(b:Int):FCall Tryz.prog 278 [vI a,vI b] (.v (vI (mul a b))):=by
 have ee0:=mul.eq_1 a b
 refine ul Tryz.func278 rfl (fun B hB=>?_)
 refine u0 ?_
 have cc1:=abs_c a
 have cc2:=abs_c b
 have cc3:=mul64_c (abs a) (abs b)
 refine uq [(1,hcon cc1),(3,hcon cc2),(4,hcon cc3)] [pu cc1,pu cc2,pu cc3] ?_
 refine u0 ?_
 refine ud ee0 (fun hh1 ee1=>?_) (fun hh1 ee2=>?_)
 ·refine u0 ?_
  exact run_ret (ut _ (by rw [ee1]<;>rfl))
 ·refine u0 ?_
  exact run_ret (ut _ (by rw [ee2]<;>rfl))
def apply_(op:Int)(v:List Int):Int:=
 (bif (op==3) then (IntKind.i64.wrap ((v.getD 0 0)+(v.getD 1 0))) else (bif (op==4) then (IntKind.i64.wrap ((v.getD 0 0) - (v.getD 1 0))) else (bif (op==5) then (mul (v.getD 0 0) (v.getD 1 0)) else (bif (op==6) then (div (v.getD 0 0) (v.getD 1 0)) else (bif (op==7) then (imin (v.getD 0 0) (v.getD 1 0)) else (bif (op==8) then (imax (v.getD 0 0) (v.getD 1 0)) else (bif (op==10) then (number (decide ((v.getD 0 0)<(v.getD 1 0)))) else (bif (op==11) then (number ((v.getD 0 0)==(v.getD 1 0))) else (bif (op==9) then (bif (decide ((v.getD 0 0)>0)) then v.getD 1 0 else v.getD 2 0) else (IntKind.i64.wrap (0 - v.getD 0 0)))))))))))
theorem apply__c(op:Int)(v:List Int)(h1:1≤v.length)(h2:(3≤op∧op≤8∨op=10∨op=11)→2≤v.length)(h3:op=9→3≤v.length):FCall Tryz.prog 223 [vI op,.c (.lst 1 v.length (elM Sym.encI 0 v))] (.v (vI (apply_ op v))):=by
 have ee0:=apply_.eq_1 op v
 refine ul Tryz.func223 rfl (fun B hB=>?_)
 refine u0 (u0 ?_)
 refine rBlock ?_
 refine u0 ?_
 refine ud ee0 (fun hh1 ee1=>?_) (fun hh1 ee2=>?_)
 ·refine uq [] [ub 0 v.length,ub 1 v.length] ?_
  exact run_ret (blockR_ret (ut _ (by rw [ee1]<;>rfl)))
 ·refine u0 ?_
  refine ud ee2 (fun hh2 ee3=>?_) (fun hh2 ee4=>?_)
  ·refine uq [] [ub 0 v.length,ub 1 v.length] ?_
   exact run_ret (blockR_ret (ut _ (by rw [ee3]<;>rfl)))
  ·refine u0 ?_
   refine ud ee4 (fun hh3 ee5=>?_) (fun hh3 ee6=>?_)
   ·have cc1:=mul_c (v.getD 0 0) (v.getD 1 0)
    refine uq [(6,hcon cc1)] [ub 0 v.length,ub 1 v.length,pu cc1] ?_
    exact run_ret (blockR_ret (ut _ (by rw [ee5]<;>rfl)))
   ·refine u0 ?_
    refine ud ee6 (fun hh4 ee7=>?_) (fun hh4 ee8=>?_)
    ·have cc2:=div_c (v.getD 0 0) (v.getD 1 0)
     refine uq [(6,hcon cc2)] [ub 0 v.length,ub 1 v.length,pu cc2] ?_
     exact run_ret (blockR_ret (ut _ (by rw [ee7]<;>rfl)))
    ·refine u0 ?_
     refine ud ee8 (fun hh5 ee9=>?_) (fun hh5 ee10=>?_)
     ·refine uq [] [ub 0 v.length,ub 1 v.length] ?_
      exact run_ret (blockR_ret (ut _ (by rw [ee9]<;>rfl)))
     ·refine u0 ?_
      refine ud ee10 (fun hh6 ee11=>?_) (fun hh6 ee12=>?_)
      ·refine uq [] [ub 0 v.length,ub 1 v.length] ?_
       exact run_ret (blockR_ret (ut _ (by rw [ee11]<;>rfl)))
      ·refine u0 ?_
       refine ud ee12 (fun hh7 ee13=>?_) (fun hh7 ee14=>?_)
       ·have cc3:=number_c (decide ((v.getD 0 0)<(v.getD 1 0)))
        refine uq [(7,hcon cc3)] [ub 0 v.length,ub 1 v.length,pu cc3] ?_
        exact run_ret (blockR_ret (ut _ (by rw [ee13]<;>rfl)))
       ·refine u0 ?_
        refine ud ee14 (fun hh8 ee15=>?_) (fun hh8 ee16=>?_)
        ·have cc4:=number_c ((v.getD 0 0)==(v.getD 1 0))
         refine uq [(7,hcon cc4)] [ub 0 v.length,ub 1 v.length,pu cc4] ?_
         exact run_ret (blockR_ret (ut _ (by rw [ee15]<;>rfl)))
        ·refine u0 ?_
         refine ud ee16 (fun hh9 ee17=>?_) (fun hh9 ee20=>?_)
         ·refine uq [] [ub 0 v.length] ?_
          refine ud ee17 (fun hh10 ee18=>?_) (fun hh10 ee19=>?_)
          ·refine uq [] [ub 1 v.length] ?_
           exact run_ret (blockR_ret (ut _ (by rw [ee18]<;>rfl)))
          ·refine uq [] [ub 2 v.length] ?_
           exact run_ret (blockR_ret (ut _ (by rw [ee19]<;>rfl)))
         ·refine run_nil (blockR_normal ?_)
          refine uq [] [ub 0 v.length] ?_
          exact run_ret (ut _ (by rw [ee20]<;>rfl))
end Go.Proofs.YtidbmbpeblmliaaGreatDoor.Mer
namespace Go.Sym
open Go.RowKit
variable {P:Program} {B:Base P} {E:Env} {w:World}
def WpL(P:Program):List Code→(Exit→Act→World→Prop)→Act→World→Prop
 | [],Φ=>fun a w=>Φ .normal a w
 | c :: cs,Φ=>c.wpIn (FB none) 0 P fun e a w=>match e with
  | .normal=>WpL P cs Φ a w
  | e=>Φ e a w
theorem wpL_flat:∀ {c:Code} {cs:List Code} {Φ:Exit→Act→World→Prop} {a:Act} {w:World},WpL P (flatC c cs) Φ a w→WpL P (c :: cs) Φ a w:=by
 intro c
 induction c with
 | seq x y ihx ihy =>
  intro cs Φ a w h
  have mono:∀ {l l':List Code},(∀ a w,WpL P l Φ a w→WpL P l' Φ a w)→∀ {c:Code} {a w},WpL P (c :: l) Φ a w→WpL P (c :: l') Φ a w:=fun {l l'} hl {c a w} hw=>wpIn_mono hw fun e a w hq=>by
   cases e<;>first
    | exact hl _ _ hq
    | exact hq
  have h1:WpL P (x :: y :: cs) Φ a w:=mono (fun a w h=>ihy h) (ihx h)
  exact wpIn_seq (wpIn_mono h1 fun e a w hq=>by
   cases e<;>first
    | exact hq
    | exact hq)
 | skip=>intro cs Φ a w h;exact wpIn_skip h
 | label l=>intro cs Φ a w h;exact wpIn_label h
 | _=>intro cs Φ a w h;exact h
theorem wpL_of_run{Φ:Exit→Act→World→Prop}{Q:Exit→S→Prop}(hr:B.r=none)(hΦ:∀ e s' E' a' w',Q e s'→Sim B E' s' a' w'→Φ e a' w'):∀ {cs:List Code} {s:S} {E:Env} {a:Act} {w:World},Run P B s cs Q→Sim B E s a w→WpL P cs Φ a w
 | [],s,E,a,w,h,hs=>hΦ _ _ _ _ _ h hs
 | c :: cs,s,E,a,w,h,hs=>by
  have h1:=h E a w hs
  rw [hr] at h1
  refine wpIn_mono h1 ?_
  rintro e a' w' ⟨E',s',hq,hs'⟩
  cases e<;>first
   | exact wpL_of_run hr hΦ (cs:=cs) hq hs'
   | exact hΦ _ _ _ _ _ hq hs'
theorem wpL_append{cs':List Code}{Φ:Exit→Act→World→Prop}:∀ {cs:List Code} {a:Act} {w:World},WpL P cs (fun e a w=>match e with
  | .normal=>WpL P cs' Φ a w
  | e=>Φ e a w) a w→WpL P (cs++cs') Φ a w
 | [],_,_,h=>h
 | c :: cs,_,_,h=>wpIn_mono h fun e a w hq=>by
  cases e<;>first
   | exact wpL_append (cs:=cs) hq
   | exact hq
theorem wpL_part{Φ:Exit→Act→World→Prop}{Q:Exit→S→Prop}{cs cs':List Code}{s:S}{a:Act}(hr:B.r=none)(h:Run P B s cs Q)(hs:Sim B E s a w)(hn:∀ s' E' a' w',Q .normal s'→Sim B E' s' a' w'→WpL P cs' Φ a' w') 
  (hΦ:∀ e s' E' a' w',e≠.normal→Q e s'→Sim B E' s' a' w'→Φ e a' w'):WpL P (cs++cs') Φ a w:=by
 refine wpL_append (wpL_of_run hr ?_ h hs)
 intro e s' E' a' w' hq hs'
 cases e<;>first
  | exact hn _ _ _ _ hq hs'
  | exact hΦ _ _ _ _ _ (by simp) hq hs'
theorem wpL_cond{c:Operand}{x y:Code}{cs:List Code}{Φ:Exit→Act→World→Prop}{a:Act}(b:Bool)(hb:a.eval c=.bool b)(ht:b=true→WpL P (x :: cs) Φ a w)(hf:b=false→WpL P (y :: cs) Φ a w):WpL P (.cond c x y :: cs) Φ a w:=
 wpIn_cond_split hb ht hf
theorem evalText_cont{ops:Array Oper}{hs:List (Nat×Hint)}{tail:List Nat}{Q:Exit→Act→World→Prop}(hF:elderAny hs=true→∀ b,¬ B.W b):∀ (is:List Nat) {E:Env} {s s':S} {q:List Ask} {a:Act} {w:World},evalText P ops hs is s=some (s',q)→allA q→is.Nodup →
  (∀ i,i∈is→s.g[i]?=some none)→Distinct ops s.t.length→RSim B E ops s a w→(∀ a' w' E',RSim B E' ops s' a' w'→wpOpsIn (FB B.r) 0 P ops Q tail a' w')→wpOpsIn (FB B.r) 0 P ops Q (is++tail) a w:=by
 intro is
 induction is with
 | nil =>
  intro E s s' q a w he _ _ _ _ hr hQ
  simp only [evalText] at he
  cases he
  exact hQ a w E hr
 | cons i is ih =>
  intro E s s' q a w he hq hnd hfr hd hr hQ
  simp only [evalText] at he
  have hnd':=List.nodup_cons.1 hnd
  rw [List.cons_append,wpOpsIn_cons]
  split at he
  ·rename_i s1 q1 hst
   split at he
   ·rename_i s2 q2 hev
    cases he
    obtain ⟨hqa,hqb⟩:=allA_append.1 hq
    obtain ⟨ht,hg⟩:=stepYield_t hst
    refine stepYield_sound hst hqa hr hd (hfr i List.mem_cons_self) ?_
    intro a' w' E' hr'
    refine ih hev hqb hnd'.2 (fun j hj=>?_) (by rw [ht];exact hd) hr' hQ
    rw [hg j (fun e=>hnd'.1 (by rw [e];exact hj))]
    exact hfr j (List.mem_cons_of_mem _ hj)
   ·cases he
  ·split at he
   ·rename_i s1 q1 hst
    split at he
    ·rename_i s2 q2 hev
     cases he
     obtain ⟨hqa,hqb⟩:=allA_append.1 hq
     obtain ⟨ht,hg⟩:=stepOwn_t hst
     refine stepOwn_sound hst hqa hr hd (hfr i List.mem_cons_self) ?_
     intro a' w' E' hr'
     refine ih hev hqb hnd'.2 (fun j hj=>?_) (by rw [ht];exact hd) hr' hQ
     rw [hg j (fun e=>hnd'.1 (by rw [e];exact hj))]
     exact hfr j (List.mem_cons_of_mem _ hj)
    ·cases he
   ·split at he
    ·cases he
    ·rename_i s1 q1 ns1 hst
     split at he
     ·cases he
     ·rename_i s2 q2 hev
      cases he
      obtain ⟨hqa,hqb⟩:=allA_append.1 hq
      refine step_sound (fun h=>hF (hintAt_elder h)) hst hqa hr hd (hfr i List.mem_cons_self) ?_
      intro a' w' E' hr'
      refine ih hev hqb hnd'.2 (fun j hj=>?_) (by rw [stepOp_t hst];exact hd) hr' hQ
      rw [stepOp_g hst (fun e=>hnd'.1 (by rw [e];exact hj))]
      exact hfr j (List.mem_cons_of_mem _ hj)
def beforeLast(P:Program)(ops:Array Oper)(s:S):Option (S×List Ask):=
 match noMay s.t,dstOk s.t.length ops.toList [] with
 | true,true=>match evalText P ops [] (List.range (ops.size - 1)) (s.start ops.size) with
  | some (s',q)=>some (s'.done,q)
  | none=>none
 | _,_=>none
def deferOf(ops:Array Oper):Option (Operand×Array Operand):=
 match ops[ops.size - 1]? with
 | some o=>match o.op,o.guard,o.dst with
  | .defer c,none,none=>match c.callee with
   | .value f=>some (f,c.args)
   | _=>none
  | _,_,_=>none
 | none=>none
theorem wpL_defer{id:Nat}{ops:Array Oper}{s s1:S}{q:List Ask}{a:Act}{cs:List Code}{Φ:Exit→Act→World→Prop}{f:Operand}{args:Array Operand}(hr:B.r=none)(he:beforeLast P ops s=some (s1,q))(hq:allA q)(hd:deferOf ops=some (f,args))(hs:Sim B E s a w) 
  (h:∀ E' a' w',Sim B E' s1 a' w'→∃ fn fi ca,a'.eval f=.func fn fi ca∧WpL P cs Φ { a' with defers:={ target:=.fn fn ca,args:=fi++args.map a'.eval } :: a'.defers } w'):WpL P (.region id ops false :: cs) Φ a w:=by
 unfold beforeLast at he
 split at he
 case h_2=>cases he
 rename_i hnm hdst
 split at he
 case h_2=>cases he
 rename_i s0 q0 hev
 cases he
 unfold deferOf at hd
 split at hd
 case h_2=>cases hd
 rename_i o ho
 split at hd
 case h_2=>cases hd
 rename_i c hop hg hds
 split at hd
 case h_2=>cases hd
 rename_i f' hcal
 cases hd
 have hlt:ops.size - 1<ops.size:=(Array.getElem?_eq_some_iff.1 ho).1
 have hsp:List.range ops.size=List.range (ops.size - 1)++[ops.size - 1]:=by
  rw [← List.range_succ,Nat.succ_eq_add_one,Nat.sub_add_cancel (by omega)]
 refine wpIn_region ?_
 rw [hsp]
 have hk:=evalText_cont (P:=P) (B:=B) (ops:=ops) (hs:=[]) (tail:=[ops.size - 1]) (Q:=fun e a w=>match e with
  | .normal=>WpL P cs Φ a w
  | e=>Φ e a w) (fun h=>by cases h) (List.range (ops.size - 1)) hev hq List.nodup_range (fun i hi=>by
   have:i<ops.size - 1:=by simpa using hi
   have h2:i<ops.size:=by omega
   simp [S.start,h2]) (distinct_of hdst) (rsim_start hs hnm _) ?_
 ·rw [hr] at hk;exact hk
 ·intro a' w' E' hr'
  obtain ⟨fn,fi,ca,hf,hw⟩:=h E' a' w' (sim_done hr')
  rw [wpOpsIn_cons]
  unfold wpOpIn
  simp only [ho]
  have hgp:guardPath ops s0 o=some []:=by unfold guardPath;rw [hg]
  obtain ⟨hwn,_⟩:=wanted_iff hr' hgp
  rw [hwn]
  simp only [holds,if_true]
  refine ⟨fun _ _=>trivial,?_⟩
  rw [show (FB B.r).round=none from hr,Oper.semAt_none]
  have hrun:(execOp a'.eval o).run P w'=.ok (.defer { target:=.fn fn ca,args:=fi++c.args.map a'.eval }) w':=by
   simp only [execOp,hop,resolve,hcal,hf,Deferred.ofValue,Sem.run_bind,Sem.run_pure,Result.andThen_ok]
  rw [hrun,Oper.uponIn_defer,hds]
  exact hw
def FOwnD(P:Program)(f:FuncId)(hid:List Nat)(args:List CV)(m0:List (Nat×MO))(r:SB)(m1:List (Nat×MO)):Prop:=
 (∃ fn,P.funcs[f]?=some fn∧fn.body.isSome=true∧(fn.name== "runtime.NumGoroutine")=false) ∧
 ∀ (E:Env) (w:World) (vs:Array Value) (u:FrameMode),Laid P E.K→Knows E.K w→OwnAt E m0 w→vs.size=args.length→(∀ j,j<args.length→RelCV E (args.getD j (.c .junk)) (vs.getD j undef)) →
  CallsDIn (FB none) 0 P f vs u w fun e u' w'=>u'=u∧∃ K' rw' v,e=.returned v∧OwnOut hid E m1 w K' rw' w'∧RelSB (E.upd K' rw') r v
def afterOwn(s:S)(hid:List Nat)(m1:List (Nat×MO)):S:={ t:=s.t.map (dropSV hid),m:=putN s.m m1,g:=[] }
theorem sim_owned{s:S}{a:Act}{hid:List Nat}{m0 m1:List (Nat×MO)}{args:List CV}{r:SB}{K':Know}{rw':Nat→Option (Value×Nat)}{w':World}{ns:List Nat}(hs:Sim B E s a w)(hg:s.g=[])(hnm:noMay s.t=true)(hm0:takeM s.m ns=some m0)(hck:ownCk hid m0 m1 args r s=true) 
  (hout:OwnOut hid (E.via (fun n=>n) (m0.map (·.1))) m1 w K' rw' w'):Sim B (E.after (fun n=>n) hid K' rw') (afterOwn s hid m1) a w':=by
 simp only [ownCk,Bool.and_eq_true] at hck
 obtain ⟨⟨⟨⟨⟨⟨⟨⟨k1,k2⟩,k3⟩,k4⟩,k5⟩,k6⟩,k7⟩,k9⟩,k10⟩:=hck
 obtain ⟨n1,n2⟩:=takeM_spec hm0
 have hc:=hs.core
 have hok:OwnOk hid m0 m1 (fun n=>n) s.m:=⟨k1,by rw [map_id_hid];exact k2,k3,k4,k5,k6,by rw [map_id_hid,map_id_hid];exact k7⟩
 have hm:∀ n o,(n,o)∈m0→s.m[(fun n=>n) n]?=some (some (o.ren fun n=>n)):=fun n o h=>by rw [MO.ren_id];exact n2 n o h
 have hcore:=hc.owned hok hm hout
 rw [putL_id] at hcore
 refine ⟨hcore,by simp only [afterOwn,List.length_map];exact hs.size,hs.defers,fun k x hk=>?_⟩
 simp only [afterOwn,List.getElem?_map,Option.map_eq_some_iff] at hk
 obtain ⟨y,hy,h⟩:=hk
 rcases dropSV_eq (hs:=hid) (x:=y) with h2 | ⟨h2,h3⟩
 ·rw [h2] at h;rw [← h];trivial
 ·rw [h2] at h
  subst h
  have hold:=hs.slot k y hy
  rw [hg] at hold
  exact free_relSV (E:=E) hout.le (by rw [map_id_hid];exact h3) hold
theorem own_view{s:S}{a:Act}{hid:List Nat}{m0 m1:List (Nat×MO)}{args:List CV}{r:SB}{ns:List Nat}{vs:Array Value}(hs:Sim B E s a w)(hm0:takeM s.m ns=some m0)(hck:ownCk hid m0 m1 args r s=true) 
  (hrel:∀ j,j<args.length→RelCV E (args.getD j (.c .junk)) (vs.getD j undef)):OwnAt (E.via (fun n=>n) (m0.map (·.1))) m0 w∧∀ j,j<args.length→RelCV (E.via (fun n=>n) (m0.map (·.1))) (args.getD j (.c .junk)) (vs.getD j undef):=by
 simp only [ownCk,Bool.and_eq_true] at hck
 obtain ⟨⟨⟨⟨⟨⟨⟨⟨k1,k2⟩,k3⟩,k4⟩,k5⟩,k6⟩,k7⟩,k9⟩,k10⟩:=hck
 obtain ⟨n1,n2⟩:=takeM_spec hm0
 have hok:OwnOk hid m0 m1 (fun n=>n) s.m:=⟨k1,by rw [map_id_hid];exact k2,k3,k4,k5,k6,by rw [map_id_hid,map_id_hid];exact k7⟩
 refine ⟨hs.core.ownAt hok (fun n o h=>by rw [MO.ren_id];exact n2 n o h),fun j hj=>?_⟩
 exact via_relCV ((List.all_eq_true.1 k9) _ (by simp only [gE,List.getElem?_eq_getElem hj,Option.getD_some];exact List.getElem_mem hj)) (by rw [CV.ren_id];exact hrel j hj)
theorem leave_defer{fn:Func}{tmps:Array Value}{R:Ending→World→Prop}{s:S}{a:Act}{f:FuncId}{hid:List Nat}{m0 m1:List (Nat×MO)}{args:List CV}{r:SB}{ns:List Nat}{fi ca:Array Value}(hs:Sim B E s a w)(hg:s.g=[])(hnm:noMay s.t=true)(hm0:takeM s.m ns=some m0) 
  (hck:ownCk hid m0 m1 args r s=true) (hcon:FOwnD P f hid args m0 r m1) (hsz:(fi++ca).size=args.length) (hrel:∀ j,j<args.length→RelCV E (args.getD j (.c .junk)) ((fi++ca).getD j undef))
  (h:∀ E' w',Sim B E' (afterOwn s hid m1) a w'→E'.c=E.c→LeavesInM (FB none) 0 P fn tmps R [] .returning w'):LeavesInM (FB none) 0 P fn tmps R [{ target:=.fn (.func f) ca,args:=fi }] .returning w:=by
 obtain ⟨hat,hv⟩:=own_view hs hm0 hck hrel
 obtain ⟨⟨fnc,hfn',hbody,hname⟩,hcall⟩:=hcon
 have hb:fnc.body.isNone=false:=by cases hfb:fnc.body<;>simp [hfb] at hbody ⊢
 have hinv:(invoke (.fn (.func f) ca) fi).run P w=.ok (.enter f (fi++ca)) w:=by
  simp only [invoke,callFunc,Sem.run_bind,Sem.run_pure,Result.andThen_ok,run_program,hfn',hname,hb,Bool.false_eq_true,if_false]
 refine ⟨by simp,Or.inr ⟨fun h=>by simp [FB] at h,Fn.func f,ca,f,fi++ca,rfl,hinv,fun _ _=>trivial,?_⟩⟩
 refine (hcall (E.via (fun n=>n) (m0.map (·.1))) w _ .returning hs.core.laid hs.core.know hat hsz hv).mono ?_
 rintro e u' w' ⟨rfl,K',rw',v,rfl,hout,hv'⟩
 exact h _ w' (sim_owned hs hg hnm hm0 hck hout) rfl
end Go.Sym
namespace Go.Sym
open Go.RowKit
variable {P:Program} {B:Base P} {E:Env} {w:World}
theorem Core.no_ds{m:List (Option MO)}(hc:Core B E m w)(h:B.fn=false):E.c.ds=[]:=by
 cases hd:E.c.ds with
 | nil=>rfl
 | cons D ds =>
  have:=(hc.dsk D (by rw [hd];simp)).2.2
  rw [h] at this;cases this
def CallR(K:Know)(w:World)(r:SB)(e:Ending)(w':World):Prop:=∃ K' v,K.le K'∧(∀ b,b<w.heap.size→K b=none→K' b=none)∧Knows K' w'∧Below w.heap.size w w'∧e=.returned v∧RelSBK K' r v
structure CallCtx (P:Program) (B:Base P) (K:Know) (w:World):Prop where
 r:B.r=none
 fn:B.fn=false
 W:∀ b,¬ B.W b
 J:∀ i K0 w0,B.J i K0 w0→K0=K∧w0=w
 N:w.heap.size≤B.N
 know:Knows K w
theorem call_done{fn:Func}{r:SB}{K:Know}{w0:World}{s:S}{a:Act}(hx:CallCtx P B K w0)(hs:Sim B E s a w)(hres:resOf P s fn.results.toList=some r):LeavesInM (FB none) 0 P fn a.tmps (CallR K w0 r) [] .returning w:=by
 have hj:=hx.J _ _ _ hs.core.j
 have:=call_leave (fn:=fn) hx.know hs hj.1 hj.2 hx.N hx.W hres
 rw [hs.core.no_ds hx.fn] at this
 exact this
theorem fcall_raw{f:FuncId}{fn:Func}{c:Code}{args:List CV}{r:SB}(hf:P.funcs[f]?=some fn)(hb:fn.body=some c)(hname:(fn.name== "runtime.NumGoroutine")=false) 
  (ht:∀ (K:Know) (w:World) (B:Base P) (E:Env) (a:Act),CallCtx P B K w→B.tl=[]→Sim B E (initS fn.ntmps args) a w→WpL P (flatC c []) (bodyPostM (FB none) 0 P fn (CallR K w r)) a w):FCall P f args r:=by
 refine ⟨⟨fn,hf,by rw [hb];rfl,hname⟩,?_⟩
 intro K w vs hKl hK hsz hrel
 have hsim:Sim { funBase P K w with fn:=false,fnN:=fun _ _ _ w' h=>by rw [h.2];exact Nat.le_refl _ } { K:=K,cel:=fun _=>none,rw:=fun _=>none,mp:=fun _=>none,c:={ w0:=w,K0:=K,ds:=[],l:=0,i:=0,xs:=[],k:=0,fix:=fun _=>undef } } (initS fn.ntmps args)
   {tmps:=vs++Array.replicate (fn.ntmps - vs.size) undef,defers:=[] } w:=by
  refine ⟨?_,?_,rfl,fun k x hk=>?_⟩
  ·exact
   {know:=hK
    laid:=hKl
    base:=Know.le_refl _
    nk:=fun _ _ h=>h
    mem:=fun n o h=>(replicate_none h).elim
    cel:=fun n b h=>by cases h
    rw:=fun n x h=>by cases h
    mp:=fun n b h=>by cases h
    inj:=fun n n' b h=>by rcases h with h | h | ⟨_,_,h,_⟩<;>cases h
    apart:=fun n b h=>by rcases h with h | h | ⟨_,_,h,_⟩<;>cases h
    new:=fun n b h=>by rcases h with h | h | ⟨_,_,h,_⟩<;>cases h
    lt:=fun n b h=>by rcases h with h | h | ⟨_,_,h,_⟩<;>cases h
    os:=rfl
    tape:=rfl
    output:=rfl
    size:=Nat.le_refl _
    old:=fun _ _ _=>rfl
    j:=⟨rfl,rfl⟩
    y:=⟨rfl,rfl,rfl,rfl⟩
    dsk:=fun D hD=>by simp at hD
    dsn:=List.nodup_nil }
  ·simp [initS,hsz]
  ·rcases initS_get hk with rfl | ⟨hlt,rfl⟩
   ·trivial
   ·have e:(vs++Array.replicate (fn.ntmps - vs.size) undef).getD k undef=vs.getD k undef:=by
     have:k<vs.size:=by omega
     simp [Array.getElem?_append,this]
    show RelCV _ _ ((vs++Array.replicate (fn.ntmps - vs.size) undef).getD k undef)
    rw [e]
    exact RelCVK.rel (E:={ K:=K,cel:=fun _=>none,rw:=fun _=>none,mp:=fun _=>none,c:=_ }) (hrel k hlt)
 have hw:=wpL_flat (ht K w _ _ _ ⟨rfl,rfl,fun _ h=>h,fun _ _ _ h=>h,Nat.le_refl _,hK⟩ rfl hsim)
 refine (callsIn_wide (n:=0)).1 (callsIn_of_wp_marks hf hb trivial ?_ rfl)
 exact wpIn_mono hw fun e a w hq=>by cases e<;>exact hq
def OwnR(hid:List Nat)(E:Env)(m1:List (Nat×MO))(w:World)(r:SB)(e:Ending)(w':World):Prop:=∃ K' rw' v,e=.returned v∧OwnOut hid E m1 w K' rw' w'∧RelSB (E.upd K' rw') r v
structure OwnCtx (P:Program) (B:Base P) (E:Env) (w:World) (vs:Array Value) (hid:List Nat) (args:List CV) (m0:List (Nat×MO)) (r:SB) (m1:List (Nat×MO)):Prop where
 nr:B.r=none
 fn:B.fn=false
 W:∀ b,B.W b→∃ n,E.holds n b
 J:∀ i K0 w0,B.J i K0 w0→K0=E.K∧w0=w
 N:w.heap.size≤B.N
 fix:B.fix=fun j=>vs.getD j undef
 know:Knows E.K w
 at':OwnAt E m0 w
 rel:∀ j,j<args.length→RelCV E (args.getD j (.c .junk)) (vs.getD j undef)
 ok:RenOk hid args m0 r m1 (fun n=>n)
 rowk:∀ n o,hasN hid n=true→(n,o)∈m0→o.kind=1
theorem own_done{fn:Func}{r:SB}{E0:Env}{w0:World}{vs:Array Value}{hid:List Nat}{args:List CV}{m0 m1:List (Nat×MO)}{e:Exit}{s:S}{a:Act}(hx:OwnCtx P B E0 w0 vs hid args m0 r m1)(hs:Sim B E s a w)(hend:OwnEnds P fn.results.toList args m0 hid r m1 e s):
  LeavesInM (FB none) 0 P fn a.tmps (OwnR hid E0 m1 w0 r) [] .returning w:=by
 have hj:=hx.J _ _ _ hs.core.j
 have hfix:E.c.fix=fun j=>vs.getD j undef:=hs.core.y.2.2.2.trans hx.fix
 have:=own_leave (fn:=fn) hx.know hx.at' hx.rel hx.ok hx.rowk hs hj.1 hj.2 hx.N hx.W (fun k _=>by rw [hfix]) hend
 rw [hs.core.no_ds hx.fn] at this
 exact this
theorem fown_raw{f:FuncId}{fn:Func}{c:Code}{hid:List Nat}{args:List CV}{m0 m1:List (Nat×MO)}{r:SB}(M:Nat)(hf:P.funcs[f]?=some fn)(hb:fn.body=some c)(hname:(fn.name== "runtime.NumGoroutine")=false) 
  (hok:RenOk hid args m0 r m1 (fun n=>n)) (hrowk:∀ n o,hasN hid n=true→(n,o)∈m0→o.kind=1) (hM:(m0.map (·.1)).all (fun n=>Nat.blt n M)=true)
  (ht:∀ (E0:Env) (w:World) (vs:Array Value) (B:Base P) (E:Env) (a:Act),OwnCtx P B E0 w vs hid args m0 r m1→B.tl=[]→Sim B E (ownS fn.ntmps args m0 M) a w→WpL P (flatC c []) (bodyPostM (FB none) 0 P fn (OwnR hid E0 m1 w r)) a w):FOwn P f hid args m0 r m1:=by
 refine ⟨⟨fn,hf,by rw [hb];rfl,hname⟩,fun E w vs hKl hK hat hsz hrel=>?_⟩
 have hsim:=own_start (P:=P) (vs:=vs) false fn.ntmps M hKl hK hat hsz hrel hok hM
 have hw:=wpL_flat (ht E w vs { ownBase P E w vs with fn:=false,fnN:=fun _ _ _ w' h=>by rw [h.2];exact Nat.le_refl _ } _ _ { nr:=rfl,fn:=rfl,W:=fun _ h=>h,J:=fun _ _ _ h=>h,N:=Nat.le_refl _,fix:=rfl,know:=hK,at':=hat,rel:=hrel,ok:=hok,rowk:=hrowk } rfl hsim)
 refine (callsIn_wide (n:=0)).1 (callsIn_of_wp_marks hf hb trivial ?_ rfl)
 exact wpIn_mono hw fun e a w hq=>by cases e<;>exact hq
theorem fownD_of{f:FuncId}{fn:Func}{c:Code}{hid:List Nat}{args:List CV}{m0 m1:List (Nat×MO)}{r:SB}(M:Nat)(hf:P.funcs[f]?=some fn)(hb:fn.body=some c)(hname:(fn.name== "runtime.NumGoroutine")=false) 
  (hok:RenOk hid args m0 r m1 (fun n=>n)) (hrowk:∀ n o,hasN hid n=true→(n,o)∈m0→o.kind=1) (hM:(m0.map (·.1)).all (fun n=>Nat.blt n M)=true)
  (ht:∀ B:Base P,B.r=none→Run P B (ownS fn.ntmps args m0 M) (flatC c []) (OwnEnds P fn.results.toList args m0 hid r m1)):FOwnD P f hid args m0 r m1:=by
 refine ⟨⟨fn,hf,by rw [hb];rfl,hname⟩,fun E w vs u hKl hK hat hsz hrel=>?_⟩
 have hsim:=own_start (P:=P) (vs:=vs) false fn.ntmps M hKl hK hat hsz hrel hok hM
 refine callsDIn_of_wp hf hb trivial ?_ rfl
 refine wpIn_mono ((run_tri (run_flat (ht _ rfl))) _ _ _ hsim) ?_
 rintro e a' w' ⟨E',s',hends,hs'⟩
 have he:=hends.1
 have hx:OwnCtx P { ownBase P E w vs with fn:=false,fnN:=fun _ _ _ w' h=>by rw [h.2];exact Nat.le_refl _ } E w vs hid args m0 r m1:={ nr:=rfl,fn:=rfl,W:=fun _ h=>h,J:=fun _ _ _ h=>h,N:=Nat.le_refl _,fix:=rfl,know:=hK,at':=hat,rel:=hrel,ok:=hok,rowk:=hrowk }
 have hd:a'.defers=[]:=by rw [hs'.defers,hs'.core.no_ds rfl];rfl
 obtain ⟨v,h1,h2⟩:∃ v,(results fn a'.tmps).run P w'=.ok v w'∧OwnR hid E m1 w r (.returned v) w':=own_done hx hs' hends
 rcases he with rfl | rfl
 ·exact ⟨hd,v,h1,h2⟩
 ·exact ⟨hd,v,h1,h2⟩
end Go.Sym
namespace Go.Sym
open Go.RowKit
variable {P:Program} {B:Base P} {E:Env} {w:World}
theorem wpL_split(n:Nat){cs:List Code}{Φ:Exit→Act→World→Prop}{a:Act}(h:WpL P (List.take n cs++List.drop n cs) Φ a w):WpL P cs Φ a w:=by rwa [List.take_append_drop] at h
theorem wpL_deferN{id:Nat}{ops:Array Oper}{s:S}{a:Act}{cs:List Code}{Φ:Exit→Act→World→Prop}{f:Operand}{args:Array Operand}(hr:B.r=none)(hq:Asked (beforeLast P ops s))(hd:deferOf ops=some (f,args))(hs:Sim B E s a w) 
  (h:∀ E' a' w',Sim B E' (nextS (beforeLast P ops s)) a' w'→∃ fn fi ca,a'.eval f=.func fn fi ca∧WpL P cs Φ { a' with defers:={ target:=.fn fn ca,args:=fi++args.map a'.eval } :: a'.defers } w'):WpL P (.region id ops false :: cs) Φ a w:=by
 have hq:=hq.out
 cases he:beforeLast P ops s with
 | none=>rw [he] at hq;exact (hq.1 rfl).elim
 | some x =>
  obtain ⟨s1,q⟩:=x
  rw [he] at hq h
  exact wpL_defer hr he hq hd hs h
def Base.defer(B:Base P)(d:Deferred):Base P:={ B with tl:=d :: B.tl }
def Base.refix(B:Base P)(F:Nat→Value):Base P:={ B with fix:=F }
theorem Core.tl{m:List (Option MO)}(h:Core B E m w)(d:Deferred):Core (B.defer d) E m w:=
 {know:=h.know,laid:=h.laid,base:=h.base,nk:=h.nk,mem:=h.mem,cel:=h.cel,rw:=h.rw,mp:=h.mp,inj:=h.inj,apart:=h.apart,new:=h.new,lt:=h.lt,os:=h.os,tape:=h.tape,output:=h.output,size:=h.size,old:=h.old,j:=h.j,y:=h.y,dsk:=h.dsk,dsn:=h.dsn }
def Env.refix(E:Env)(F:Nat→Value):Env:={ E with c:={ E.c with fix:=F } }
theorem rel_refix{F:Nat→Value}{c:C}{u:Value}(h:Rel E c u):Rel (E.refix F) c u:=by cases c<;>exact h
theorem relL_refix{F:Nat→Value}{cs:List C}{arr:Array Value}(h:RelL E cs arr):RelL (E.refix F) cs arr:=⟨h.1,fun j hj=>⟨rel_refix (h.2 j hj).1,(h.2 j hj).2⟩⟩
theorem relCV_refix{F:Nat→Value}{x:CV}{u:Value}(h:RelCV E x u):RelCV (E.refix F) x u:=by
 cases x with
 | c x=>exact ⟨rel_refix h.1,h.2⟩
 | agg cs=>exact h
 | pagg cs=>obtain ⟨arr,hu,hl⟩:=h;exact ⟨arr,hu,relL_refix hl⟩
theorem relSB_refix{F:Nat→Value}{x:SB}{u:Value}(h:RelSB E x u):RelSB (E.refix F) x u:=by
 cases x with
 | v x=>exact relCV_refix (x:=x) h
 | tup xs=>obtain ⟨vs,hu,hs,hl⟩:=h;exact ⟨vs,hu,hs,fun j hj=>relCV_refix (hl j hj)⟩
theorem mrel_refix{F:Nat→Value}{n:Nat}{o:MO}(h:MRel E w n o):MRel (E.refix F) w n o:=by
 cases o with
 | pcells cs=>obtain ⟨b,arr,T,h1,h2,h3⟩:=h;exact ⟨b,arr,T,h1,h2,relL_refix h3⟩
 | tcells T cs=>obtain ⟨b,arr,h1,h2,h0,h3⟩:=h;exact ⟨b,arr,h1,h2,h0,relL_refix h3⟩
 | _=>exact h
theorem Core.fix{m:List (Option MO)}(h:Core B E m w)(F:Nat→Value):Core (B.refix F) (E.refix F) m w:=
 {know:=h.know,laid:=h.laid,base:=h.base,nk:=h.nk,mem:=fun n o hn=>mrel_refix (h.mem n o hn),cel:=h.cel,rw:=h.rw,mp:=h.mp,inj:=h.inj,apart:=h.apart,new:=h.new,lt:=h.lt,os:=h.os,tape:=h.tape,output:=h.output,size:=h.size,old:=h.old,j:=h.j,y:=⟨h.y.1,h.y.2.1,h.y.2.2.1,rfl⟩,dsk:=h.dsk,dsn:=h.dsn }
theorem sim_tl{s:S}{a:Act}(hs:Sim B E s a w)(hfn:B.fn=false)(d:Deferred):Sim (B.defer d) E s { a with defers:=d :: a.defers } w:=
 ⟨hs.core.tl _,hs.size,by
  have h1:=hs.defers
  have h2:=hs.core.no_ds hfn
  rw [h2] at h1 ⊢
  show d :: a.defers=_
  rw [h1];rfl,hs.slot⟩
def pinSome(ks:List Nat):List SV→Nat→List SV
 | [],_=>[]
 | .b x :: r,k=>(match ks.any (Nat.beq k) with | true=>.pin k x | false=>.b x) :: pinSome ks r (k+1)
 | _ :: r,k=>.junk :: pinSome ks r (k+1)
def pinS(ks:List Nat)(s:S):S:={ t:=pinSome ks s.t 0,m:=s.m,g:=s.g }
theorem pinSome_length{ks:List Nat}:∀ {l:List SV} {k:Nat},(pinSome ks l k).length=l.length:=by
 intro l
 induction l with
 | nil=>intro k;rfl
 | cons x l ih=>intro k;cases x<;>simp [pinSome,ih]
theorem pinSome_get{ks:List Nat}:∀ {l:List SV} {i k:Nat} {y:SV},(pinSome ks l i)[k]?=some y→y=.junk∨∃ x,l[k]?=some (.b x)∧(y=.b x∨y=.pin (i+k) x):=by
 intro l
 induction l with
 | nil=>intro i k y h;simp [pinSome] at h
 | cons x l ih =>
  intro i k y h
  cases k with
  | zero =>
   cases x with
   | b x =>
    simp only [pinSome,List.getElem?_cons_zero,Option.some.injEq] at h
    right
    refine ⟨x,rfl,?_⟩
    split at h
    ·right;exact h.symm
    ·left;exact h.symm
   | _=>simp only [pinSome,List.getElem?_cons_zero,Option.some.injEq] at h;left;exact h.symm
  | succ k =>
   have h':(pinSome ks l (i+1))[k]?=some y:=by cases x<;>simpa [pinSome] using h
   rcases ih h' with h1 | ⟨x',h1,h2⟩
   ·exact .inl h1
   ·refine .inr ⟨x',by simpa using h1,?_⟩
    rw [show i+(k+1)=i+1+k by omega]
    exact h2
theorem sim_pin{s:S}{a:Act}(ks:List Nat)(hs:Sim B E s a w):Sim (B.refix fun j=>a.tmps.getD j undef) (E.refix fun j=>a.tmps.getD j undef) (pinS ks s) a w:=by
 refine ⟨hs.core.fix _,by simp only [pinS,pinSome_length];exact hs.size,hs.defers,fun k x hk=>?_⟩
 rcases pinSome_get hk with rfl | ⟨y,hy,rfl | rfl⟩
 ·trivial
 ·exact relSB_refix (hs.slot k _ hy)
 ·refine ⟨relSB_refix (hs.slot k _ hy),?_⟩
  show _=a.tmps.getD (0+k) undef
  rw [Nat.zero_add]
theorem sim_wk{s s':S}{a:Act}(hs:Sim B E s a w)(h:Wk P s s'):∃ E',Sim B E' s' a w:=let ⟨E',h1,_⟩:=h B E a w hs;⟨E',h1⟩
end Go.Sym
namespace Go.Sym
variable {P:Program} {B:Base P}
theorem CallCtx.defer{K:Know}{w:World}(h:CallCtx P B K w)(d:Deferred):CallCtx P (B.defer d) K w:=⟨h.r,h.fn,h.W,h.J,h.N,h.know⟩
theorem CallCtx.refix{K:Know}{w:World}(h:CallCtx P B K w)(F:Nat→Value):CallCtx P (B.refix F) K w:=⟨h.r,h.fn,h.W,h.J,h.N,h.know⟩
theorem OwnCtx.defer{E:Env}{w:World}{vs:Array Value}{hid:List Nat}{args:List CV}{m0 m1:List (Nat×MO)}{r:SB}(h:OwnCtx P B E w vs hid args m0 r m1)(d:Deferred):OwnCtx P (B.defer d) E w vs hid args m0 r m1:={ nr:=h.nr,fn:=h.fn,W:=h.W,J:=h.J,N:=h.N,fix:=h.fix,know:=h.know,at':=h.at',rel:=h.rel,ok:=h.ok,rowk:=h.rowk }
end Go.Sym
namespace Go.Proofs.YtidbmbpeblmliaaGreatDoor.Evl
open Go.Sym Go.Proofs.YtidbmbpeblmliaaGreatDoor
def def1(err:Int)(value:Int):Int:=
 (bif (err != 0) then 0 else value)
theorem def1_d(err:Int)(value:Int):FOwnD Tryz.prog 221 [] [.c (.ptr 5 0),.c (.ptr 4 0)] [(4,.cells [cI value]),(5,.cells [cI err])] (.tup []) [(4,.cells [cI (def1 err value)]),(5,.cells [cI err])]:=by
 have ee0:=def1.eq_1 err value
 refine fownD_of 7 Tryz.func221 rfl kr ⟨kr,kr,kr,kr,kr,kr,kr⟩ (fun n o hh h=>by cases hh) kr (fun B hB=>?_)
 refine u0 ?_
 refine ud ee0 (fun hh1 ee1=>?_) (fun hh1 ee2=>?_)
 ·refine u0 ?_
  exact run_nil (ownEnds (.inr rfl) kr ⟨by rw [ee1];kernel_rfl,.inr ⟨1,wit_box 1 0 0 kr kr kr⟩,⟨kr,.inr ⟨0,wit_box 0 0 0 kr kr kr⟩,trivial⟩⟩)
 ·exact run_nil (ownEnds (.inr rfl) kr ⟨by rw [ee2];kernel_rfl,.inr ⟨1,wit_box 1 0 0 kr kr kr⟩,⟨kr,.inr ⟨0,wit_box 0 0 0 kr kr kr⟩,trivial⟩⟩)
def fail(n:Int)(errno:Int):Int×Int:=
 (n,errno)
theorem fail_c(n:Int)(errno:Int):FCall Tryz.prog 222 [vI n,vI errno] (.tup [vI ((fail n errno).1),vI ((fail n errno).2)]):=by
 have ee0:=fail.eq_1 n errno
 refine ul Tryz.func222 rfl (fun B hB=>?_)
 refine u0 (u0 ?_)
 exact run_ret (ut _ (by rw [ee0]<;>rfl))
def evalE(r:Int×Int):S:=mkS 92 [(4,.b (.v (.c (.ptr 4 0)))),(5,.b (.v (.c (.ptr 5 0)))),(27,.pin 27 (.v (.c (.oclo false 221 [(5,0),(4,0)]))))] [(4,.cells [cI r.1]),(5,.cells [cI r.2])]
def evalP(e':List Nd)(vm:List (BA×Int)):S:=mkS 92 [(0,.b (.v (.c (.lst 4 e'.length (elM encNd zNd e'))))),(4,.b (.v (.c (.ptr 4 0)))),(5,.b (.v (.c (.ptr 5 0)))),(6,.b (.v (.c (.kmap false false (Sym.encM Sym.encS Sym.encI vm)))))] [(4,.cells [cI 0]),(5,.cells [cI 0])]
def evalS(e':List Nd)(vm:List (BA×Int)):S:=mkS 92 [(0,.b (.v (.c (.lst 4 e'.length (elM encNd zNd e'))))),(4,.b (.v (.c (.ptr 4 0)))),(5,.b (.v (.c (.ptr 5 0)))),(6,.b (.v (.c (.kmap false false (Sym.encM Sym.encS Sym.encI vm))))),(27,.pin 27 (.v (.c (.oclo false 221 [(5,0),(4,0)]))))] [(4,.cells [cI 0]),(5,.cells [cI 0])]
theorem ar_op{n:Nd}(h:Exp.formed n=true)(h1:n.op≠1)(h2:n.op≠2):1≤n.kids.length∧((3≤n.op∧n.op≤8∨n.op=10∨n.op=11)→2≤n.kids.length)∧(n.op=9→3≤n.kids.length):=by
 have h3:=Exp.formed_op h
 have h4:=Exp.formed_kids h
 rcases (by omega:n.op=3∨n.op=4∨n.op=5∨n.op=6∨n.op=7∨n.op=8∨n.op=9∨n.op=10∨n.op=11∨n.op=12) with e | e | e | e | e | e | e | e | e | e<;>(rw [e] at h4 ⊢;simp only [Exp.o3,Exp.o4,Exp.o5,Exp.o6,Exp.o7,Exp.o8,Exp.o9,Exp.o10,Exp.o11,Exp.o12] at h4;omega)
def evalR_b1_r(e':List Nd)(vm:List (BA×Int))(lx1:Int×(List Int)):Int×Int:=
 (lx1.1,0)
def evalR_k1(e':List Nd)(vm:List (BA×Int))(li1:Nat)(lx1:Int×(List Int))(jx1:Int):Fl (Int×(List Int)) (Int×Int):=
 (bif (Mer.out jx1) then .rt ((fail jx1 9).1,(fail jx1 9).2) else .nx (jx1,lx1.2.set li1 jx1))
def evalR_k1_s(e':List Nd)(vm:List (BA×Int))(li1:Nat)(lx1:Int×(List Int))(jx1:Int):S:=mkS 92 [(4,.b (.v (.c (.ptr 4 0)))),(5,.b (.v (.c (.ptr 5 0)))),(6,.b (.v (.c (.kmap false false (Sym.encM Sym.encS Sym.encI vm))))),(8,.b (.v (.c (.row 30 lx1.2.length)))),(9,.b (.v (.c (.clo 222 [])))),(10,.b (.v (vI (li1:Int)))),(27,.pin 27 (.v (.c (.oclo false 221 [(5,0),(4,0)])))),(31,.b (.v (.c (.lst 4 e'.length (elM encNd zNd e'))))),(32,.b (.v (vI (e'.length:Int)))),(33,.b (.v (vI (li1:Int))))] [(4,.cells [cI jx1]),(5,.cells [cI 0]),(30,.row 3 1 (lx1.2.map Sym.encI))]
def evalR_b2_r(e':List Nd)(vm:List (BA×Int))(li1:Nat)(lx1:Int×(List Int))(lx2:(List Int)):Fl (Int×(List Int)) (Int×Int):=
 evalR_k1 e' vm li1 lx1 (Mer.apply_ ((e'.getD li1 zNd).op) lx2)
def evalR_b2(e':List Nd)(vm:List (BA×Int))(li1:Nat)(lx1:Int×(List Int))(li2:Nat)(lx2:(List Int)):Fl (List Int) (Fl (Int×(List Int)) (Int×Int)):=
 .nx (lx2++[(lx1.2.getD ((((e'.getD li1 zNd).kids).getD li2 0).toNat) 0)])
def evalR_b2_s(e':List Nd)(vm:List (BA×Int))(li1:Nat)(lx1:Int×(List Int))(li2:Nat)(qv:Int)(lx2:(List Int))(n12:Nat)(r12:List (List C)):S:=mkS 92 [(4,.b (.v (.c (.ptr 4 0)))),(5,.b (.v (.c (.ptr 5 0)))),(6,.b (.v (.c (.kmap false false (Sym.encM Sym.encS Sym.encI vm))))),(8,.b (.v (.c (.row 30 lx1.2.length)))),(9,.b (.v (.c (.clo 222 [])))),(10,.b (.v (vI (li1:Int)))),(11,.b (.v (.c (.ptr 11 0)))),(12,.b (.v (.c (.row 12 n12)))),(27,.pin 27 (.v (.c (.oclo false 221 [(5,0),(4,0)])))),(31,.b (.v (.c (.lst 4 e'.length (elM encNd zNd e'))))),(32,.b (.v (vI (e'.length:Int)))),(33,.b (.v (vI (li1:Int)))),(41,.b (.v (.c (.lst 1 (((e'.getD li1 zNd).kids).length) (elM Sym.encI 0 ((e'.getD li1 zNd).kids)))))),(42,.b (.v (vI (((e'.getD li1 zNd).kids).length:Int)))),(43,.b (.v (vI qv)))] [(4,.cells [cI lx1.1]),(5,.cells [cI 0]),(11,.cells (encNd (e'.getD li1 zNd))),(12,.row 3 1 r12),(30,.row 3 1 (lx1.2.map Sym.encI))]
def evalR_b1(e':List Nd)(vm:List (BA×Int))(li1:Nat)(lx1:Int×(List Int)):Fl (Int×(List Int)) (Int×Int):=
 (bif (((e'.getD li1 zNd).op)==1) then evalR_k1 e' vm li1 lx1 ((e'.getD li1 zNd).num) else (bif (((e'.getD li1 zNd).op)==2) then (bif (!(mgetB Sym.eqS vm ((e'.getD li1 zNd).name))) then .rt ((fail (mgetD Sym.eqS 0 vm ((e'.getD li1 zNd).name)) 7).1,(fail (mgetD Sym.eqS 0 vm ((e'.getD li1 zNd).name)) 7).2) else evalR_k1 e' vm li1 lx1 (mgetD Sym.eqS 0 vm ((e'.getD li1 zNd).name))) else (runL (evalR_b2 e' vm li1 lx1) (((e'.getD li1 zNd).kids).length) 0 ([]:List Int)).fin (evalR_b2_r e' vm li1 lx1)))
def evalR_b1_s(e':List Nd)(vm:List (BA×Int))(li1:Nat)(qv:Int)(lx1:Int×(List Int))(n30:Nat)(r30:List (List C)):S:=mkS 92 [(4,.b (.v (.c (.ptr 4 0)))),(5,.b (.v (.c (.ptr 5 0)))),(6,.b (.v (.c (.kmap false false (Sym.encM Sym.encS Sym.encI vm))))),(8,.b (.v (.c (.row 30 n30)))),(9,.b (.v (.c (.clo 222 [])))),(27,.pin 27 (.v (.c (.oclo false 221 [(5,0),(4,0)])))),(31,.b (.v (.c (.lst 4 e'.length (elM encNd zNd e'))))),(32,.b (.v (vI (e'.length:Int)))),(33,.b (.v (vI qv)))] [(4,.cells [cI lx1.1]),(5,.cells [cI 0]),(30,.row 3 1 r30)]
def evalR(e':List Nd)(vm:List (BA×Int)):Int×Int:=
 (runL (evalR_b1 e' vm) e'.length 0 (0,List.replicate e'.length 0)).fin (evalR_b1_r e' vm)
def eval(e':List Nd)(l:List Vr):Int×Int:=match Mer.values l with
 | none=>(0,1)
 | some vm=>bif Exp.Valid e' then (bif ((evalR e' vm).2 != 0) then 0 else (evalR e' vm).1,(evalR e' vm).2) else (0,1)
def EvalQ(e':List Nd)(vm:List (BA×Int))(ex:Exit)(s:S):Prop:=(ex=.ret∨ex=.normal)∧s=evalE (evalR e' vm)
theorem evalQ_i{e':List Nd}{vm:List (BA×Int)}{ex:Exit}{s:S}(h:ex=.ret∨ex=.normal)(h2:s=evalE (evalR e' vm)):EvalQ e' vm ex s:=⟨h,h2⟩
set_option maxRecDepth 100000 in
set_option maxHeartbeats 1000000 in
theorem eval_c (e':List Nd) (l:List Vr):FCall Tryz.prog 134 [.c (.lst 4 e'.length (elM encNd zNd e')),.c (.lst 2 l.length (elM encVr zVr l))] (.tup [vI (eval e' l).1,vI (eval e' l).2]):=by
 refine fcall_raw Tryz.func134 rfl kr (fun K w B0 E a hx htl hs=>?_)
 have early:∀ {ex:Exit} {s':S} {E':Env} {a':Act} {w':World},Sym.Ends Tryz.prog Tryz.f134.results.toList (.tup [vI (eval e' l).1,vI (eval e' l).2]) ex s'→Sim B0 E' s' a' w'→bodyPostM (FB none) 0 Tryz.prog Tryz.f134 (CallR K w (.tup [vI (eval e' l).1,vI (eval e' l).2])) ex a' w':=by
  rintro ex s' E' a' w' ⟨h1,h2⟩ hs'
  have hd:a'.defers=[]:=by rw [hs'.defers,hs'.core.no_ds hx.fn,htl];rfl
  have:=call_done (fn:=Tryz.f134) hx hs' h2
  rcases h1 with rfl | rfl<;>(show LeavesInM _ _ _ _ _ _ _ _ _;rw [hd];exact this)
 have cc1:=Mer.values_c l
 rcases hv0:Mer.values l with _ | vm
 ·rw [hv0] at cc1
  have hq:eval e' l=(0,1):=by rw [eval,hv0]
  refine wpL_of_run (Q:=Sym.Ends Tryz.prog Tryz.f134.results.toList (.tup [vI (eval e' l).1,vI (eval e' l).2])) hx.r (fun ex s' E' a' w' hq hs'=>early (ex:=ex) hq hs') ?_ hs
  refine u0 ?_
  refine us 1 cc1 ?_
  have cc2:=Exp.Valid_c e'
  refine us 4 cc2 ?_
  refine rCondT true kr rfl ?_
  refine u0 ?_
  exact run_ret (ut (.tup [vI 0,vI 1]) (by rw [hq]))
 ·rw [hv0] at cc1
  cases hv:Exp.Valid e' with
  | false =>
   have hq:eval e' l=(0,1):=by rw [eval,hv0,hv];rfl
   refine wpL_of_run (Q:=Sym.Ends Tryz.prog Tryz.f134.results.toList (.tup [vI (eval e' l).1,vI (eval e' l).2])) hx.r (fun ex s' E' a' w' hq hs'=>early (ex:=ex) hq hs') ?_ hs
   refine u0 ?_
   refine us 1 cc1 ?_
   have cc2:=Exp.Valid_c e'
   rw [hv] at cc2
   refine us 4 cc2 ?_
   refine rCondT true kr rfl ?_
   refine u0 ?_
   exact run_ret (ut (.tup [vI 0,vI 1]) (by rw [hq]))
  | true =>
   have hq:eval e' l=(bif ((evalR e' vm).2 != 0) then 0 else (evalR e' vm).1,(evalR e' vm).2):=by rw [eval,hv0,hv];rfl
   refine wpL_split 4 ?_
   refine wpL_part (Q:=fun ex s'=>ex=.normal∧Wk Tryz.prog s' (evalP e' vm)) hx.r ?_ hs ?_ ?_
   ·refine u0 ?_
    refine us 1 cc1 ?_
    have cc2:=Exp.Valid_c e'
    rw [hv] at cc2
    refine us 4 cc2 ?_
    refine rCondF false kr rfl ?_
    exact run_nil ⟨rfl,wkTo [0,4,5,6] [] kr⟩
   ·rintro s' E' a' w' ⟨_,hwk⟩ hs'
    obtain ⟨E1,hs1⟩:=sim_wk hs' hwk
    refine wpL_deferN (f:=.tmp 27) (args:=#[]) hx.r (asks_nil kr) kr hs1 (fun E2 a2 w2 hs2=>?_)
    obtain ⟨vs,hu,hvs,hrel⟩:∃ vs:Array Value,a2.tmps.getD 27 undef=cloV false 221 vs∧vs.size=2∧∀ j,j<2→RelP E2 ([(5,0),(4,0)].getD j (0,0)).1 ([(5,0),(4,0)].getD j (0,0)).2 (vs.getD j undef):=(hs2.slot 27 (.b (.v (.c (.oclo false 221 [(5,0),(4,0)])))) kr).1
    refine ⟨.func 221,#[],vs,hu,?_⟩
    rw [show (#[]++Array.map a2.eval #[]:Array Value)=#[] from by simp]
    obtain ⟨E3,hs3⟩:=sim_wk (sim_pin [27] (sim_tl hs2 hx.fn { target:=.fn (.func 221) vs,args:=#[] })) (s':=evalS e' vm) (wkTo [0,4,5,6,27] [] kr)
    have hx3:=(hx.defer { target:=.fn (.func 221) vs,args:=#[] }).refix (fun j=>a2.tmps.getD j undef)
    refine wpL_of_run (Q:=EvalQ e' vm) hx3.r ?_ ?_ hs3
    ·rintro ex s4 E4 a4 w4 ⟨h1,rfl⟩ hs4
     have hd:a4.defers=[{ target:=.fn (.func 221) vs,args:=#[] }]:=by
      have h2:=hs4.defers
      rw [hs4.core.no_ds hx3.fn] at h2
      rw [h2]
      show List.map markOf []++(_ :: B0.tl)=_
      rw [htl];rfl
     have hfin:LeavesInM (FB none) 0 Tryz.prog Tryz.f134 a4.tmps (CallR K w (.tup [vI (eval e' l).1,vI (eval e' l).2])) [{ target:=.fn (.func 221) vs,args:=#[] }] .returning w4:=by
      obtain ⟨hp1,hp2⟩:RelSB E4 (.v (.c (.oclo false 221 [(5,0),(4,0)]))) (a4.tmps.getD 27 undef)∧a4.tmps.getD 27 undef=E4.c.fix 27:=hs4.slot 27 (.pin 27 (.v (.c (.oclo false 221 [(5,0),(4,0)])))) kr
      have hfx:E4.c.fix=fun j=>a2.tmps.getD j undef:=hs4.core.y.2.2.2
      obtain ⟨vs',hu',hvs',hrel'⟩:=hp1.1
      rw [hp2,hfx] at hu'
      have:vs'=vs:=by have hu2:=hu.symm.trans hu';simp only [cloV,Value.func.injEq] at hu2;exact hu2.2.2.symm
      subst this
      refine leave_defer (ns:=[4,5]) hs4 kr kr kr kr (def1_d (evalR e' vm).2 (evalR e' vm).1) (by simpa using hvs') (fun j hj=>?_) (fun E5 w5 hs5 hc5=>?_)
      ·match j,hj with
       | 0,_ =>
        have:=hrel' 0 (by decide)
        exact ⟨by rw [Array.empty_append];exact this,by obtain ⟨b,_,hb⟩:=this;rw [Array.empty_append,hb];rfl⟩
       | 1,_ =>
        have:=hrel' 1 (by decide)
        exact ⟨by rw [Array.empty_append];exact this,by obtain ⟨b,_,hb⟩:=this;rw [Array.empty_append,hb];rfl⟩
      ·exact call_done (fn:=Tryz.f134) hx3 hs5 (by rw [hq];kernel_rfl)
     rcases h1 with rfl | rfl<;>(show LeavesInM _ _ _ _ _ _ _ _ _;rw [hd];exact hfin)
    ·have hB:∀ b,¬ B0.W b:=hx.W
     have ee0:=evalR.eq_1 e' vm
     have hl:=(Exp.Valid_good hv).1
     refine uq [] [uo (0≤(e'.length:Int)∧(e'.length:Int)≤(e'.length:Int)∧(e'.length:Int)*((8:Int)+1)≤140737488355328)] ?_
     refine u0 (u0 ?_)
     refine uS 0 4 e'.length (elM encNd zNd e') (fun hL2=>?_)
     have hl:=(Exp.Valid_good hv).1
     refine rForX e'.length (fun qi qv qz=>evalR_b1_s e' vm qi qv qz qz.2.length (qz.2.map Sym.encI)) (evalR_b1 e' vm) (fun li1 lx1=>lx1.2.length=e'.length) (0,List.replicate e'.length 0) rfl mix (rowW (fun qn qr=>evalR_b1_s e' vm 0 0 (0,List.replicate e'.length 0) qn qr) e'.length (List.replicate e'.length [cI 0]) (List.replicate e'.length 0) (rowRn _ _) (rowR _ _ rfl) (wkTo [4,5,6,8,9,27,31,32,33] [] kr)) (by simp) (fun qi qz=>⟨kr,kr⟩) (fun li1 lx1 hi1 hJ1 hr1=>?_) (fun lx1 hJ1 hr1=>?_)
     ·have ee2:=evalR_b1.eq_1 e' vm li1 lx1
      have hG:=(Exp.Valid_good hv).2 li1 hi1
      have hl:=(Exp.Valid_good hv).1
      refine uq [] [ub (li1:Int) e'.length] ?_
      refine u0 ?_
      refine rJoin (evalR_k1_s e' vm li1 lx1) (fun jx1=>evalR_b1 e' vm li1 lx1=evalR_k1 e' vm li1 lx1 jx1) nofun ?_ (fun jx1 ee3=>?_)
      ·refine rBlock ?_
       refine u0 ?_
       refine ud ee2 (fun hh2 ee7=>?_) (fun hh2 ee8=>?_)
       ·refine u0 ?_
        refine run_nil (blockR_normal ?_)
        exact run_nil (.inl ⟨rfl,((e'.getD li1 zNd).num),ee7,wkTo [4,5,6,8,9,10,27,31,32,33] [11] kr⟩)
       ·refine u0 ?_
        refine ud ee8 (fun hh3 ee9=>?_) (fun hh3 ee13=>?_)
        ·refine uq [(3,.look (mgetB Sym.eqS vm ((e'.getD li1 zNd).name)) (Sym.encI (mgetD Sym.eqS 0 vm ((e'.getD li1 zNd).name))))] [uk 9 false [.str],@pu (Look (Sym.encM Sym.encS Sym.encI vm) (Sym.encS ((e'.getD li1 zNd).name)) (Sym.encI 0) (mgetB Sym.eqS vm ((e'.getD li1 zNd).name)) (Sym.encI (mgetD Sym.eqS 0 vm ((e'.getD li1 zNd).name)))) (look_of Sym.keyS _ _ _)] ?_
         refine u0 ?_
         refine ud ee9 (fun hh4 ee10=>?_) (fun hh4 ee12=>?_)
         ·have cc3:=fail_c (mgetD Sym.eqS 0 vm ((e'.getD li1 zNd).name)) 7
          refine us 2 cc3 ?_
          have ee11:=fin_rt ee0 hr1 hi1 ee10
          refine rTold (evalE ((fail (mgetD Sym.eqS 0 vm ((e'.getD li1 zNd).name)) 7).1,(fail (mgetD Sym.eqS 0 vm ((e'.getD li1 zNd).name)) 7).2)) [4,5,27] [11,30] kr ?_ nofun
          exact run_ret (blockR_ret (left_ret (evalQ_i (.inl rfl) (by rw [ee11]))))
         ·refine run_nil (blockR_normal ?_)
          exact run_nil (.inl ⟨rfl,(mgetD Sym.eqS 0 vm ((e'.getD li1 zNd).name)),ee12,wkTo [4,5,6,8,9,10,27,31,32,33] [11] kr⟩)
        ·refine u0 (u0 ?_)
         refine run_weaken (wk_nilRow 12 12 3 1 kr kr om) ?_ nofun
         refine uR 36 (.c (.kel 4 e'.length (elM encNd zNd e') li1 0)) (fun hR=>?_)
         have hL1:((e'.getD li1 zNd).kids).length≤9223372036854775807:=Real.len (Real.kel hR 3 om)
         refine rForX (((e'.getD li1 zNd).kids).length) (fun qi qv qz=>evalR_b2_s e' vm li1 lx1 qi qv qz qz.length (qz.map Sym.encI)) (evalR_b2 e' vm li1 lx1) (fun li2 lx2=>lx2.length=li2) ([]:List Int) rfl mix (rowW (fun qn qr=>evalR_b2_s e' vm li1 lx1 0 0 ([]:List Int) qn qr) 0 [] ([]:List Int) (rfl) (rfl) (wkTo [4,5,6,8,9,10,11,12,27,31,32,33,41,42,43] [] kr)) rfl (fun qi qz=>⟨kr,kr⟩) (fun li2 lx2 hi2 hJ2 hr2=>?_) (fun lx2 hJ2 hr2=>?_)
         ·have ee15:=evalR_b2.eq_1 e' vm li1 lx1 li2 lx2
          have hK:=hG.2 li2 hi2
          have hk3:=Exp.formed_kids hG.1
          have ho3:=Exp.operands_le (e'.getD li1 zNd).op
          refine uq [] [ub (li2:Int) ((e'.getD li1 zNd).kids).length] ?_
          refine uq [(4,.frz 0 (fun _=>(Sym.encI (lx1.2.getD ((((e'.getD li1 zNd).kids).getD li2 0).toNat) 0)))),(5,.frz 1 (elM Sym.encI 0 [(lx1.2.getD ((((e'.getD li1 zNd).kids).getD li2 0).toNat) 0)]))] [@pu ((0≤((e'.getD li1 zNd).kids).getD li2 0∧((e'.getD li1 zNd).kids).getD li2 0<(lx1.2.length:Int))∧lx1.2.length=(lx1.2.map Sym.encI).length) (⟨vo,rowN rfl rfl⟩),@pu ((lx1.2.length=(lx1.2.map Sym.encI).length∧((((e'.getD li1 zNd).kids).getD li2 0).toNat)<lx1.2.length)∧(lx1.2.map Sym.encI).getD ((((e'.getD li1 zNd).kids).getD li2 0).toNat) []=(Sym.encI (lx1.2.getD ((((e'.getD li1 zNd).kids).getD li2 0).toNat) 0))) (rowGet rfl rfl vo),@pu (1=1∧∀ i,i<1→(elM Sym.encI 0 [(lx1.2.getD ((((e'.getD li1 zNd).kids).getD li2 0).toNat) 0)]) i=[[cI (lx1.2.getD ((((e'.getD li1 zNd).kids).getD li2 0).toNat) 0)]].getD i []) (⟨rfl,fun i hi=>match i,hi with | 0,_=>rfl⟩),@pu (lx2.length=(lx2.map Sym.encI).length) (rowN rfl rfl),uo ((lx2.length+1)*(8+1)≤140737488355328)] ?_
          exact run_nil (forX_nx (fun qi qv qz=>evalR_b2_s e' vm li1 lx1 qi qv qz qz.length (qz.map Sym.encI)) (lx2++[(lx1.2.getD ((((e'.getD li1 zNd).kids).getD li2 0).toNat) 0)]) hi2 om kr (rowW (fun qn qr=>evalR_b2_s e' vm li1 lx1 (li2+1) (IntKind.i64.wrap ((li2:Int)+1)) (lx2++[(lx1.2.getD ((((e'.getD li1 zNd).kids).getD li2 0).toNat) 0)]) qn qr) (lx2.length+1) ((lx2.map Sym.encI)++((List.range 1).map (elM Sym.encI 0 [(lx1.2.getD ((((e'.getD li1 zNd).kids).getD li2 0).toNat) 0)]))) (lx2++[(lx1.2.getD ((((e'.getD li1 zNd).kids).getD li2 0).toNat) 0)]) (rowAn rfl [(lx1.2.getD ((((e'.getD li1 zNd).kids).getD li2 0).toNat) 0)]) (rowA rfl [(lx1.2.getD ((((e'.getD li1 zNd).kids).getD li2 0).toNat) 0)]) (wkTo [4,5,6,8,9,10,11,12,27,31,32,33,41,42,43] [] kr)) ((by simp only [List.length_append,List.length_singleton];omega)) ee15)
         ·have ee14:=(fin_nx ee13 hr2).trans (evalR_b2_r.eq_1 e' vm li1 lx1 lx2)
          refine frzRowW hB 12 12 lx2.length 3 1 (lx2.map Sym.encI) (elM Sym.encI 0 lx2) [4,5,6,8,9,10,11,27,31,32,33] [] kr kr (len_row _ _) (elM_row _ _ _) kr ?_ nofun
          have hA:=ar_op hG.1 (by simpa using hh2) (by simpa using hh3)
          have cc4:=Mer.apply__c ((e'.getD li1 zNd).op) lx2 vo vo vo
          refine us 3 cc4 ?_
          refine run_nil (blockR_normal ?_)
          exact run_nil (.inl ⟨rfl,(Mer.apply_ ((e'.getD li1 zNd).op) lx2),ee14,wkTo [4,5,6,8,9,10,27,31,32,33] [11] kr⟩)
      ·replace ee3:=ee3.trans (evalR_k1.eq_1 e' vm li1 lx1 jx1)
       have cc1:=Mer.out_c jx1
       refine us 1 cc1 ?_
       refine ud ee3 (fun hh1 ee4=>?_) (fun hh1 ee6=>?_)
       ·have cc2:=fail_c jx1 9
        refine us 2 cc2 ?_
        have ee5:=fin_rt ee0 hr1 hi1 ee4
        refine rTold (evalE ((fail jx1 9).1,(fail jx1 9).2)) [4,5,27] [30] kr ?_ nofun
        exact run_ret (evalQ_i (.inl rfl) (by rw [ee5]))
       ·refine uq [(4,.frz 0 (fun _=>(Sym.encI (lx1.2.getD li1 0))))] [@pu ((0≤(li1:Int)∧(li1:Int)<(lx1.2.length:Int))∧lx1.2.length=(lx1.2.map Sym.encI).length) (⟨vo,rowN rfl rfl⟩),@pu ((lx1.2.length=(lx1.2.map Sym.encI).length∧li1<lx1.2.length)∧(lx1.2.map Sym.encI).getD li1 []=(Sym.encI (lx1.2.getD li1 0))) (rowGet rfl rfl vo)] ?_
        exact run_nil (forX_nx (fun qi qv qz=>evalR_b1_s e' vm qi qv qz qz.2.length (qz.2.map Sym.encI)) (jx1,lx1.2.set li1 jx1) hi1 om kr (rowW (fun qn qr=>evalR_b1_s e' vm (li1+1) (IntKind.i64.wrap ((li1:Int)+1)) (jx1,lx1.2.set li1 jx1) qn qr) lx1.2.length ((lx1.2.map Sym.encI).set li1 (splice (Sym.encI (lx1.2.getD li1 0)) 0 [cI jx1])) (lx1.2.set li1 jx1) (rowSn rfl) (rowS rfl rfl) (wkTo [4,5,6,8,9,27,31,32,33] [] kr)) ((by simpa using hJ1)) ee6)
     ·have ee1:=(fin_nx ee0 hr1).trans (evalR_b1_r.eq_1 e' vm lx1)
      refine u0 ?_
      refine rTold (evalE (lx1.1,0)) [4,5,27] [30] kr ?_ nofun
      exact run_ret (evalQ_i (.inl rfl) (by rw [ee1]))
   ·rintro ex s' E' a' w' hne ⟨rfl,_⟩ _
    exact absurd rfl hne
end Go.Proofs.YtidbmbpeblmliaaGreatDoor.Evl
namespace Go.Sym
open Go.RowKit
variable {P:Program}
theorem getD_toArray(xs:List Value)(j:Nat):xs.toArray.getD j undef=xs.getD j undef:=by
 simp [gE]
theorem RelLK.app{K:Know}{a b:List C}{x y:List Value}(h1:RelLK K a x.toArray)(h2:RelLK K b y.toArray):RelLK K (a++b) (x++y).toArray:=by
 have l1:x.length=a.length:=by simpa using h1.1
 have l2:y.length=b.length:=by simpa using h2.1
 refine ⟨by simp [l1,l2],fun j hj=>?_⟩
 rw [getD_toArray]
 rw [List.length_append] at hj
 by_cases h:j<a.length
 ·have:=h1.2 j h
  rw [getD_toArray] at this
  simp only [gE] at this ⊢
  rw [List.getElem?_append_left h,List.getElem?_append_left (by omega)]
  exact this
 ·have:=h2.2 (j - a.length) (by omega)
  rw [getD_toArray] at this
  simp only [gE] at this ⊢
  rw [List.getElem?_append_right (by omega),List.getElem?_append_right (by omega),l1]
  exact this
theorem own_row_in2{E:Env}{w:World}{r e sz:Nat}{css:List (List C)}{m0:List (Nat×MO)}{u:Value}(hm:(r,MO.row e sz css)∈m0)(hat:OwnAt E m0 w)(hu:Rel E (.row r css.length) u):
  0<sz∧(∀ c,c∈css→c.length=sz)∧E.rw r=some (u,css.length)∧∃ xs,w.ownsRow 0 e sz u css.length xs∧RelLK E.K css.flatten xs.toArray:=by
 obtain ⟨h1,h2,hd,xs,h3,h4,h5⟩:MRel E w r (.row e sz css):=hat.mem r _ hm
 obtain ⟨hd',len,g1,g2,g3⟩:=hu
 rw [h3] at g1
 cases g1
 have:=g3 rfl
 subst this
 exact ⟨h1,h2,h3,xs,h4,h5⟩
end Go.Sym
