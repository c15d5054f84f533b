/- Part of the proof of the statement that the claim's last text names: contracts of functions and laws of the symbolic layer. -/
import Derived.Test.YtidbmbpeblmliaaGreatDoorO13
set_option linter.unusedVariables false
set_option linter.unusedSimpArgs false
namespace Go.Sym
open Go.RowKit
variable {P:Program} {B:Base P}
theorem rForJ{σ ρ:Type}{st:S}{id idH idI b1:Nat}{opsH opsI:Array Oper}{c:Operand}{lp body:Code}{cs:List Code}{Q:Exit→S→Prop}(n:Nat)(s:Nat→Int→σ→S)(bd:Nat→σ→Fl σ ρ)(J:Nat→σ→Prop)(x0:σ)(len:σ→Nat)(hlen:∀ i x,J i x→len x=n) 
  (hfl:flatC lp []=[.region idH opsH false,.cond c .skip (.exit id),.block b1 body,.region idI opsI false]) (hmix:P.follows .mixedOrders=true)
  (hw:Wk P st (s 0 0 x0)) (h0:J 0 x0)
  (hH:∀ (i:Nat) (x:σ),Asked (evalRegion P opsH false [] (s i i x))∧(nextS (evalRegion P opsH false [] (s i i x))).ev [] c=some (.v (.c (.bool (decide ((i:Int)<(len x:Int)))))))
  (hbody:∀ i x,i<n→J i x→runL bd n 0 x0=runL bd (n - i) i x→Run P B (nextS (evalRegion P opsH false [] (s i i x))) (flatC body []) (fun e s'=>match e with
   | .normal=>∃ y s2,(asks (evalRegion P opsI false [] s')=[]∧nextS (evalRegion P opsI false [] s')=s2)∧Wk P s2 (s (i+1) ((i+1:Nat):Int) y)∧J (i+1) y∧bd i x=.nx y
   | .exit k=>match Nat.beq k b1 with
    | true=>∃ y s2,(asks (evalRegion P opsI false [] s')=[]∧nextS (evalRegion P opsI false [] s')=s2)∧Wk P s2 (s (i+1) ((i+1:Nat):Int) y)∧J (i+1) y∧bd i x=.nx y
    | false=>match Nat.beq k id with
     | true=>Run P B s' cs Q
     | false=>Q (.exit k) s'
   | e=>Q e s'))
  (hend:∀ x,J n x→runL bd n 0 x0=runL bd (n - n) n x→Run P B (nextS (evalRegion P opsH false [] (s n n x))) cs Q):Run P B st (.block id (.loop lp) :: cs) Q:=by
 refine rBlock ?_
 show Run P B st [.loop lp] (blockR P B id cs Q)
 refine rLoop (fun i:Nat×σ=>s i.1 i.1 i.2) (fun i=>i.1≤n∧J i.1 i.2∧runL bd n 0 x0=runL bd (n - i.1) i.1 i.2) (fun i=>n - i.1) (0,x0) hw ⟨Nat.zero_le _,h0,rfl⟩ ?_
 rintro ⟨i,x⟩ ⟨hi,hI,hr⟩
 simp only at hi hI hr
 rw [hfl]
 obtain ⟨h1,h2⟩:=hH i x
 rw [hlen i x hI] at h2
 refine run_reg [] hmix h1 ?_
 refine rCond _ h2 (fun hc=>?_) (fun hc=>?_)
 ·have hc:i<n:=by have:=of_decide_eq_true hc;omega
  refine rBlock ?_
  have next:∀ s',(∃ y s2,(asks (evalRegion P opsI false [] s')=[]∧nextS (evalRegion P opsI false [] s')=s2)∧Wk P s2 (s (i+1) ((i+1:Nat):Int) y)∧J (i+1) y∧bd i x=.nx y) →
    Run P B s' [.region idI opsI false] (loopR P (fun i:Nat×σ=>s i.1 i.1 i.2) (fun i=>i.1≤n∧J i.1 i.2∧runL bd n 0 x0=runL bd (n - i.1) i.1 i.2) (fun i=>n - i.1) (i,x) (blockR P B id cs Q)):=fun s' ⟨y,s2,⟨ha,hs⟩,hw2,hI2,hb⟩=>by
   refine reg0 hmix ha ?_
   rw [hs]
   exact run_nil (loopR_next (i+1,y) hw2 ⟨hc,hI2,by rw [hr,runL_step hc,hb]⟩ (by show n - (i+1)<n - i;omega))
  refine run_mono _ (fun e s' hq=>?_) (hbody i x hc hI hr)
  cases e with
  | normal=>exact next s' hq
  | exit k =>
   simp only at hq
   show (match Nat.beq k b1 with
    | true=>_
    | false=>_)
   cases hk:Nat.beq k b1 with
   | true=>rw [hk] at hq;exact next s' hq
   | false =>
    rw [hk] at hq
    show (match Nat.beq k id with
     | true=>_
     | false=>_)
    cases hk2:Nat.beq k id with
    | true=>rw [hk2] at hq;exact hq
    | false=>rw [hk2] at hq;exact hq
  | _=>exact hq
 ·have hc:i=n:=by have:=of_decide_eq_false hc;omega
  subst hc
  exact run_exit (loopR_exit (blockR_exit (hend x hI hr)))
end Go.Sym
