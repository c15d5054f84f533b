/- Part of the proof of the statement that the claim's last text names: contracts of functions and laws of the symbolic layer. -/
import Derived.Test.YtidbmbpeblmliaaGreatDoorU14
import Derived.Test.YtidbmbpeblmliaaGreatDoorU15
import Derived.Test.YtidbmbpeblmliaaGreatDoorU16
set_option linter.unusedVariables false
set_option linter.unusedSimpArgs false
namespace Go.Proofs.YtidbmbpeblmliaaGreatDoor.Exp
open Go.Sym Go.Proofs.YtidbmbpeblmliaaGreatDoor
def infixQ:(List (BA×Int)):=
 (mput Sym.eqS (mput Sym.eqS (mput Sym.eqS (mput Sym.eqS (mput Sym.eqS (mput Sym.eqS ([]:List (BA×Int)) (⟨#[60]⟩:BA) 10) (⟨#[61,61]⟩:BA) 11) (⟨#[43]⟩:BA) 3) (⟨#[45]⟩:BA) 4) (⟨#[42]⟩:BA) 5) (⟨#[47]⟩:BA) 6)
abbrev infixQ_cQ1:=mput Sym.eqS ([]:List (BA×Int)) (⟨#[60]⟩:BA) 10
abbrev infixQ_cQ2:=mput Sym.eqS infixQ_cQ1 (⟨#[61,61]⟩:BA) 11
abbrev infixQ_cQ3:=mput Sym.eqS infixQ_cQ2 (⟨#[43]⟩:BA) 3
abbrev infixQ_cQ4:=mput Sym.eqS infixQ_cQ3 (⟨#[45]⟩:BA) 4
abbrev infixQ_cQ5:=mput Sym.eqS infixQ_cQ4 (⟨#[42]⟩:BA) 5
abbrev infixQ_cQ6:=mput Sym.eqS infixQ_cQ5 (⟨#[47]⟩:BA) 6
theorem infixQ_c:FCall Tryz.prog 200 [] (.v (.c (.kmap false false (Sym.encM Sym.encS Sym.encI infixQ)))):=by
 have ee0:=infixQ.eq_1
 refine ul Tryz.func200 rfl (fun B hB=>?_)
 refine u0 ?_
 refine uq [(1,.put (Sym.encM Sym.encS Sym.encI infixQ_cQ1)),(2,.put (Sym.encM Sym.encS Sym.encI infixQ_cQ2)),(3,.put (Sym.encM Sym.encS Sym.encI infixQ_cQ3)),(4,.put (Sym.encM Sym.encS Sym.encI infixQ_cQ4)),(5,.put (Sym.encM Sym.encS Sym.encI infixQ_cQ5)),(6,.put (Sym.encM Sym.encS Sym.encI infixQ_cQ6))] [uk 9 false [.str],@pu (Put (Sym.encM Sym.encS Sym.encI ([]:List (BA×Int))) (Sym.encS (⟨#[60]⟩:BA)) (Sym.encI 10) (Sym.encM Sym.encS Sym.encI infixQ_cQ1)) (put_of Sym.keyS _ _ _),uk 9 false [.str],@pu (Put (Sym.encM Sym.encS Sym.encI infixQ_cQ1) (Sym.encS (⟨#[61,61]⟩:BA)) (Sym.encI 11) (Sym.encM Sym.encS Sym.encI infixQ_cQ2)) (put_of Sym.keyS _ _ _),uk 9 false [.str],@pu (Put (Sym.encM Sym.encS Sym.encI infixQ_cQ2) (Sym.encS (⟨#[43]⟩:BA)) (Sym.encI 3) (Sym.encM Sym.encS Sym.encI infixQ_cQ3)) (put_of Sym.keyS _ _ _),uk 9 false [.str],@pu (Put (Sym.encM Sym.encS Sym.encI infixQ_cQ3) (Sym.encS (⟨#[45]⟩:BA)) (Sym.encI 4) (Sym.encM Sym.encS Sym.encI infixQ_cQ4)) (put_of Sym.keyS _ _ _),uk 9 false [.str],@pu (Put (Sym.encM Sym.encS Sym.encI infixQ_cQ4) (Sym.encS (⟨#[42]⟩:BA)) (Sym.encI 5) (Sym.encM Sym.encS Sym.encI infixQ_cQ5)) (put_of Sym.keyS _ _ _),uk 9 false [.str],@pu (Put (Sym.encM Sym.encS Sym.encI infixQ_cQ5) (Sym.encS (⟨#[47]⟩:BA)) (Sym.encI 6) (Sym.encM Sym.encS Sym.encI infixQ_cQ6)) (put_of Sym.keyS _ _ _)] ?_
 refine frzMap hB 0 1 false false (Sym.encM Sym.encS Sym.encI infixQ_cQ6) [] [] kr kr kr ?_ nofun
 exact run_ret (ut _ (by rw [ee0]<;>rfl))
def functions:(List (BA×Int)):=
 (mput Sym.eqS (mput Sym.eqS (mput Sym.eqS ([]:List (BA×Int)) (⟨#[109,105,110]⟩:BA) 7) (⟨#[109,97,120]⟩:BA) 8) (⟨#[105,102]⟩:BA) 9)
abbrev functions_cQ1:=mput Sym.eqS ([]:List (BA×Int)) (⟨#[109,105,110]⟩:BA) 7
abbrev functions_cQ2:=mput Sym.eqS functions_cQ1 (⟨#[109,97,120]⟩:BA) 8
abbrev functions_cQ3:=mput Sym.eqS functions_cQ2 (⟨#[105,102]⟩:BA) 9
theorem functions_c:FCall Tryz.prog 202 [] (.v (.c (.kmap false false (Sym.encM Sym.encS Sym.encI functions)))):=by
 have ee0:=functions.eq_1
 refine ul Tryz.func202 rfl (fun B hB=>?_)
 refine u0 ?_
 refine uq [(1,.put (Sym.encM Sym.encS Sym.encI functions_cQ1)),(2,.put (Sym.encM Sym.encS Sym.encI functions_cQ2)),(3,.put (Sym.encM Sym.encS Sym.encI functions_cQ3))] [uk 9 false [.str],@pu (Put (Sym.encM Sym.encS Sym.encI ([]:List (BA×Int))) (Sym.encS (⟨#[109,105,110]⟩:BA)) (Sym.encI 7) (Sym.encM Sym.encS Sym.encI functions_cQ1)) (put_of Sym.keyS _ _ _),uk 9 false [.str],@pu (Put (Sym.encM Sym.encS Sym.encI functions_cQ1) (Sym.encS (⟨#[109,97,120]⟩:BA)) (Sym.encI 8) (Sym.encM Sym.encS Sym.encI functions_cQ2)) (put_of Sym.keyS _ _ _),uk 9 false [.str],@pu (Put (Sym.encM Sym.encS Sym.encI functions_cQ2) (Sym.encS (⟨#[105,102]⟩:BA)) (Sym.encI 9) (Sym.encM Sym.encS Sym.encI functions_cQ3)) (put_of Sym.keyS _ _ _)] ?_
 refine frzMap hB 0 1 false false (Sym.encM Sym.encS Sym.encI functions_cQ3) [] [] kr kr kr ?_ nofun
 exact run_ret (ut _ (by rw [ee0]<;>rfl))
def strength_k3(op:Int)(jx1:Bool)(jx2:Bool)(jx3:Bool):Int:=
 (bif jx3 then 3 else (bif (op==12) then 4 else 5))
def strength_k3_s(op:Int)(jx1:Bool)(jx2:Bool)(jx3:Bool):S:=mkS 15 [(3,.b (.v (vI op))),(10,.b (.v (vB jx3)))] []
def strength_k2(op:Int)(jx1:Bool)(jx2:Bool):Int:=
 (bif jx2 then 2 else (bif (op==5) then strength_k3 op jx1 jx2 (op==5) else strength_k3 op jx1 jx2 (op==6)))
def strength_k2_s(op:Int)(jx1:Bool)(jx2:Bool):S:=mkS 15 [(3,.b (.v (vI op))),(7,.b (.v (vB jx2)))] []
def strength_k1(op:Int)(jx1:Bool):Int:=
 (bif jx1 then 1 else (bif (op==3) then strength_k2 op jx1 (op==3) else strength_k2 op jx1 (op==4)))
def strength_k1_s(op:Int)(jx1:Bool):S:=mkS 15 [(3,.b (.v (vI op))),(4,.b (.v (vB jx1)))] []
def strength(op:Int):Int:=
 (bif (op==10) then strength_k1 op (op==10) else strength_k1 op (op==11))
theorem strength_c(op:Int):FCall Tryz.prog 197 [vI op] (.v (vI (strength op))):=by
 have ee0:=strength.eq_1 op
 refine ul Tryz.func197 rfl (fun B hB=>?_)
 refine u0 (u0 ?_)
 refine rBlock ?_
 refine u0 ?_
 refine rJoin (strength_k1_s op) (fun jx1=>strength op=strength_k1 op jx1) nofun ?_ (fun jx1 ee1=>?_)
 ·refine ud ee0 (fun hh7 ee16=>?_) (fun hh7 ee17=>?_)
  ·exact run_nil (joined (op==10) ee16 (wkTo [3,4] [] kr))
  ·refine u0 ?_
   exact run_nil (joined (op==11) ee17 (wkTo [3,4] [] kr))
 ·replace ee1:=ee1.trans (strength_k1.eq_1 op jx1)
  refine ud ee1 (fun hh1 ee2=>?_) (fun hh1 ee3=>?_)
  ·refine u0 ?_
   exact run_ret (blockR_ret (ut _ (by rw [ee2]<;>rfl)))
  ·refine u0 ?_
   refine rJoin (strength_k2_s op jx1) (fun jx2=>strength op=strength_k2 op jx1 jx2) nofun ?_ (fun jx2 ee4=>?_)
   ·refine ud ee3 (fun hh6 ee14=>?_) (fun hh6 ee15=>?_)
    ·exact run_nil (joined (op==3) ee14 (wkTo [3,7] [] kr))
    ·refine u0 ?_
     exact run_nil (joined (op==4) ee15 (wkTo [3,7] [] kr))
   ·replace ee4:=ee4.trans (strength_k2.eq_1 op jx1 jx2)
    refine ud ee4 (fun hh2 ee5=>?_) (fun hh2 ee6=>?_)
    ·refine u0 ?_
     exact run_ret (blockR_ret (ut _ (by rw [ee5]<;>rfl)))
    ·refine u0 ?_
     refine rJoin (strength_k3_s op jx1 jx2) (fun jx3=>strength op=strength_k3 op jx1 jx2 jx3) nofun ?_ (fun jx3 ee7=>?_)
     ·refine ud ee6 (fun hh5 ee12=>?_) (fun hh5 ee13=>?_)
      ·exact run_nil (joined (op==5) ee12 (wkTo [3,10] [] kr))
      ·refine u0 ?_
       exact run_nil (joined (op==6) ee13 (wkTo [3,10] [] kr))
     ·replace ee7:=ee7.trans (strength_k3.eq_1 op jx1 jx2 jx3)
      refine ud ee7 (fun hh3 ee8=>?_) (fun hh3 ee9=>?_)
      ·refine u0 ?_
       exact run_ret (blockR_ret (ut _ (by rw [ee8]<;>rfl)))
      ·refine u0 ?_
       refine ud ee9 (fun hh4 ee10=>?_) (fun hh4 ee11=>?_)
       ·refine u0 ?_
        exact run_ret (blockR_ret (ut _ (by rw [ee10]<;>rfl)))
       ·refine run_nil (blockR_normal ?_)
        refine u0 ?_
        exact run_ret (ut _ (by rw [ee11]<;>rfl))
theorem infix_nd:(infixQ.map (·.2)).Nodup:=by decide +kernel
theorem functions_nd:(functions.map (·.2)).Nodup:=by decide +kernel
theorem symbol_c(l:List (BA×Int))(op:Int)(h:(l.map (·.2)).Nodup):FCall Tryz.prog 199 [.c (.kmap false false (Sym.encM Sym.encS Sym.encI l)),vI op] (.v (.c (.str (symF l op)))):=by
 refine fcall_find (fn:=Tryz.f199) Tryz.func199 kr rfl rfl rfl kr ⟨rfl,rfl⟩ ⟨rfl,rfl⟩ ⟨rfl,rfl⟩ ⟨rfl,rfl⟩ ⟨rfl,rfl⟩ ⟨rfl,rfl⟩ ⟨rfl,rfl⟩ ⟨rfl,rfl⟩ ⟨rfl,rfl⟩ ⟨rfl,rfl⟩ ⟨rfl,rfl⟩ ⟨rfl,rfl⟩ ⟨rfl,rfl⟩ ⟨rfl,rfl⟩ ⟨rfl,rfl⟩ ⟨rfl,rfl⟩ (kt:=9) (vt:=3) kr h
theorem symF_le{l:List (BA×Int)}{N:Nat}(h:∀ e,e∈l→e.1.size≤N)(op:Int):(symF l op).size≤N:=by
 unfold symF
 split
 ·rename_i e he
  exact h e (List.mem_of_find?_eq_some he)
 ·exact Nat.zero_le _
theorem infix_sz(op:Int):(symF infixQ op).size≤10:=symF_le (by decide +kernel) op
theorem functions_sz(op:Int):(symF functions op).size≤10:=symF_le (by decide +kernel) op
def operands_k1(op:Int)(jx1:Unit):Int:=
 (bif (!(((symF infixQ op)++(symF functions op)).toList==(⟨#[]⟩:BA).toList)) then 2 else (-1))
def operands_k1_s(op:Int)(jx1:Unit):S:=mkS 19 [(0,.b (.v (vI op)))] []
def operands_k2(op:Int)(jx2:Bool):Int:=
 (bif jx2 then 0 else (bif (op==12) then 1 else (bif (op==9) then 3 else operands_k1 op ())))
def operands_k2_s(op:Int)(jx2:Bool):S:=mkS 19 [(0,.b (.v (vI op))),(3,.b (.v (vI op))),(4,.b (.v (vB jx2)))] []
def operands(op:Int):Int:=
 (bif (op==1) then operands_k2 op (op==1) else operands_k2 op (op==2))
theorem operands_c(op:Int):FCall Tryz.prog 179 [vI op] (.v (vI (operands op))):=by
 have ee0:=operands.eq_1 op
 refine ul Tryz.func179 rfl (fun B hB=>?_)
 refine u0 (u0 ?_)
 refine rJoin (operands_k1_s op) (fun jx1=>operands op=operands_k1 op jx1) nofun ?_ (fun jx1 ee1=>?_)
 ·refine rBlock ?_
  refine u0 ?_
  refine rJoin (operands_k2_s op) (fun jx2=>operands op=operands_k2 op jx2) nofun ?_ (fun jx2 ee4=>?_)
  ·refine ud ee0 (fun hh5 ee11=>?_) (fun hh5 ee12=>?_)
   ·exact run_nil (joined (op==1) ee11 (wkTo [0,3,4] [] kr))
   ·refine u0 ?_
    exact run_nil (joined (op==2) ee12 (wkTo [0,3,4] [] kr))
  ·replace ee4:=ee4.trans (operands_k2.eq_1 op jx2)
   refine ud ee4 (fun hh2 ee5=>?_) (fun hh2 ee6=>?_)
   ·refine u0 ?_
    exact run_ret (blockR_ret (left_ret (ut _ (by rw [ee5]<;>rfl))))
   ·refine u0 ?_
    refine ud ee6 (fun hh3 ee7=>?_) (fun hh3 ee8=>?_)
    ·refine u0 ?_
     exact run_ret (blockR_ret (left_ret (ut _ (by rw [ee7]<;>rfl))))
    ·refine u0 ?_
     refine ud ee8 (fun hh4 ee9=>?_) (fun hh4 ee10=>?_)
     ·refine u0 ?_
      exact run_ret (blockR_ret (left_ret (ut _ (by rw [ee9]<;>rfl))))
     ·refine run_nil (blockR_normal ?_)
      exact run_nil (joined () ee10 (wkTo [0] [] kr))
 ·replace ee1:=ee1.trans (operands_k1.eq_1 op jx1)
  have cc1:=infixQ_c
  have cc2:=Exp.symbol_c infixQ op (by first | exact Exp.infix_nd | exact Exp.functions_nd)
  have cc3:=functions_c
  have cc4:=Exp.symbol_c functions op (by first | exact Exp.infix_nd | exact Exp.functions_nd)
  refine uq [(0,hcon cc1),(2,hcon cc2),(3,hcon cc3),(5,hcon cc4)] [pu cc1,pu cc2,pu cc3,pu cc4,@pu ((((symF infixQ op).size+(symF functions op).size:Nat):Int)≤9223372036854775807) (by have h1:=infix_sz op;have h2:=functions_sz op;omega)] ?_
  refine ud ee1 (fun hh1 ee2=>?_) (fun hh1 ee3=>?_)
  ·refine u0 ?_
   exact run_ret (ut _ (by rw [ee2]<;>rfl))
  ·refine u0 ?_
   exact run_ret (ut _ (by rw [ee3]<;>rfl))
def identifier(s:BA):Bool:=
 (((((((LexS.lex s).2.1)==0)&&((((LexS.lex s).1).length:Int)==1))&&(((((LexS.lex s).1).getD 0 zTok).kind)==1))&&(((((LexS.lex s).1).getD 0 zTok).text).toList==s.toList))&&((mgetD Sym.eqS 0 functions s)==0))
theorem identifier_c(s:BA):FCall Tryz.prog 180 [.c (.str s)] (.v (vB (identifier s))):=by
 have ee0:=identifier.eq_1 s
 refine ul Tryz.func180 rfl (fun B hB=>?_)
 refine u0 ?_
 have cc1:=LexS.lex_c s
 refine us 1 cc1 ?_
 have cc2:=functions_c
 refine uq [(23,hcon cc2),(25,.look (mgetB Sym.eqS functions s) (Sym.encI (mgetD Sym.eqS 0 functions s)))] [uh ((((LexS.lex s).2.1)==0)&&((((LexS.lex s).1).length:Int)==1)) 0 ((LexS.lex s).1).length,uh (((((LexS.lex s).2.1)==0)&&((((LexS.lex s).1).length:Int)==1))&&(((((LexS.lex s).1).getD 0 zTok).kind)==1)) 0 ((LexS.lex s).1).length,pu cc2,@pg ((((((LexS.lex s).2.1)==0)&&((((LexS.lex s).1).length:Int)==1))&&(((((LexS.lex s).1).getD 0 zTok).kind)==1))&&(((((LexS.lex s).1).getD 0 zTok).text).toList==s.toList)) (KeyTy Tryz.prog 9 false [.str]) (fun hg=>keyTy_of 3 kr om kr),@pg ((((((LexS.lex s).2.1)==0)&&((((LexS.lex s).1).length:Int)==1))&&(((((LexS.lex s).1).getD 0 zTok).kind)==1))&&(((((LexS.lex s).1).getD 0 zTok).text).toList==s.toList)) (Look (Sym.encM Sym.encS Sym.encI functions) (Sym.encS s) (Sym.encI 0) (mgetB Sym.eqS functions s) (Sym.encI (mgetD Sym.eqS 0 functions s))) (fun hg=>look_of Sym.keyS _ _ _)] ?_
 exact run_ret (ut _ (by rw [ee0]<;>rfl))
def formed(n:Nd):Bool:=
 (bif ((operands n.op) != (n.kids.length:Int)) then false else (bif (n.op==1) then (((n.name.toList==(⟨#[]⟩:BA).toList)&&(decide (0≤n.num)))&&(decide (n.num≤1000000))) else (bif (n.op==2) then ((n.num==0)&&(identifier n.name)) else ((n.num==0)&&(n.name.toList==(⟨#[]⟩:BA).toList)))))
theorem formed_c(n:Nd):FCall Tryz.prog 95 [.agg (encNd n)] (.v (vB (formed n))):=by
 have ee0:=formed.eq_1 n
 refine ul Tryz.func95 rfl (fun B hB=>?_)
 refine uq [(0,.imm)] [] ?_
 have cc1:=operands_c n.op
 refine us 2 cc1 ?_
 refine ud ee0 (fun hh1 ee1=>?_) (fun hh1 ee2=>?_)
 ·refine u0 ?_
  exact run_ret (ut _ (by rw [ee1]<;>rfl))
 ·refine u0 ?_
  refine rBlock ?_
  refine u0 ?_
  refine ud ee2 (fun hh2 ee3=>?_) (fun hh2 ee4=>?_)
  ·refine u0 ?_
   exact run_ret (blockR_ret (ut _ (by rw [ee3]<;>rfl)))
  ·refine u0 ?_
   refine ud ee4 (fun hh3 ee5=>?_) (fun hh3 ee6=>?_)
   ·have cc2:=identifier_c n.name
    refine us 6 cc2 ?_
    exact run_ret (blockR_ret (ut _ (by rw [ee5]<;>rfl)))
   ·refine run_nil (blockR_normal ?_)
    refine u0 ?_
    exact run_ret (ut _ (by rw [ee6]<;>rfl))
def walkB_b1(i:Int)(depth:Int)(next:Int)(e':List Nd)(rec:Int→Int→Int→Bool×Int)(lx1:Int×Int):Fl (Int×Int) (Bool×Int):=
 (bif (decide (lx1.1≥0)) then (bif (!((rec (((e'.getD i.toNat zNd).kids).getD lx1.1.toNat 0) (IntKind.i64.wrap (depth+1)) lx1.2).1)) then .rt (false,(rec (((e'.getD i.toNat zNd).kids).getD lx1.1.toNat 0) (IntKind.i64.wrap (depth+1)) lx1.2).2) else .nx ((IntKind.i64.wrap (lx1.1 - 1)),(rec (((e'.getD i.toNat zNd).kids).getD lx1.1.toNat 0) (IntKind.i64.wrap (depth+1)) lx1.2).2)) else .rt (true,lx1.2))
def walkB_b1_s(i:Int)(depth:Int)(next:Int)(e':List Nd)(rec:Int→Int→Int→Bool×Int)(lx1:Int×Int):S:=mkO 54 60 [(0,.pin 0 (.v (vI i))),(1,.pin 1 (.v (vI depth))),(2,.pin 2 (.v (.c (.ptr 56 0)))),(3,.pin 3 (.v (.c (.ptr 57 0)))),(4,.pin 4 (.v (.c (.ptr 58 0)))),(8,.b (.v (vI lx1.1)))] [(56,.cells [cI lx1.2]),(57,.cells [.lst 4 e'.length (elM encNd zNd e')]),(58,.pcells [.oclo false 94 [(56,0),(57,0),(58,0)]])]
def walkB(i:Int)(depth:Int)(next:Int)(e':List Nd)(rec:Int→Int→Int→Bool×Int):Bool×Int:=
 (bif ((((i != next)||(decide (i<0)))||(decide (depth>40)))||(!(formed (e'.getD i.toNat zNd)))) then (false,next) else (runW (walkB_b1 i depth next e' rec) (((((IntKind.i64.wrap ((((e'.getD i.toNat zNd).kids).length:Int) - 1)),(IntKind.i64.wrap (next - 1))).1+1).toNat)+1) ((IntKind.i64.wrap ((((e'.getD i.toNat zNd).kids).length:Int) - 1)),(IntKind.i64.wrap (next - 1)))).fin (fun _=>(false,0)))
theorem walkB_c(i:Int)(depth:Int)(next:Int)(e':List Nd)(rec:Int→Int→Int→Bool×Int)(ih:∀ i' d' nx:Int,d'=IntKind.i64.wrap (depth+1)→depth≤40→nx<(e'.length:Int)→FOwn Tryz.prog 94 [] [vI i',vI d',.c (.ptr 56 0),.c (.ptr 57 0),.c (.ptr 58 0)] [(56,.cells [cI nx]),(57,.cells [.lst 4 e'.length (elM encNd zNd e')]),(58,.pcells [.oclo false 94 [(56,0),(57,0),(58,0)]])] (.v (vB (rec i' d' nx).1)) [(56,.cells [cI (rec i' d' nx).2]),(57,.cells [.lst 4 e'.length (elM encNd zNd e')]),(58,.pcells [.oclo false 94 [(56,0),(57,0),(58,0)]])])(hrec:∀ i' d' nx,(rec i' d' nx).2≤nx)(hn:next<(e'.length:Int)):FOwn Tryz.prog 94 [] [vI i,vI depth,.c (.ptr 56 0),.c (.ptr 57 0),.c (.ptr 58 0)] [(56,.cells [cI next]),(57,.cells [.lst 4 e'.length (elM encNd zNd e')]),(58,.pcells [.oclo false 94 [(56,0),(57,0),(58,0)]])] (.v (vB ((walkB i depth next e' rec).1))) [(56,.cells [cI ((walkB i depth next e' rec).2)]),(57,.cells [.lst 4 e'.length (elM encNd zNd e')]),(58,.pcells [.oclo false 94 [(56,0),(57,0),(58,0)]])]:=by
 have ee0:=walkB.eq_1 i depth next e' rec
 refine fown_of 60 Tryz.func94 rfl kr ⟨kr,kr,kr,kr,kr,kr,kr⟩ (fun n o hh h=>by cases hh) kr (fun B hB hBf=>?_)
 refine u0 ?_
 have cc1:=formed_c (e'.getD i.toNat zNd)
 refine uq [(16,hcon cc1)] [uh (!(((i != next)||(decide (i<0)))||(decide (depth>40)))) i e'.length,pu cc1] ?_
 refine ud ee0 (fun hh1 ee1=>?_) (fun hh1 ee2=>?_)
 ·refine u0 ?_
  exact run_ret (ownEnds (.inl rfl) (by rw [ee1];kernel_rfl) ⟨by rw [ee1];kernel_rfl,.inr ⟨2,wit_box 2 0 0 kr kr kr⟩,⟨kr,.inr ⟨3,wit_box 3 0 0 kr kr kr⟩,⟨kr,.inr ⟨4,wit_box 4 0 0 kr kr kr⟩,trivial⟩⟩⟩)
 ·refine u0 ?_
  refine uq [] [ub i e'.length] ?_
  have hi1:0≤i∧i<(e'.length:Int)∧i=next∧depth≤40:=by simp only [q1,q2,q3,q4,q5,q6,q7,q8,q9,q10,q11,q12] at hh1;omega
  refine rRealM 57 [.lst 4 e'.length (elM encNd zNd e')] kr (fun hR=>?_) nofun
  have hle:e'.length≤9223372036854775807:=Real.len (hR 0 (Nat.le_of_ble_eq_true rfl))
  have hk:(e'.getD i.toNat zNd).kids.length≤9223372036854775807:=Real.len (Real.el (hR 0 (Nat.le_of_ble_eq_true rfl)) i.toNat 3 om om)
  refine rWhile (((((IntKind.i64.wrap ((((e'.getD i.toNat zNd).kids).length:Int) - 1)),(IntKind.i64.wrap (next - 1))).1+1).toNat)+1) (walkB_b1_s i depth next e' rec) (walkB_b1 i depth next e' rec) (fun lx1=>-1≤lx1.1∧lx1.1<((e'.getD i.toNat zNd).kids.length:Int)∧lx1.2<(e'.length:Int)) (fun lx1=>(lx1.1+1).toNat) ((IntKind.i64.wrap ((((e'.getD i.toNat zNd).kids).length:Int) - 1)),(IntKind.i64.wrap (next - 1))) (wkTo [0,1,2,3,4,8] [] kr) (by simp (disch:=omega) only [w64];omega) (Nat.lt_succ_self _) (fun k1 lx1 hJ1 hr1=>?_)
  have ee3:=walkB_b1.eq_1 i depth next e' rec lx1
  refine u0 ?_
  refine ud ee3 (fun hh2 ee4=>?_) (fun hh2 ee8=>?_)
  ·refine rBlock ?_
   have cc2:=(ih (((e'.getD i.toNat zNd).kids).getD lx1.1.toNat 0) (IntKind.i64.wrap (depth+1)) lx1.2 (by rfl) vo vo).ren (fun | 56=>56 | 57=>57 | 58=>58 | n=>n) ⟨kr,kr,kr,kr,kr,kr,kr⟩
   refine uq [(11,.own [56,57,58] [] (.v (vB ((rec (((e'.getD i.toNat zNd).kids).getD lx1.1.toNat 0) (IntKind.i64.wrap (depth+1)) lx1.2).1))) [(56,.cells [cI ((rec (((e'.getD i.toNat zNd).kids).getD lx1.1.toNat 0) (IntKind.i64.wrap (depth+1)) lx1.2).2)]),(57,.cells [.lst 4 e'.length (elM encNd zNd e')]),(58,.pcells [.oclo false 94 [(56,0),(57,0),(58,0)]])])] [ub i e'.length,ub lx1.1 ((e'.getD i.toNat zNd).kids).length,pu cc2] ?_
   refine ud ee4 (fun hh3 ee5=>?_) (fun hh3 ee7=>?_)
   ·refine u0 ?_
    have ee6:=finw_rt ee2 hr1 ee5
    exact run_ret (blockR_ret (ownEnds (.inl rfl) (by rw [ee6];kernel_rfl) ⟨by rw [ee6];kernel_rfl,.inr ⟨2,wit_box 2 0 0 kr kr kr⟩,⟨kr,.inr ⟨3,wit_box 3 0 0 kr kr kr⟩,⟨kr,.inr ⟨4,wit_box 4 0 0 kr kr kr⟩,trivial⟩⟩⟩))
   ·refine run_nil (blockR_normal ?_)
    refine u0 ?_
    exact run_nil (⟨((IntKind.i64.wrap (lx1.1 - 1)),(rec (((e'.getD i.toNat zNd).kids).getD lx1.1.toNat 0) (IntKind.i64.wrap (depth+1)) lx1.2).2),wkTo [0,1,2,3,4,8] [] kr,(by have:=hrec ((e'.getD i.toNat zNd).kids.getD lx1.1.toNat 0) (IntKind.i64.wrap (depth+1)) lx1.2;first | omega | (simp (disch:=omega) only [w64];omega) | (simp only [q1,q2,q3,q4,q5,q6,q7,q8,q9,q10,q11,q12] at *;first | omega | (simp (disch:=omega) only [w64];omega))),ee7,by first | omega | (simp (disch:=omega) only [w64];omega) | (simp only [q1,q2,q3,q4,q5,q6,q7,q8,q9,q10,q11,q12] at *;first | omega | (simp (disch:=omega) only [w64];omega))⟩)
  ·refine run_exit ?_
   have ee9:=finw_rt ee2 hr1 ee8
   refine u0 ?_
   exact run_ret (ownEnds (.inl rfl) (by rw [ee9];kernel_rfl) ⟨by rw [ee9];kernel_rfl,.inr ⟨2,wit_box 2 0 0 kr kr kr⟩,⟨kr,.inr ⟨3,wit_box 3 0 0 kr kr kr⟩,⟨kr,.inr ⟨4,wit_box 4 0 0 kr kr kr⟩,trivial⟩⟩⟩)
theorem walkB_le(i depth next:Int)(e':List Nd)(rec:Int→Int→Int→Bool×Int)(hrec:∀ i' d' nx,(rec i' d' nx).2≤nx):(walkB i depth next e' rec).2≤next:=by
 rw [walkB]
 cases h:(((i != next)||(decide (i<0)))||(decide (depth>40)))||(!(formed (e'.getD i.toNat zNd))) with
 | true=>exact Int.le_refl _
 | false =>
  simp only [q1,q2,q3,q4,q5,q6,q7,q8,q9,q10,q11,q12] at h
  have hn:0≤next:=by omega
  have hw:IntKind.i64.wrap (next - 1)≤next:=by rw [IntKind.wrap_i64];omega
  refine runW_inv (fun x:Int×Int=>x.2≤next) (fun r=>(r.fin (fun _=>(false,0))).2≤next) (fun x y hx hb=>?_) (fun x y _ _=>hn) (fun x r hx hb=>?_) (fun _ _=>hn) _ _ hw
  ·rw [walkB_b1] at hb
   have h1:=hrec (((e'.getD i.toNat zNd).kids).getD x.1.toNat 0) (IntKind.i64.wrap (depth+1)) x.2
   revert hb
   cases decide (x.1≥0)<;>intro hb
   ·cases hb
   ·revert hb
    generalize rec (((e'.getD i.toNat zNd).kids).getD x.1.toNat 0) (IntKind.i64.wrap (depth+1)) x.2=r at h1
    cases r.1<;>intro hb<;>cases hb
    exact Int.le_trans h1 hx
  ·rw [walkB_b1] at hb
   have h1:=hrec (((e'.getD i.toNat zNd).kids).getD x.1.toNat 0) (IntKind.i64.wrap (depth+1)) x.2
   revert hb
   cases decide (x.1≥0)<;>intro hb
   ·cases hb;exact hx
   ·revert hb
    generalize rec (((e'.getD i.toNat zNd).kids).getD x.1.toNat 0) (IntKind.i64.wrap (depth+1)) x.2=r at h1
    cases r.1<;>intro hb<;>cases hb
    exact Int.le_trans h1 hx
def walkF(e:List Nd):Nat→Int→Int→Int→Bool×Int
 | 0,i,d,nx=>walkB i d nx e (fun _ _ nx=>(false,nx))
 | n+1,i,d,nx=>walkB i d nx e (walkF e n)
theorem walkF_le(e:List Nd):∀ n i d nx,(walkF e n i d nx).2≤nx
 | 0,i,d,nx=>walkB_le _ _ _ _ _ fun _ _ _=>Int.le_refl _
 | n+1,i,d,nx=>walkB_le _ _ _ _ _ fun i d nx=>walkF_le e n i d nx
def walkV(i d nx:Int)(e:List Nd):Bool×Int:=walkF e 40 i d nx
theorem walkF_c(e':List Nd):∀ (n:Nat) (i d nx:Int),41≤(n:Int)+d→1≤d→nx<(e'.length:Int)→FOwn Tryz.prog 94 [] [vI i,vI d,.c (.ptr 56 0),.c (.ptr 57 0),.c (.ptr 58 0)] [(56,.cells [cI nx]),(57,.cells [.lst 4 e'.length (elM encNd zNd e')]),(58,.pcells [.oclo false 94 [(56,0),(57,0),(58,0)]])] (.v (vB (walkF e' n i d nx).1)) [(56,.cells [cI (walkF e' n i d nx).2]),(57,.cells [.lst 4 e'.length (elM encNd zNd e')]),(58,.pcells [.oclo false 94 [(56,0),(57,0),(58,0)]])]
 | 0,i,d,nx,h1,h2,h3=>walkB_c i d nx e' _ (fun _ _ _ _ h=>by omega) (fun _ _ _=>Int.le_refl _) h3
 | n+1,i,d,nx,h1,h2,h3=>walkB_c i d nx e' _ (fun i' d' nx' hd hle hn=>by
   subst hd
   exact walkF_c e' n i' _ nx' (by rw [w64 _ om om];omega) (by rw [w64 _ om om];omega) hn) (fun i d nx=>walkF_le e' n i d nx) h3
theorem walkV_c(i d nx:Int)(e':List Nd)(h1:d=1)(h3:nx<(e'.length:Int)):FOwn Tryz.prog 94 [] [vI i,vI d,.c (.ptr 56 0),.c (.ptr 57 0),.c (.ptr 58 0)] [(56,.cells [cI nx]),(57,.cells [.lst 4 e'.length (elM encNd zNd e')]),(58,.pcells [.oclo false 94 [(56,0),(57,0),(58,0)]])] (.v (vB (walkV i d nx e').1)) [(56,.cells [cI (walkV i d nx e').2]),(57,.cells [.lst 4 e'.length (elM encNd zNd e')]),(58,.pcells [.oclo false 94 [(56,0),(57,0),(58,0)]])]:=
 walkF_c e' 40 i d nx om om h3
def Valid(e':List Nd):Bool:=
 (bif ((decide ((e'.length:Int)<1))||(decide ((e'.length:Int)>300))) then false else (((walkV (IntKind.i64.wrap ((e'.length:Int) - 1)) 1 (IntKind.i64.wrap ((e'.length:Int) - 1)) e').1)&&(((walkV (IntKind.i64.wrap ((e'.length:Int) - 1)) 1 (IntKind.i64.wrap ((e'.length:Int) - 1)) e').2)==(-1))))
theorem Valid_c(e':List Nd):FCall Tryz.prog 28 [.c (.lst 4 e'.length (elM encNd zNd e'))] (.v (vB (Valid e'))):=by
 have ee0:=Valid.eq_1 e'
 refine ul Tryz.func28 rfl (fun B hB=>?_)
 refine u0 (u0 ?_)
 refine ud ee0 (fun hh1 ee1=>?_) (fun hh1 ee2=>?_)
 ·refine u0 ?_
  exact run_ret (ut _ (by rw [ee1]<;>rfl))
 ·refine u0 (u0 (u0 ?_))
  have cc1:=(walkV_c (IntKind.i64.wrap ((e'.length:Int) - 1)) 1 (IntKind.i64.wrap ((e'.length:Int) - 1)) e' (by rfl) vo).ren (fun | 56=>3 | 57=>1 | 58=>4 | n=>n) ⟨kr,kr,kr,kr,kr,kr,kr⟩
  refine uq [(4,.own [3,1,4] [] (.v (vB ((walkV (IntKind.i64.wrap ((e'.length:Int) - 1)) 1 (IntKind.i64.wrap ((e'.length:Int) - 1)) e').1))) [(3,.cells [cI ((walkV (IntKind.i64.wrap ((e'.length:Int) - 1)) 1 (IntKind.i64.wrap ((e'.length:Int) - 1)) e').2)]),(1,.cells [.lst 4 e'.length (elM encNd zNd e')]),(4,.pcells [.oclo false 94 [(3,0),(1,0),(4,0)]])])] [pu cc1] ?_
  exact run_ret (ut _ (by rw [ee2]<;>rfl))
theorem operands_le(op:Int):operands op≤3:=by
 simp only [operands,operands_k2,operands_k1,cond_eq_ite]
 repeat' split
 all_goals omega
def Good(e:List Nd)(j:Nat):Prop:=formed (e.getD j zNd)=true∧∀ k:Nat,k<(e.getD j zNd).kids.length→0≤(e.getD j zNd).kids.getD k 0∧(e.getD j zNd).kids.getD k 0<j
theorem formed_kids{n:Nd}(h:formed n=true):(n.kids.length:Int)=operands n.op:=by
 rw [formed] at h
 have:=(bif_f h).1
 simp at this
 omega
def WalkG(e:List Nd)(rec:Int→Int→Int→Bool×Int):Prop:=∀ i d nx,nx<4611686018427387904→(rec i d nx).1=true→i=nx∧0≤nx∧(rec i d nx).2<nx∧-1≤(rec i d nx).2∧∀ j:Nat,(rec i d nx).2<j→(j:Int)≤nx→Good e j
theorem walkB_good{e:List Nd}{rec:Int→Int→Int→Bool×Int}(hr:WalkG e rec):WalkG e (fun i d nx=>walkB i d nx e rec):=by
 intro i d nx hb h
 simp only at h ⊢
 rw [walkB] at h ⊢
 cases hc:((((i != nx)||(decide (i<0)))||(decide (d>40)))||(!(formed (e.getD i.toNat zNd)))) with
 | true=>rw [hc] at h;cases h
 | false =>
  rw [hc] at h
  simp only [cond_false] at h ⊢
  simp only [Bool.or_eq_false_iff,bne_eq_false_iff_eq,decide_eq_false_iff_not,Bool.not_eq_false'] at hc
  obtain ⟨⟨⟨rfl,h0⟩,_⟩,hf⟩:=hc
  have hk:=formed_kids hf
  have ho:=operands_le (e.getD i.toNat zNd).op
  refine (?_:_∧_)
  rw [w64 (i - 1) om om,w64 (((e.getD i.toNat zNd).kids.length:Int) - 1) om om] at h ⊢
  have key:=runW_inv (bd:=walkB_b1 i d i e rec)
   (fun x:Int×Int=>-1≤x.1∧x.1<((e.getD i.toNat zNd).kids.length:Int)∧x.2<i∧-1≤x.2∧(∀ m:Nat,x.1<m→m<(e.getD i.toNat zNd).kids.length→0≤(e.getD i.toNat zNd).kids.getD m 0∧(e.getD i.toNat zNd).kids.getD m 0<i)∧∀ j:Nat,x.2<j→(j:Int)<i→Good e j)
   (fun r=>(r.fin (fun _=>(false,0))).1=true→(r.fin (fun _=>(false,0))).2<i∧-1≤(r.fin (fun _=>(false,0))).2∧(∀ m:Nat,m<(e.getD i.toNat zNd).kids.length→0≤(e.getD i.toNat zNd).kids.getD m 0∧(e.getD i.toNat zNd).kids.getD m 0<i)∧∀ j:Nat,(r.fin (fun _=>(false,0))).2<j→(j:Int)<i→Good e j)
   (fun x y hx hb=>?_) (fun x y hx hb hf=>by cases hf) (fun x r hx hb=>?_) (fun _ _ hf=>by cases hf) ((((e.getD i.toNat zNd).kids.length:Int) - 1+1).toNat+1) (((e.getD i.toNat zNd).kids.length:Int) - 1,i - 1) (by dsimp only;exact ⟨om,om,om,om,fun m g1 g2=>by omega,fun j g1 g2=>by omega⟩)
  ·obtain ⟨k1,k2,k3,k4⟩:=key h
   refine ⟨rfl,om,k1,k2,fun j g1 g2=>?_⟩
   rcases Int.lt_or_eq_of_le g2 with g | g
   ·exact k4 j g1 g
   ·have:j=i.toNat:=by omega
    subst this
    exact ⟨hf,fun k hk=>by have:=k3 k hk;omega⟩
  ·obtain ⟨a1,a2,a3,a4,a5,a6⟩:=hx
   rw [walkB_b1] at hb
   cases hd:decide (x.1≥0) with
   | false=>rw [hd] at hb;cases hb
   | true =>
    rw [hd] at hb
    have hd:=of_decide_eq_true hd
    simp only [cond_true] at hb
    cases hq:(rec (((e.getD i.toNat zNd).kids).getD x.1.toNat 0) (IntKind.i64.wrap (d+1)) x.2).1 with
    | false=>rw [hq] at hb;cases hb
    | true =>
     rw [hq] at hb
     obtain ⟨b1,b2,b3,b4,b5⟩:=hr _ _ _ om hq
     simp only [Bool.not_true,cond_false,Fl.nx.injEq] at hb
     subst hb
     simp only
     rw [w64 (x.1 - 1) om om]
     refine ⟨om,om,om,b4,fun m g1 g2=>?_,fun j g1 g2=>?_⟩
     ·rcases (by omega:m=x.1.toNat∨x.1<m) with rfl | g
      ·omega
      ·exact a5 m g g2
     ·rcases (by omega:(j:Int)≤x.2∨x.2<j) with g | g
      ·exact b5 j g1 g
      ·exact a6 j g g2
  ·obtain ⟨a1,a2,a3,a4,a5,a6⟩:=hx
   rw [walkB_b1] at hb
   intro hf
   cases hd:decide (x.1≥0) with
   | true =>
    rw [hd] at hb
    simp only [cond_true] at hb
    cases hq:(rec (((e.getD i.toNat zNd).kids).getD x.1.toNat 0) (IntKind.i64.wrap (d+1)) x.2).1 with
    | false=>rw [hq] at hb;cases hb;cases hf
    | true=>rw [hq] at hb;cases hb
   | false =>
    rw [hd] at hb
    have hd:=of_decide_eq_false hd
    cases hb
    exact ⟨a3,a4,fun m g=>a5 m om g,a6⟩
theorem walkF_good(e:List Nd):∀ n,WalkG e (walkF e n)
 | 0=>walkB_good (rec:=fun _ _ nx=>(false,nx)) (fun i d nx _ h=>by cases h)
 | n+1=>walkB_good (walkF_good e n)
theorem Valid_good{e:List Nd}(h:Valid e=true):(1≤e.length∧e.length≤300)∧∀ j,j<e.length→Good e j:=by
 rw [Valid] at h
 obtain ⟨h1,h2⟩:=bif_f h
 simp only [Bool.or_eq_false_iff,decide_eq_false_iff_not] at h1
 simp only [Bool.and_eq_true,beq_iff_eq] at h2
 rw [w64 ((e.length:Int) - 1) om om] at h2
 obtain ⟨_,_,_,_,k⟩:=walkF_good e 40 _ _ _ om h2.1
 refine ⟨om,fun j hj=>k j (by have:=h2.2;simp only [walkV] at this;omega) om⟩
theorem infix_val:∀ e,e∈infixQ→3≤e.2∧e.2≤12:=by decide +kernel
theorem functions_val:∀ e,e∈functions→3≤e.2∧e.2≤12:=by decide +kernel
theorem symF_out{l:List (BA×Int)}(h:∀ e,e∈l→3≤e.2∧e.2≤12){op:Int}(ho:op<3∨12<op):symF l op=⟨#[]⟩:=symF_none fun i hi he=>by
 have:=h (l.getD i (⟨#[]⟩,0)) (by simp [gE,hi])
 omega
theorem formed_op{n:Nd}(h:formed n=true):1≤n.op∧n.op≤12:=by
 have hk:=formed_kids h
 by_cases hc:1≤n.op∧n.op≤12
 ·exact hc
 ·have h1:(n.op==1)=false:=by simp;omega
  have h2:(n.op==2)=false:=by simp;omega
  have h9:(n.op==9)=false:=by simp;omega
  have h12:(n.op==12)=false:=by simp;omega
  have e1:=symF_out infix_val (op:=n.op) om
  have e2:=symF_out functions_val (op:=n.op) om
  have e3:((⟨#[]⟩:BA)++⟨#[]⟩).toList=(⟨#[]⟩:BA).toList:=by decide +kernel
  simp only [operands,operands_k2,operands_k1,h1,h2,h9,h12,e1,e2,e3,cond_false,BEq.rfl,Bool.not_true] at hk
  omega
theorem arity{n:Nd}(h:formed n=true){k:Int}(hk:(n.op==k)=true):(n.kids.length:Int)=operands k:=by
 have:n.op=k:=by simpa using hk
 rw [← this];exact formed_kids h
theorem o3:operands 3=2:=by decide +kernel
theorem o4:operands 4=2:=by decide +kernel
theorem o5:operands 5=2:=by decide +kernel
theorem o6:operands 6=2:=by decide +kernel
theorem o7:operands 7=2:=by decide +kernel
theorem o8:operands 8=2:=by decide +kernel
theorem o9:operands 9=3:=by decide +kernel
theorem o10:operands 10=2:=by decide +kernel
theorem o11:operands 11=2:=by decide +kernel
theorem o12:operands 12=1:=by decide +kernel
theorem formed_num{n:Nd}(h:formed n=true)(hk:(n.op==1)=true):0≤n.num∧n.num≤1000000:=by
 rw [formed] at h
 have:=(bif_f h).2
 rw [hk] at this
 simp only [cond_true,Bool.and_eq_true,decide_eq_true_eq] at this
 omega
end Go.Proofs.YtidbmbpeblmliaaGreatDoor.Exp
