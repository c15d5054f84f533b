/- Part of the proof of the statement that the claim's last text names: contracts of functions and laws of the symbolic layer. -/
import Derived.Lib.ItoaLen
import Derived.Test.YtidbmbpeblmliaaGreatDoorU14
import Derived.Test.YtidbmbpeblmliaaGreatDoorU17
import Derived.Test.YtidbmbpeblmliaaGreatDoorU20
set_option linter.unusedVariables false
set_option linter.unusedSimpArgs false
namespace Go.Proofs.YtidbmbpeblmliaaGreatDoor.Txt
open Go.Sym Go.Proofs.YtidbmbpeblmliaaGreatDoor
theorem dec_len{n:Nat}(h:n<18446744073709551616):(Lib.decDigits n).length≤20:=by
 rw [Lib.decDigits_length]
 exact Lib.nDigits_le20 n h
theorem itoa_sz{n:Int}(h0:0≤n)(h1:n≤1000000):(⟨(Lib.itoa n).toArray⟩:BA).size≤20:=by
 rw [Lib.itoa,if_neg om]
 show (Lib.decDigits n.toNat).toArray.size≤20
 rw [List.size_toArray]
 exact dec_len om
theorem below_grow(w:World)(k:Nat)(os:Array Obj):RowKit.Below w.heap.size w (Go.Sort.grow (w.drewN k) os):=⟨rfl,rfl,rfl,by rw [Go.Sort.size_grow];exact Nat.le_add_right _ _,fun b hb=>by
 show (w.heap++os)[b]?=w.heap[b]?
 rw [Array.getElem?_append_left hb]⟩
def itoa(n:Int):BA:=⟨(Lib.itoa n).toArray⟩
theorem itoa_c(n:Int)(h0:0≤n)(h1:n≤1000000):FCall Tryz.prog 201 [vI n] (.v (.c (.str (itoa n)))):=
 fcall_itoa (Nat.le_trans (itoa_sz h0 h1) (by decide)) (Bld.libf Tryz.func201 kr) (fun w ht=>(Tryz.strconv_Itoa n om om w ht).mono (fun e w' ⟨h,k,os,hw⟩=>⟨h,by rw [hw];exact below_grow _ _ _⟩)) kr
theorem lex_sz{s:BA}(h:(LexS.lex s).2.1=0):s.size≤20000:=by
 rw [LexS.lex] at h
 cases hc:decide ((s.size:Int)>20000) with
 | true=>rw [hc] at h;cases h
 | false=>simp at hc;omega
theorem name_sz{n:Nd}(h:Exp.formed n=true):n.name.size≤20000:=by
 have empty:(n.name.toList==(⟨#[]⟩:BA).toList)=true→n.name.size≤20000:=fun he=>by
  have:=bytes_toList he;rw [← this];exact Nat.zero_le _
 rw [Exp.formed] at h
 have h1:=(bif_f h).2
 cases h2:n.op==1 with
 | true =>
  rw [h2] at h1
  simp only [cond_true,Bool.and_eq_true] at h1
  exact empty h1.1.1
 | false =>
  rw [h2,cond_false] at h1
  cases h3:n.op==2 with
  | true =>
   rw [h3] at h1
   simp only [cond_true,Bool.and_eq_true] at h1
   have h4:=h1.2
   rw [Exp.identifier] at h4
   simp only [Bool.and_eq_true,beq_iff_eq] at h4
   exact lex_sz h4.1.1.1.1
  | false =>
   rw [h3] at h1
   simp only [cond_false,Bool.and_eq_true] at h1
   exact empty h1.2
theorem st_ar{n:Nd}(h:Exp.formed n=true):((Exp.strength n.op==1)=true→2≤n.kids.length)∧((Exp.strength n.op==2)=true→2≤n.kids.length)∧((Exp.strength n.op==3)=true→2≤n.kids.length)∧((Exp.strength n.op==4)=true→1≤n.kids.length)∧n.kids.length≤3:=by
 have h3:=Exp.formed_op h
 have h4:=Exp.formed_kids h
 have h5:=Exp.operands_le n.op
 rcases (by omega:n.op=1∨n.op=2∨n.op=3∨n.op=4∨n.op=5∨n.op=6∨n.op=7∨n.op=8∨n.op=9∨n.op=10∨n.op=11∨n.op=12) with e | e | e | e | e | e | e | e | e | e | e | e<;>(rw [e] at h4 h5 ⊢;refine ⟨?_,?_,?_,?_,om⟩<;>(intro h6;first | (simp only [Exp.o3,Exp.o4,Exp.o5,Exp.o6,Exp.o9,Exp.o10,Exp.o11,Exp.o12] at h4;omega) | (exact absurd h6 (by decide))))
def tM(e':List Nd)(x:BA):List (Nat×MO):=[(116,.cells [.lst 4 e'.length (elM encNd zNd e')]),(117,.tcells 258 [.junk,.row 118 x.size]),(118,.row 5 1 (Bld.bytesC x)),(119,.pcells [.oclo false 196 [(116,0),(117,0),(119,0)]])]
def TOwn(e':List Nd)(i l:Int)(o o':BA):Prop:=FOwn Tryz.prog 196 [118] [vI i,vI l,.c (.ptr 116 0),.c (.ptr 117 0),.c (.ptr 119 0)] (tM e' o) (.tup []) (tM e' o')
theorem sz32:(⟨#[32]⟩:BA).size=1:=rfl
theorem sz40:(⟨#[40]⟩:BA).size=1:=rfl
theorem sz41:(⟨#[41]⟩:BA).size=1:=rfl
theorem sz45:(⟨#[45]⟩:BA).size=1:=rfl
theorem sz44:(⟨#[44,32]⟩:BA).size=2:=rfl
structure TCtx (e':List Nd) (rec:Int→Int→BA→BA) (N:Nat→Nat) (n:Nd):Prop where
 good:Exp.formed n=true
 mono:∀ k,k<n.kids.length→N k<N (k+1)
 own:∀ k l o,k<n.kids.length→o.size+30000*(N (k+1) - N k)≤100000000→TOwn e' (n.kids.getD k 0) l o (rec (n.kids.getD k 0) l o)
 size:∀ k l o,k<n.kids.length→(rec (n.kids.getD k 0) l o).size≤o.size+30000*(N (k+1) - N k)
theorem mono_le{N:Nat→Nat}{m:Nat}(h:∀ k,k<m→N k<N (k+1)):∀ k,k≤m→N 0≤N k
 | 0,_=>Nat.le_refl _
 | k+1,hk=>Nat.le_trans (mono_le h k om) (Nat.le_of_lt (h k om))
theorem mono_top{N:Nat→Nat}{m:Nat}(h:∀ k,k<m→N k<N (k+1)):∀ j k,k+j=m→N k≤N m
 | 0,k,hk=>by rw [show k=m by omega];exact Nat.le_refl _
 | j+1,k,hk=>Nat.le_trans (Nat.le_of_lt (h k om)) (mono_top h j (k+1) om)
def txtE(e':List Nd)(x:BA):S:=mkO 114 120 [(2,.pin 2 (.v (.c (.ptr 116 0)))),(3,.pin 3 (.v (.c (.ptr 117 0)))),(4,.pin 4 (.v (.c (.ptr 119 0))))] (tM e' x)
def textR_b1_r(i:Int)(out:BA)(e':List Nd)(rec:Int→Int→BA→BA)(jx1:Bool)(jx2:BA)(lx1:BA):BA:=
 (bif (decide ((((e'.getD i.toNat zNd).kids).length:Int)>0)) then (lx1++(⟨#[41]⟩:BA)) else lx1)
def textR_b1(i:Int)(out:BA)(e':List Nd)(rec:Int→Int→BA→BA)(jx1:Bool)(jx2:BA)(li1:Nat)(lx1:BA):Fl BA BA:=
 (bif ((li1:Int)==0) then .nx (rec (((e'.getD i.toNat zNd).kids).getD li1 0) 1 (lx1++((symF Exp.functions ((e'.getD i.toNat zNd).op))++(⟨#[40]⟩:BA)))) else .nx (rec (((e'.getD i.toNat zNd).kids).getD li1 0) 1 (lx1++(⟨#[44,32]⟩:BA))))
def textR_b1_s(i:Int)(out:BA)(e':List Nd)(rec:Int→Int→BA→BA)(jx1:Bool)(jx2:BA)(li1:Nat)(qv:Int)(lx1:BA):S:=mkO 114 120 [(2,.pin 2 (.v (.c (.ptr 116 0)))),(3,.pin 3 (.v (.c (.ptr 117 0)))),(4,.pin 4 (.v (.c (.ptr 119 0)))),(7,.b (.v (.c (.ptr 7 0)))),(34,.b (.v (.c (.lst 1 (((e'.getD i.toNat zNd).kids).length) (elM Sym.encI 0 ((e'.getD i.toNat zNd).kids)))))),(35,.b (.v (vI (((e'.getD i.toNat zNd).kids).length:Int)))),(36,.b (.v (vI qv)))] [(7,.cells (encNd (e'.getD i.toNat zNd))),(116,.cells [.lst 4 e'.length (elM encNd zNd e')]),(117,.tcells 258 [.junk,.row 118 lx1.size]),(118,.row 5 1 (Bld.bytesC lx1)),(119,.pcells [.oclo false 196 [(116,0),(117,0),(119,0)]])]
def textR_k2(i:Int)(out:BA)(e':List Nd)(rec:Int→Int→BA→BA)(jx1:Bool)(jx2:BA):BA:=
 (runL (textR_b1 i out e' rec jx1 jx2) (((e'.getD i.toNat zNd).kids).length) 0 jx2).fin (textR_b1_r i out e' rec jx1 jx2)
def textR_k2_s(i:Int)(out:BA)(e':List Nd)(rec:Int→Int→BA→BA)(jx1:Bool)(jx2:BA):S:=mkO 114 120 [(2,.pin 2 (.v (.c (.ptr 116 0)))),(3,.pin 3 (.v (.c (.ptr 117 0)))),(4,.pin 4 (.v (.c (.ptr 119 0)))),(7,.b (.v (.c (.ptr 7 0))))] [(7,.cells (encNd (e'.getD i.toNat zNd))),(116,.cells [.lst 4 e'.length (elM encNd zNd e')]),(117,.tcells 258 [.junk,.row 118 jx2.size]),(118,.row 5 1 (Bld.bytesC jx2)),(119,.pcells [.oclo false 196 [(116,0),(117,0),(119,0)]])]
def textR_k1(i:Int)(out:BA)(e':List Nd)(rec:Int→Int→BA→BA)(jx1:Bool):BA:=
 (bif jx1 then (rec (((e'.getD i.toNat zNd).kids).getD 1 0) (IntKind.i64.wrap ((Exp.strength (e'.getD i.toNat zNd).op)+1)) ((rec (((e'.getD i.toNat zNd).kids).getD 0 0) (Exp.strength (e'.getD i.toNat zNd).op) out)++(((⟨#[32]⟩:BA)++(symF Exp.infixQ ((e'.getD i.toNat zNd).op)))++(⟨#[32]⟩:BA)))) else (bif ((Exp.strength (e'.getD i.toNat zNd).op)==4) then (rec (((e'.getD i.toNat zNd).kids).getD 0 0) 4 (out++(⟨#[45]⟩:BA))) else (bif (((e'.getD i.toNat zNd).op)==1) then textR_k2 i out e' rec jx1 ((out++((e'.getD i.toNat zNd).name))++(itoa ((e'.getD i.toNat zNd).num))) else textR_k2 i out e' rec jx1 (out++((e'.getD i.toNat zNd).name)))))
def textR_k1_s(i:Int)(out:BA)(e':List Nd)(rec:Int→Int→BA→BA)(jx1:Bool):S:=mkO 114 120 [(2,.pin 2 (.v (.c (.ptr 116 0)))),(3,.pin 3 (.v (.c (.ptr 117 0)))),(4,.pin 4 (.v (.c (.ptr 119 0)))),(7,.b (.v (.c (.ptr 7 0)))),(8,.b (.v (vI (Exp.strength (e'.getD i.toNat zNd).op)))),(22,.b (.v (vI (Exp.strength (e'.getD i.toNat zNd).op)))),(80,.b (.v (vB jx1)))] [(7,.cells (encNd (e'.getD i.toNat zNd))),(116,.cells [.lst 4 e'.length (elM encNd zNd e')]),(117,.tcells 258 [.junk,.row 118 out.size]),(118,.row 5 1 (Bld.bytesC out)),(119,.pcells [.oclo false 196 [(116,0),(117,0),(119,0)]])]
def textR(i:Int)(out:BA)(e':List Nd)(rec:Int→Int→BA→BA):BA:=
 (bif ((Exp.strength (e'.getD i.toNat zNd).op)==1) then (rec (((e'.getD i.toNat zNd).kids).getD 1 0) 2 ((rec (((e'.getD i.toNat zNd).kids).getD 0 0) 2 out)++(((⟨#[32]⟩:BA)++(symF Exp.infixQ ((e'.getD i.toNat zNd).op)))++(⟨#[32]⟩:BA)))) else (bif ((Exp.strength (e'.getD i.toNat zNd).op)==2) then textR_k1 i out e' rec ((Exp.strength (e'.getD i.toNat zNd).op)==2) else textR_k1 i out e' rec ((Exp.strength (e'.getD i.toNat zNd).op)==3)))
theorem two_sz{i l0 l1:Int}{out:BA}{e':List Nd}{rec:Int→Int→BA→BA}{N:Nat→Nat}(hX:TCtx e' rec N (e'.getD i.toNat zNd))(h2:2≤(e'.getD i.toNat zNd).kids.length):
  (rec (((e'.getD i.toNat zNd).kids).getD 1 0) l1 ((rec (((e'.getD i.toNat zNd).kids).getD 0 0) l0 out)++(((⟨#[32]⟩:BA)++(symF Exp.infixQ ((e'.getD i.toNat zNd).op)))++(⟨#[32]⟩:BA)))).size≤out.size+12+30000*(N (e'.getD i.toNat zNd).kids.length - N 0):=by
 have hm0:N 0<N 1:=hX.mono 0 om
 have hm1:N 1<N 2:=hX.mono 1 om
 have hm2:=mono_top hX.mono ((e'.getD i.toNat zNd).kids.length - 2) 2 om
 have hn1:=Exp.infix_sz ((e'.getD i.toNat zNd).op)
 have hz0:(rec (((e'.getD i.toNat zNd).kids).getD 0 0) l0 out).size≤out.size+30000*(N 1 - N 0):=hX.size 0 l0 out om
 have hz1:(rec (((e'.getD i.toNat zNd).kids).getD 1 0) l1 ((rec (((e'.getD i.toNat zNd).kids).getD 0 0) l0 out)++(((⟨#[32]⟩:BA)++(symF Exp.infixQ ((e'.getD i.toNat zNd).op)))++(⟨#[32]⟩:BA)))).size≤_+30000*(N 2 - N 1):=hX.size 1 l1 _ om
 simp only [ByteArray.size_append,sz32] at hz1
 omega
theorem k2_sz{i:Int}{out x:BA}{b:Bool}{e':List Nd}{rec:Int→Int→BA→BA}{N:Nat→Nat}(hX:TCtx e' rec N (e'.getD i.toNat zNd))(hx:x.size≤out.size+20030):
  (textR_k2 i out e' rec b x).size≤out.size+25000+30000*(N (e'.getD i.toNat zNd).kids.length - N 0):=by
 have h3:=(st_ar hX.good).2.2.2.2
 have hm4:=mono_le hX.mono _ (Nat.le_refl _)
 have step:∀ (li:Nat) (sep lx:BA),sep.size≤20→li<(e'.getD i.toNat zNd).kids.length→lx.size≤out.size+20100+20*li+30000*(N li - N 0)→(rec (((e'.getD i.toNat zNd).kids).getD li 0) 1 (lx++sep)).size≤out.size+20100+20*(li+1)+30000*(N (li+1) - N 0):=fun li sep lx hs hl hJ=>by
  have h1:=hX.size li 1 (lx++sep) hl
  have hm1:=hX.mono li hl
  have hm2:=mono_le hX.mono li om
  rw [ByteArray.size_append] at h1
  omega
 rw [textR_k2]
 refine runL_inv (bd:=textR_b1 i out e' rec b x) (n:=(e'.getD i.toNat zNd).kids.length) (fun li lx=>lx.size≤out.size+20100+20*li+30000*(N li - N 0)) (fun r=>(r.fin (textR_b1_r i out e' rec b x)).size≤out.size+25000+30000*(N (e'.getD i.toNat zNd).kids.length - N 0)) ?_ ?_ ?_ ?_ _ 0 x om om
 ·intro li lx y hl hJ hb
  rw [textR_b1] at hb
  have hf1:=Exp.functions_sz ((e'.getD i.toNat zNd).op)
  cases hc:((li:Int)==0) with
  | true=>rw [hc] at hb;cases hb;exact step li _ lx (by rw [ByteArray.size_append,sz40];omega) hl hJ
  | false=>rw [hc] at hb;cases hb;exact step li _ lx (by rw [sz44];omega) hl hJ
 ·intro li lx y hl hJ hb
  rw [textR_b1] at hb
  cases hc:((li:Int)==0)<;>rw [hc] at hb<;>cases hb
 ·intro li lx y hl hJ hb
  rw [textR_b1] at hb
  cases hc:((li:Int)==0)<;>rw [hc] at hb<;>cases hb
 ·intro lx hJ
  show (textR_b1_r i out e' rec b x lx).size≤_
  rw [textR_b1_r]
  cases decide ((((e'.getD i.toNat zNd).kids).length:Int)>0) with
  | true=>rw [cond_true,ByteArray.size_append,sz41];omega
  | false=>rw [cond_false];omega
theorem k1_sz{i:Int}{out:BA}{b:Bool}{e':List Nd}{rec:Int→Int→BA→BA}{N:Nat→Nat}(hX:TCtx e' rec N (e'.getD i.toNat zNd))(hb:b=true→2≤(e'.getD i.toNat zNd).kids.length):
  (textR_k1 i out e' rec b).size≤out.size+25000+30000*(N (e'.getD i.toNat zNd).kids.length - N 0):=by
 rw [textR_k1]
 cases b with
 | true =>
  rw [cond_true]
  have:=two_sz (out:=out) (l0:=Exp.strength (e'.getD i.toNat zNd).op) (l1:=IntKind.i64.wrap ((Exp.strength (e'.getD i.toNat zNd).op)+1)) hX (hb rfl)
  omega
 | false =>
  rw [cond_false]
  cases h4:(Exp.strength (e'.getD i.toNat zNd).op)==4 with
  | true =>
   rw [cond_true]
   have hk1:=(st_ar hX.good).2.2.2.1 h4
   have hm0:N 0<N 1:=hX.mono 0 om
   have hm1:=mono_top hX.mono ((e'.getD i.toNat zNd).kids.length - 1) 1 om
   have h1:(rec (((e'.getD i.toNat zNd).kids).getD 0 0) 4 (out++(⟨#[45]⟩:BA))).size≤(out++(⟨#[45]⟩:BA)).size+30000*(N 1 - N 0):=hX.size 0 4 _ om
   rw [ByteArray.size_append,sz45] at h1
   omega
  | false =>
   rw [cond_false]
   have hnz:=name_sz hX.good
   cases h5:((e'.getD i.toNat zNd).op)==1 with
   | true =>
    rw [cond_true]
    have hz1:(itoa ((e'.getD i.toNat zNd).num)).size≤20:=itoa_sz (Exp.formed_num hX.good h5).1 (Exp.formed_num hX.good h5).2
    exact k2_sz hX (by simp only [ByteArray.size_append];omega)
   | false =>
    rw [cond_false]
    exact k2_sz hX (by simp only [ByteArray.size_append];omega)
theorem textR_sz{i:Int}{out:BA}{e':List Nd}{rec:Int→Int→BA→BA}{N:Nat→Nat}(hX:TCtx e' rec N (e'.getD i.toNat zNd)):
  (textR i out e' rec).size≤out.size+25000+30000*(N (e'.getD i.toNat zNd).kids.length - N 0):=by
 have ha:=st_ar hX.good
 rw [textR]
 cases h1:(Exp.strength (e'.getD i.toNat zNd).op)==1 with
 | true=>rw [cond_true];have:=two_sz (out:=out) (l0:=2) (l1:=2) hX (ha.1 h1);omega
 | false =>
  rw [cond_false]
  cases h2:(Exp.strength (e'.getD i.toNat zNd).op)==2 with
  | true=>rw [cond_true];exact k1_sz hX (fun _=>ha.2.1 h2)
  | false=>rw [cond_false];exact k1_sz hX (fun h=>ha.2.2.1 h)
def textB(i least:Int)(out:BA)(e':List Nd)(rec:Int→Int→BA→BA):BA:=
 bif decide (Exp.strength (e'.getD i.toNat zNd).op<least) then textR i (out++(⟨#[40]⟩:BA)) e' rec++(⟨#[41]⟩:BA) else textR i out e' rec
def textQ(i:Int)(out:BA)(e':List Nd)(rec:Int→Int→BA→BA)(ex:Exit)(s:S):Prop:=(ex=.ret∨ex=.normal)∧Wk Tryz.prog s (txtE e' (textR i out e' rec))
theorem textQ_i{i:Int}{out x:BA}{e':List Nd}{rec:Int→Int→BA→BA}{ex:Exit}{s:S}(h:ex=.ret∨ex=.normal)(hx:textR i out e' rec=x)(hw:Wk Tryz.prog s (txtE e' x)):textQ i out e' rec ex s:=⟨h,by rw [hx];exact hw⟩
def txtS(i:Int)(out:BA)(e':List Nd):S:=mkO 114 120 [(2,.pin 2 (.v (.c (.ptr 116 0)))),(3,.pin 3 (.v (.c (.ptr 117 0)))),(4,.pin 4 (.v (.c (.ptr 119 0)))),(7,.b (.v (.c (.ptr 7 0)))),(8,.b (.v (vI (Exp.strength (e'.getD i.toNat zNd).op))))] ((7,.cells (encNd (e'.getD i.toNat zNd))) :: tM e' out)
def txtP(i least:Int)(out:BA)(e':List Nd):S:=mkO 114 120 [(2,.pin 2 (.v (.c (.ptr 116 0)))),(3,.pin 3 (.v (.c (.ptr 117 0)))),(4,.pin 4 (.v (.c (.ptr 119 0)))),(7,.b (.v (.c (.ptr 7 0)))),(8,.b (.v (vI (Exp.strength (e'.getD i.toNat zNd).op)))),(20,.b (.v (vB (decide (Exp.strength (e'.getD i.toNat zNd).op<least)))))] ((7,.cells (encNd (e'.getD i.toNat zNd))) :: tM e' out)
set_option maxRecDepth 100000 in
set_option maxHeartbeats 4000000 in
theorem textB_c {i least:Int} {out:BA} {e':List Nd} {rec:Int→Int→BA→BA} {N:Nat→Nat} (h0:0≤i∧i<(e'.length:Int)) (hX:TCtx e' rec N (e'.getD i.toNat zNd))
  (hroom0:out.size+30000*(N (e'.getD i.toNat zNd).kids.length - N 0)+30000≤100000000):TOwn e' i least out (textB i least out e' rec):=by
 refine fown_raw 120 Tryz.func196 rfl kr ⟨kr,kr,kr,kr,kr,kr,kr⟩ (fun n o hh h=>by
  simp only [tM,List.mem_cons,Prod.mk.injEq,List.not_mem_nil,or_false] at h
  rcases h with ⟨rfl,rfl⟩ | ⟨rfl,rfl⟩ | ⟨rfl,rfl⟩ | ⟨rfl,rfl⟩<;>first | rfl | exact absurd hh (by decide)) kr (fun E0 w vs B0 E a hx htl hs=>?_)
 refine wpL_split 3 ?_
 refine wpL_part (Q:=fun ex s'=>ex=.normal∧Wk Tryz.prog s' (txtP i least out e')) hx.nr ?_ hs ?_ ?_
 ·refine uq [] [@pu (0≤i∧i<(e'.length:Int)) h0] ?_
  have cc1:=Exp.strength_c ((e'.getD i.toNat zNd).op)
  refine us 2 cc1 ?_
  refine u0 ?_
  exact run_nil ⟨rfl,wkTo [2,3,4,7,8,20] [] kr⟩
 ·rintro s' E' a' w' ⟨_,hwk⟩ hs'
  obtain ⟨E1,hs1⟩:=sim_wk hs' hwk
  have hb:a'.eval (.tmp 20)=.bool (decide (Exp.strength (e'.getD i.toNat zNd).op<least)):=by
   have h1:RelK E1.K (.bool (decide (Exp.strength (e'.getD i.toNat zNd).op<least))) (a'.tmps.getD 20 undef):=(hs1.slot 20 (.b (.v (vB (decide (Exp.strength (e'.getD i.toNat zNd).op<least))))) kr).1
   show a'.tmps.getD 20 undef=_
   generalize a'.tmps.getD 20 undef=u at h1
   cases h1;rfl
  refine wpL_cond _ hb (fun hl=>?_) (fun hl=>?_)
  ·have hT:textB i least out e' rec=textR i (out++(⟨#[40]⟩:BA)) e' rec++(⟨#[41]⟩:BA):=by rw [textB,hl];rfl
   rw [hT] at hx ⊢
   have hroom:(out++(⟨#[40]⟩:BA)).size+30000*(N (e'.getD i.toNat zNd).kids.length - N 0)+29000≤100000000:=by rw [ByteArray.size_append,sz40];omega
   have hR1:=textR_sz (out:=out++(⟨#[40]⟩:BA)) hX
   refine wpL_flat ?_
   refine wpL_split 1 ?_
   refine wpL_part (Q:=fun ex s'=>ex=.normal∧Wk Tryz.prog s' (txtS i (out++(⟨#[40]⟩:BA)) e')) hx.nr ?_ hs1 ?_ ?_
   ·refine uq [(0,.own [117,118] [118] (Bld.wsR (⟨#[40]⟩:BA)) (Bld.mB 117 118 (out++(⟨#[40]⟩:BA))))] [pu (Bld.ws_c 117 118 out (⟨#[40]⟩:BA) (by decide) (by rw [sz40];omega))] ?_
    exact run_nil ⟨rfl,wkTo [2,3,4,7,8] [] kr⟩
   ·rintro s2 E2 a2 w2 ⟨_,hwk2⟩ hs2
    obtain ⟨E3,hs3⟩:=sim_wk hs2 hwk2
    refine wpL_deferN (f:=.func 198) (args:=#[.tmp 3,.const (.string (⟨#[41]⟩:BA))]) hx.nr (asks_nil kr) kr hs3 (fun E4 a4 w4 hs4=>?_)
    refine ⟨.func 198,#[],#[],rfl,?_⟩
    generalize hout2:out++(⟨#[40]⟩:BA)=out2 at *
    obtain ⟨E5,hs5⟩:=sim_wk (sim_tl hs4 hx.fn { target:=.fn (.func 198) #[],args:=#[]++Array.map a4.eval #[.tmp 3,.const (.string (⟨#[41]⟩:BA))] }) (s':=txtS i out2 e') (wkTo [2,3,4,7,8] [] kr)
    have hx3:=hx.defer { target:=.fn (.func 198) #[],args:=#[]++Array.map a4.eval #[.tmp 3,.const (.string (⟨#[41]⟩:BA))] }
    have hp4:a4.tmps.getD 3 undef=E4.c.fix 3:=(hs4.slot 3 (.pin 3 (.v (.c (.ptr 117 0)))) kr).2
    refine wpL_of_run (Q:=textQ i out2 e' rec) hx3.nr ?_ ?_ hs5
    ·rintro ex s6 E6 a6 w6 ⟨h1,hwk6⟩ hs6
     obtain ⟨E7,hs7⟩:=sim_wk hs6 hwk6
     have hd:a6.defers=[{ target:=.fn (.func 198) #[],args:=#[]++Array.map a4.eval #[.tmp 3,.const (.string (⟨#[41]⟩:BA))] }]:=by
      have h2:=hs6.defers
      rw [hs6.core.no_ds hx3.fn] at h2
      rw [h2]
      show List.map markOf []++(_ :: B0.tl)=_
      rw [htl];rfl
     have hp7:RelSB E7 (.v (.c (.ptr 117 0))) (a6.tmps.getD 3 undef)∧a6.tmps.getD 3 undef=E7.c.fix 3:=hs7.slot 3 (.pin 3 (.v (.c (.ptr 117 0)))) kr
     have hfx:a4.tmps.getD 3 undef=a6.tmps.getD 3 undef:=by
      rw [hp4,hp7.2]
      have e1:E4.c.fix=B0.fix:=hs4.core.y.2.2.2
      have e2:E7.c.fix=B0.fix:=hs7.core.y.2.2.2
      rw [e1,e2]
     have hfin:LeavesInM (FB none) 0 Tryz.prog Tryz.f196 a6.tmps (OwnR [118] E0 (tM e' (textR i out2 e' rec++(⟨#[41]⟩:BA))) w (.tup [])) [{ target:=.fn (.func 198) #[],args:=#[]++Array.map a4.eval #[.tmp 3,.const (.string (⟨#[41]⟩:BA))] }] .returning w6:=by
      refine leave_defer (ns:=[117,118]) hs7 kr kr kr kr (Bld.ws_d 117 118 (textR i out2 e' rec) (⟨#[41]⟩:BA) (by decide) (by rw [sz41];omega)) (by simp) (fun j hj=>?_) (fun E8 w8 hs8 hc8=>?_)
      ·match j,hj with
       | 0,_ =>
        have:(#[]++Array.map a4.eval #[.tmp 3,.const (.string (⟨#[41]⟩:BA))]++#[]).getD 0 undef=a6.tmps.getD 3 undef:=by rw [← hfx];simp only [Array.empty_append,Array.append_empty,List.map_toArray,List.map_cons,List.map_nil];rfl
        rw [this]
        exact hp7.1
       | 1,_ =>
        have:(#[]++Array.map a4.eval #[.tmp 3,.const (.string (⟨#[41]⟩:BA))]++#[]).getD 1 undef=.string (⟨#[41]⟩:BA):=by simp only [Array.empty_append,Array.append_empty,List.map_toArray,List.map_cons,List.map_nil];rfl
        rw [this]
        exact ⟨RelK.str (⟨#[41]⟩:BA) (by decide),rfl⟩
      ·exact own_done (e:=.normal) hx3 hs8 (ownEnds (.inr rfl) kr ⟨kr,.inr ⟨2,wit_box 2 0 0 kr kr kr⟩,kr,.inr ⟨3,wit_box 3 0 0 kr kr kr⟩,kr,.inl rfl,kr,.inr ⟨4,wit_box 4 0 0 kr kr kr⟩,trivial⟩)
     rcases h1 with rfl | rfl<;>(show LeavesInM _ _ _ _ _ _ _ _ _;rw [hd];exact hfin)
    ·clear hR1 hroom0
     have ee0:=textR.eq_1 i out2 e' rec
     refine u0 ?_
     refine rBlock ?_
     refine u0 ?_
     refine ud ee0 (fun hh1 ee1=>?_) (fun hh1 ee2=>?_)
     ·have ha:=st_ar hX.good
      have hr:=hroom
      have hk2:2≤(e'.getD i.toNat zNd).kids.length:=by first | exact ha.1 (by assumption) | exact hJK (by assumption)
      have hs32:=sz32
      have hm0:N 0<N 1:=hX.mono 0 om
      have hm1:N 1<N 2:=hX.mono 1 om
      have hm2:=mono_top hX.mono ((e'.getD i.toNat zNd).kids.length - 2) 2 om
      have hn1:=Exp.infix_sz ((e'.getD i.toNat zNd).op)
      have hs33:((⟨#[32]⟩:BA)++(symF Exp.infixQ ((e'.getD i.toNat zNd).op))).size≤11:=by rw [ByteArray.size_append,sz32];omega
      refine uq [(5,.own [116,117,118,119] [118] (.tup []) (tM e' (rec (((e'.getD i.toNat zNd).kids).getD 0 0) 2 out2)))] [ub 0 ((e'.getD i.toNat zNd).kids).length,pu (hX.own 0 2 out2 om (by show (_:BA).size+30000*(N 1 - N 0)≤100000000;first | omega | (simp only [ByteArray.size_append,sz32,sz40,sz41,sz45,sz44];omega)))] ?_
      have hz0:(rec (((e'.getD i.toNat zNd).kids).getD 0 0) 2 out2).size≤out2.size+30000*(N 1 - N 0):=hX.size 0 2 out2 om
      have cc1:=Exp.infixQ_c
      have cc2:=Exp.symbol_c Exp.infixQ ((e'.getD i.toNat zNd).op) (by first | exact Exp.infix_nd | exact Exp.functions_nd)
      refine uq [(0,hcon cc1),(3,hcon cc2),(6,.own [117,118] [118] (Bld.wsR (((⟨#[32]⟩:BA)++(symF Exp.infixQ ((e'.getD i.toNat zNd).op)))++(⟨#[32]⟩:BA))) (Bld.mB 117 118 ((rec (((e'.getD i.toNat zNd).kids).getD 0 0) 2 out2)++(((⟨#[32]⟩:BA)++(symF Exp.infixQ ((e'.getD i.toNat zNd).op)))++(⟨#[32]⟩:BA)))))] [pu cc1,pu cc2,uo ((((⟨#[32]⟩:BA).size+(symF Exp.infixQ ((e'.getD i.toNat zNd).op)).size:Nat):Int)≤9223372036854775807),uo (((((⟨#[32]⟩:BA)++(symF Exp.infixQ ((e'.getD i.toNat zNd).op))).size+(⟨#[32]⟩:BA).size:Nat):Int)≤9223372036854775807),pu (Bld.ws_c 117 118 (rec (((e'.getD i.toNat zNd).kids).getD 0 0) 2 out2) (((⟨#[32]⟩:BA)++(symF Exp.infixQ ((e'.getD i.toNat zNd).op)))++(⟨#[32]⟩:BA)) (by decide) (by first | omega | (simp only [ByteArray.size_append,sz32,sz40,sz41,sz45,sz44];omega)))] ?_
      have hz1:((rec (((e'.getD i.toNat zNd).kids).getD 0 0) 2 out2)++(((⟨#[32]⟩:BA)++(symF Exp.infixQ ((e'.getD i.toNat zNd).op)))++(⟨#[32]⟩:BA))).size≤out2.size+30000*(N 1 - N 0)+12:=by simp only [ByteArray.size_append,sz32];omega
      refine uq [(5,.own [116,117,118,119] [118] (.tup []) (tM e' (rec (((e'.getD i.toNat zNd).kids).getD 1 0) 2 ((rec (((e'.getD i.toNat zNd).kids).getD 0 0) 2 out2)++(((⟨#[32]⟩:BA)++(symF Exp.infixQ ((e'.getD i.toNat zNd).op)))++(⟨#[32]⟩:BA))))))] [ub 1 ((e'.getD i.toNat zNd).kids).length,pu (hX.own 1 2 ((rec (((e'.getD i.toNat zNd).kids).getD 0 0) 2 out2)++(((⟨#[32]⟩:BA)++(symF Exp.infixQ ((e'.getD i.toNat zNd).op)))++(⟨#[32]⟩:BA))) om (by show (_:BA).size+30000*(N 2 - N 1)≤100000000;first | omega | (simp only [ByteArray.size_append,sz32,sz40,sz41,sz45,sz44];omega)))] ?_
      refine run_nil (blockR_normal ?_)
      exact run_nil (textQ_i (x:=(rec (((e'.getD i.toNat zNd).kids).getD 1 0) 2 ((rec (((e'.getD i.toNat zNd).kids).getD 0 0) 2 out2)++(((⟨#[32]⟩:BA)++(symF Exp.infixQ ((e'.getD i.toNat zNd).op)))++(⟨#[32]⟩:BA))))) (.inr rfl) (by rw [ee1]) (wkTo [2,3,4] [7] kr))
     ·refine u0 ?_
      refine rJoin (textR_k1_s i out2 e' rec) (fun jx1=>textR i out2 e' rec=textR_k1 i out2 e' rec jx1∧(jx1=true→2≤(e'.getD i.toNat zNd).kids.length)) nofun ?_ (fun jx1 ⟨ee3,hK1⟩=>?_)
      ·refine ud ee2 (fun hh7 ee17=>?_) (fun hh7 ee18=>?_)
       ·exact run_nil (.inl ⟨rfl,((Exp.strength (e'.getD i.toNat zNd).op)==2),⟨ee17,fun hq=>(by have ha:=st_ar hX.good;first | exact ha.2.1 hq | exact ha.2.2.1 hq)⟩,wkTo [2,3,4,7,8,22,80] [] kr⟩)
       ·refine u0 ?_
        exact run_nil (.inl ⟨rfl,((Exp.strength (e'.getD i.toNat zNd).op)==3),⟨ee18,fun hq=>(by have ha:=st_ar hX.good;first | exact ha.2.1 hq | exact ha.2.2.1 hq)⟩,wkTo [2,3,4,7,8,22,80] [] kr⟩)
      ·replace ee3:=ee3.trans (textR_k1.eq_1 i out2 e' rec jx1)
       refine ud ee3 (fun hh2 ee4=>?_) (fun hh2 ee5=>?_)
       ·have ha:=st_ar hX.good
        have hr:=hroom
        have hk2:2≤(e'.getD i.toNat zNd).kids.length:=by first | exact hK1 (by assumption)
        have hs32:=sz32
        have hm0:N 0<N 1:=hX.mono 0 om
        have hm1:N 1<N 2:=hX.mono 1 om
        have hm2:=mono_top hX.mono ((e'.getD i.toNat zNd).kids.length - 2) 2 om
        have hn1:=Exp.infix_sz ((e'.getD i.toNat zNd).op)
        have hs33:((⟨#[32]⟩:BA)++(symF Exp.infixQ ((e'.getD i.toNat zNd).op))).size≤11:=by rw [ByteArray.size_append,sz32];omega
        refine uq [(6,.own [116,117,118,119] [118] (.tup []) (tM e' (rec (((e'.getD i.toNat zNd).kids).getD 0 0) (Exp.strength (e'.getD i.toNat zNd).op) out2)))] [ub 0 ((e'.getD i.toNat zNd).kids).length,pu (hX.own 0 (Exp.strength (e'.getD i.toNat zNd).op) out2 om (by show (_:BA).size+30000*(N 1 - N 0)≤100000000;first | omega | (simp only [ByteArray.size_append,sz32,sz40,sz41,sz45,sz44];omega)))] ?_
        have hz0:(rec (((e'.getD i.toNat zNd).kids).getD 0 0) (Exp.strength (e'.getD i.toNat zNd).op) out2).size≤out2.size+30000*(N 1 - N 0):=hX.size 0 (Exp.strength (e'.getD i.toNat zNd).op) out2 om
        have cc3:=Exp.infixQ_c
        have cc4:=Exp.symbol_c Exp.infixQ ((e'.getD i.toNat zNd).op) (by first | exact Exp.infix_nd | exact Exp.functions_nd)
        refine uq [(0,hcon cc3),(3,hcon cc4),(6,.own [117,118] [118] (Bld.wsR (((⟨#[32]⟩:BA)++(symF Exp.infixQ ((e'.getD i.toNat zNd).op)))++(⟨#[32]⟩:BA))) (Bld.mB 117 118 ((rec (((e'.getD i.toNat zNd).kids).getD 0 0) (Exp.strength (e'.getD i.toNat zNd).op) out2)++(((⟨#[32]⟩:BA)++(symF Exp.infixQ ((e'.getD i.toNat zNd).op)))++(⟨#[32]⟩:BA)))))] [pu cc3,pu cc4,uo ((((⟨#[32]⟩:BA).size+(symF Exp.infixQ ((e'.getD i.toNat zNd).op)).size:Nat):Int)≤9223372036854775807),uo (((((⟨#[32]⟩:BA)++(symF Exp.infixQ ((e'.getD i.toNat zNd).op))).size+(⟨#[32]⟩:BA).size:Nat):Int)≤9223372036854775807),pu (Bld.ws_c 117 118 (rec (((e'.getD i.toNat zNd).kids).getD 0 0) (Exp.strength (e'.getD i.toNat zNd).op) out2) (((⟨#[32]⟩:BA)++(symF Exp.infixQ ((e'.getD i.toNat zNd).op)))++(⟨#[32]⟩:BA)) (by decide) (by first | omega | (simp only [ByteArray.size_append,sz32,sz40,sz41,sz45,sz44];omega)))] ?_
        have hz1:((rec (((e'.getD i.toNat zNd).kids).getD 0 0) (Exp.strength (e'.getD i.toNat zNd).op) out2)++(((⟨#[32]⟩:BA)++(symF Exp.infixQ ((e'.getD i.toNat zNd).op)))++(⟨#[32]⟩:BA))).size≤out2.size+30000*(N 1 - N 0)+12:=by simp only [ByteArray.size_append,sz32];omega
        refine uq [(7,.own [116,117,118,119] [118] (.tup []) (tM e' (rec (((e'.getD i.toNat zNd).kids).getD 1 0) (IntKind.i64.wrap ((Exp.strength (e'.getD i.toNat zNd).op)+1)) ((rec (((e'.getD i.toNat zNd).kids).getD 0 0) (Exp.strength (e'.getD i.toNat zNd).op) out2)++(((⟨#[32]⟩:BA)++(symF Exp.infixQ ((e'.getD i.toNat zNd).op)))++(⟨#[32]⟩:BA))))))] [ub 1 ((e'.getD i.toNat zNd).kids).length,pu (hX.own 1 (IntKind.i64.wrap ((Exp.strength (e'.getD i.toNat zNd).op)+1)) ((rec (((e'.getD i.toNat zNd).kids).getD 0 0) (Exp.strength (e'.getD i.toNat zNd).op) out2)++(((⟨#[32]⟩:BA)++(symF Exp.infixQ ((e'.getD i.toNat zNd).op)))++(⟨#[32]⟩:BA))) om (by show (_:BA).size+30000*(N 2 - N 1)≤100000000;first | omega | (simp only [ByteArray.size_append,sz32,sz40,sz41,sz45,sz44];omega)))] ?_
        refine run_nil (blockR_normal ?_)
        exact run_nil (textQ_i (x:=(rec (((e'.getD i.toNat zNd).kids).getD 1 0) (IntKind.i64.wrap ((Exp.strength (e'.getD i.toNat zNd).op)+1)) ((rec (((e'.getD i.toNat zNd).kids).getD 0 0) (Exp.strength (e'.getD i.toNat zNd).op) out2)++(((⟨#[32]⟩:BA)++(symF Exp.infixQ ((e'.getD i.toNat zNd).op)))++(⟨#[32]⟩:BA))))) (.inr rfl) (by rw [ee4]) (wkTo [2,3,4] [7] kr))
       ·refine u0 ?_
        refine ud ee5 (fun hh3 ee6=>?_) (fun hh3 ee7=>?_)
        ·have ha:=st_ar hX.good
         have hr:=hroom
         have hk1:1≤(e'.getD i.toNat zNd).kids.length:=ha.2.2.2.1 (by assumption)
         have hm0:N 0<N 1:=hX.mono 0 om
         have hm1:=mono_top hX.mono ((e'.getD i.toNat zNd).kids.length - 1) 1 om
         refine uq [(0,.own [117,118] [118] (Bld.wsR (⟨#[45]⟩:BA)) (Bld.mB 117 118 (out2++(⟨#[45]⟩:BA))))] [pu (Bld.ws_c 117 118 out2 (⟨#[45]⟩:BA) (by decide) (by first | omega | (simp only [ByteArray.size_append,sz32,sz40,sz41,sz45,sz44];omega)))] ?_
         refine uq [(5,.own [116,117,118,119] [118] (.tup []) (tM e' (rec (((e'.getD i.toNat zNd).kids).getD 0 0) 4 (out2++(⟨#[45]⟩:BA)))))] [ub 0 ((e'.getD i.toNat zNd).kids).length,pu (hX.own 0 4 (out2++(⟨#[45]⟩:BA)) om (by show (_:BA).size+30000*(N 1 - N 0)≤100000000;first | omega | (simp only [ByteArray.size_append,sz32,sz40,sz41,sz45,sz44];omega)))] ?_
         refine run_nil (blockR_normal ?_)
         exact run_nil (textQ_i (x:=(rec (((e'.getD i.toNat zNd).kids).getD 0 0) 4 (out2++(⟨#[45]⟩:BA)))) (.inr rfl) (by rw [ee6]) (wkTo [2,3,4] [7] kr))
        ·have ha:=st_ar hX.good
         have hr:=hroom
         have hnz:=name_sz hX.good
         refine uq [(2,.own [117,118] [118] (Bld.wsR ((e'.getD i.toNat zNd).name)) (Bld.mB 117 118 (out2++((e'.getD i.toNat zNd).name))))] [pu (Bld.ws_c 117 118 out2 ((e'.getD i.toNat zNd).name) (by decide) (by first | omega | (simp only [ByteArray.size_append,sz32,sz40,sz41,sz45,sz44];omega)))] ?_
         refine u0 ?_
         refine rJoin (textR_k2_s i out2 e' rec jx1) (fun jx2=>textR i out2 e' rec=textR_k2 i out2 e' rec jx1 jx2∧(jx2.size≤out2.size+20030)) nofun ?_ (fun jx2 ⟨ee8,hK2⟩=>?_)
         ·refine ud ee7 (fun hh6 ee15=>?_) (fun hh6 ee16=>?_)
          ·have hz1:(itoa ((e'.getD i.toNat zNd).num)).size≤20:=itoa_sz (Exp.formed_num hX.good (by assumption)).1 (Exp.formed_num hX.good (by assumption)).2
           have cc7:=itoa_c ((e'.getD i.toNat zNd).num) (by exact (Exp.formed_num hX.good (by assumption)).1) (by exact (Exp.formed_num hX.good (by assumption)).2)
           refine uq [(2,hcon cc7),(3,.own [117,118] [118] (Bld.wsR (itoa ((e'.getD i.toNat zNd).num))) (Bld.mB 117 118 ((out2++((e'.getD i.toNat zNd).name))++(itoa ((e'.getD i.toNat zNd).num)))))] [pu cc7,pu (Bld.ws_c 117 118 (out2++((e'.getD i.toNat zNd).name)) (itoa ((e'.getD i.toNat zNd).num)) (by decide) (by first | omega | (simp only [ByteArray.size_append,sz32,sz40,sz41,sz45,sz44];omega)))] ?_
           exact run_nil (.inl ⟨rfl,((out2++((e'.getD i.toNat zNd).name))++(itoa ((e'.getD i.toNat zNd).num))),⟨ee15,by first | (have hz1:=itoa_sz (Exp.formed_num hX.good (by assumption)).1 (Exp.formed_num hX.good (by assumption)).2;simp only [ByteArray.size_append];have hz2:(itoa ((e'.getD i.toNat zNd).num)).size≤20:=hz1;omega) | (simp only [ByteArray.size_append];omega)⟩,wkTo [2,3,4,7] [] kr⟩)
          ·exact run_nil (.inl ⟨rfl,(out2++((e'.getD i.toNat zNd).name)),⟨ee16,by first | (have hz1:=itoa_sz (Exp.formed_num hX.good (by assumption)).1 (Exp.formed_num hX.good (by assumption)).2;simp only [ByteArray.size_append];have hz2:(itoa ((e'.getD i.toNat zNd).num)).size≤20:=hz1;omega) | (simp only [ByteArray.size_append];omega)⟩,wkTo [2,3,4,7] [] kr⟩)
         ·replace ee8:=ee8.trans (textR_k2.eq_1 i out2 e' rec jx1 jx2)
          refine u0 ?_
          refine uS 34 1 (((e'.getD i.toNat zNd).kids).length) (elM Sym.encI 0 ((e'.getD i.toNat zNd).kids)) (fun hL1=>?_)
          refine uF (((e'.getD i.toNat zNd).kids).length) (textR_b1_s i out2 e' rec jx1 jx2) (textR_b1 i out2 e' rec jx1 jx2) (fun li1 lx1=>lx1.size≤out2.size+20100+20*li1+30000*(N li1 - N 0)) jx2 rfl [2,3,4,7,34,35,36] [] (by have:=hK2;omega) (fun li1 lx1 hi1 hJ1 hr1=>?_) (fun lx1 hJ1 hr1=>?_)
          ·have ee12:=textR_b1.eq_1 i out2 e' rec jx1 jx2 li1 lx1
           have hs40:=sz40
           have hm1:=hX.mono li1 hi1
           have hm2:=mono_le hX.mono li1 om
           have hm3:=mono_top hX.mono ((e'.getD i.toNat zNd).kids.length - (li1+1)) (li1+1) om
           have hf1:=Exp.functions_sz ((e'.getD i.toNat zNd).op)
           refine uq [] [ub (li1:Int) ((e'.getD i.toNat zNd).kids).length] ?_
           refine u0 ?_
           refine ud ee12 (fun hh5 ee13=>?_) (fun hh5 ee14=>?_)
           ·have cc5:=Exp.functions_c
            have cc6:=Exp.symbol_c Exp.functions ((e'.getD i.toNat zNd).op) (by first | exact Exp.infix_nd | exact Exp.functions_nd)
            refine uq [(0,hcon cc5),(3,hcon cc6),(5,.own [117,118] [118] (Bld.wsR ((symF Exp.functions ((e'.getD i.toNat zNd).op))++(⟨#[40]⟩:BA))) (Bld.mB 117 118 (lx1++((symF Exp.functions ((e'.getD i.toNat zNd).op))++(⟨#[40]⟩:BA)))))] [pu cc5,pu cc6,uo ((((symF Exp.functions ((e'.getD i.toNat zNd).op)).size+(⟨#[40]⟩:BA).size:Nat):Int)≤9223372036854775807),pu (Bld.ws_c 117 118 lx1 ((symF Exp.functions ((e'.getD i.toNat zNd).op))++(⟨#[40]⟩:BA)) (by decide) (by first | omega | (simp only [ByteArray.size_append,sz32,sz40,sz41,sz45,sz44];omega)))] ?_
            refine uq [(2,.own [116,117,118,119] [118] (.tup []) (tM e' (rec (((e'.getD i.toNat zNd).kids).getD li1 0) 1 (lx1++((symF Exp.functions ((e'.getD i.toNat zNd).op))++(⟨#[40]⟩:BA))))))] [pu (hX.own li1 1 (lx1++((symF Exp.functions ((e'.getD i.toNat zNd).op))++(⟨#[40]⟩:BA))) om (by first | omega | (simp only [ByteArray.size_append,sz32,sz40,sz41,sz45,sz44];omega)))] ?_
            exact run_nil (uN (textR_b1_s i out2 e' rec jx1 jx2) (rec (((e'.getD i.toNat zNd).kids).getD li1 0) 1 (lx1++((symF Exp.functions ((e'.getD i.toNat zNd).op))++(⟨#[40]⟩:BA)))) hi1 [2,3,4,7,34,35,36] [] ((by have h1:=hX.size li1 1 (lx1++(⟨#[44,32]⟩:BA)) hi1;have h2:=hX.size li1 1 (lx1++((symF Exp.functions ((e'.getD i.toNat zNd).op))++(⟨#[40]⟩:BA))) hi1;simp only [ByteArray.size_append,sz40,sz44] at h1 h2;omega)) ee13)
           ·refine uq [(0,.own [117,118] [118] (Bld.wsR (⟨#[44,32]⟩:BA)) (Bld.mB 117 118 (lx1++(⟨#[44,32]⟩:BA))))] [pu (Bld.ws_c 117 118 lx1 (⟨#[44,32]⟩:BA) (by decide) (by first | omega | (simp only [ByteArray.size_append,sz32,sz40,sz41,sz45,sz44];omega)))] ?_
            refine uq [(2,.own [116,117,118,119] [118] (.tup []) (tM e' (rec (((e'.getD i.toNat zNd).kids).getD li1 0) 1 (lx1++(⟨#[44,32]⟩:BA)))))] [pu (hX.own li1 1 (lx1++(⟨#[44,32]⟩:BA)) om (by first | omega | (simp only [ByteArray.size_append,sz32,sz40,sz41,sz45,sz44];omega)))] ?_
            exact run_nil (uN (textR_b1_s i out2 e' rec jx1 jx2) (rec (((e'.getD i.toNat zNd).kids).getD li1 0) 1 (lx1++(⟨#[44,32]⟩:BA))) hi1 [2,3,4,7,34,35,36] [] ((by have h1:=hX.size li1 1 (lx1++(⟨#[44,32]⟩:BA)) hi1;have h2:=hX.size li1 1 (lx1++((symF Exp.functions ((e'.getD i.toNat zNd).op))++(⟨#[40]⟩:BA))) hi1;simp only [ByteArray.size_append,sz40,sz44] at h1 h2;omega)) ee14)
          ·have ee9:=(fin_nx ee8 hr1).trans (textR_b1_r.eq_1 i out2 e' rec jx1 jx2 lx1)
           have hm4:=mono_le hX.mono _ (Nat.le_refl _)
           refine u0 ?_
           refine ud ee9 (fun hh4 ee10=>?_) (fun hh4 ee11=>?_)
           ·refine uq [(0,.own [117,118] [118] (Bld.wsR (⟨#[41]⟩:BA)) (Bld.mB 117 118 (lx1++(⟨#[41]⟩:BA))))] [pu (Bld.ws_c 117 118 lx1 (⟨#[41]⟩:BA) (by decide) (by first | omega | (simp only [ByteArray.size_append,sz32,sz40,sz41,sz45,sz44];omega)))] ?_
            refine run_nil (blockR_normal ?_)
            exact run_nil (textQ_i (x:=(lx1++(⟨#[41]⟩:BA))) (.inr rfl) (by rw [ee10]) (wkTo [2,3,4] [7] kr))
           ·refine run_nil (blockR_normal ?_)
            exact run_nil (textQ_i (x:=lx1) (.inr rfl) (by rw [ee11]) (wkTo [2,3,4] [7] kr))
   ·rintro ex s' E' a' w' hne ⟨rfl,_⟩ _
    exact absurd rfl hne
  ·have hT:textB i least out e' rec=textR i out e' rec:=by rw [textB,hl];rfl
   rw [hT] at hx ⊢
   have hroom:out.size+30000*(N (e'.getD i.toNat zNd).kids.length - N 0)+29000≤100000000:=by omega
   refine wpL_flat ?_
   refine wpL_of_run (Q:=textQ i out e' rec) hx.nr ?_ ?_ hs1
   ·rintro ex s6 E6 a6 w6 ⟨h1,hwk6⟩ hs6
    obtain ⟨E7,hs7⟩:=sim_wk hs6 hwk6
    have hd:a6.defers=[]:=by rw [hs6.defers,hs6.core.no_ds hx.fn,htl];rfl
    have:=own_done (e:=.normal) (fn:=Tryz.f196) hx hs7 (ownEnds (.inr rfl) kr ⟨kr,.inr ⟨2,wit_box 2 0 0 kr kr kr⟩,kr,.inr ⟨3,wit_box 3 0 0 kr kr kr⟩,kr,.inl rfl,kr,.inr ⟨4,wit_box 4 0 0 kr kr kr⟩,trivial⟩)
    rcases h1 with rfl | rfl<;>(show LeavesInM _ _ _ _ _ _ _ _ _;rw [hd];exact this)
   clear hroom0
   have ee0:=textR.eq_1 i out e' rec
   refine u0 ?_
   refine rBlock ?_
   refine u0 ?_
   refine ud ee0 (fun hh1 ee1=>?_) (fun hh1 ee2=>?_)
   ·have ha:=st_ar hX.good
    have hr:=hroom
    have hk2:2≤(e'.getD i.toNat zNd).kids.length:=by first | exact ha.1 (by assumption) | exact hJK (by assumption)
    have hs32:=sz32
    have hm0:N 0<N 1:=hX.mono 0 om
    have hm1:N 1<N 2:=hX.mono 1 om
    have hm2:=mono_top hX.mono ((e'.getD i.toNat zNd).kids.length - 2) 2 om
    have hn1:=Exp.infix_sz ((e'.getD i.toNat zNd).op)
    have hs33:((⟨#[32]⟩:BA)++(symF Exp.infixQ ((e'.getD i.toNat zNd).op))).size≤11:=by rw [ByteArray.size_append,sz32];omega
    refine uq [(5,.own [116,117,118,119] [118] (.tup []) (tM e' (rec (((e'.getD i.toNat zNd).kids).getD 0 0) 2 out)))] [ub 0 ((e'.getD i.toNat zNd).kids).length,pu (hX.own 0 2 out om (by show (_:BA).size+30000*(N 1 - N 0)≤100000000;first | omega | (simp only [ByteArray.size_append,sz32,sz40,sz41,sz45,sz44];omega)))] ?_
    have hz0:(rec (((e'.getD i.toNat zNd).kids).getD 0 0) 2 out).size≤out.size+30000*(N 1 - N 0):=hX.size 0 2 out om
    have cc1:=Exp.infixQ_c
    have cc2:=Exp.symbol_c Exp.infixQ ((e'.getD i.toNat zNd).op) (by first | exact Exp.infix_nd | exact Exp.functions_nd)
    refine uq [(0,hcon cc1),(3,hcon cc2),(6,.own [117,118] [118] (Bld.wsR (((⟨#[32]⟩:BA)++(symF Exp.infixQ ((e'.getD i.toNat zNd).op)))++(⟨#[32]⟩:BA))) (Bld.mB 117 118 ((rec (((e'.getD i.toNat zNd).kids).getD 0 0) 2 out)++(((⟨#[32]⟩:BA)++(symF Exp.infixQ ((e'.getD i.toNat zNd).op)))++(⟨#[32]⟩:BA)))))] [pu cc1,pu cc2,uo ((((⟨#[32]⟩:BA).size+(symF Exp.infixQ ((e'.getD i.toNat zNd).op)).size:Nat):Int)≤9223372036854775807),uo (((((⟨#[32]⟩:BA)++(symF Exp.infixQ ((e'.getD i.toNat zNd).op))).size+(⟨#[32]⟩:BA).size:Nat):Int)≤9223372036854775807),pu (Bld.ws_c 117 118 (rec (((e'.getD i.toNat zNd).kids).getD 0 0) 2 out) (((⟨#[32]⟩:BA)++(symF Exp.infixQ ((e'.getD i.toNat zNd).op)))++(⟨#[32]⟩:BA)) (by decide) (by first | omega | (simp only [ByteArray.size_append,sz32,sz40,sz41,sz45,sz44];omega)))] ?_
    have hz1:((rec (((e'.getD i.toNat zNd).kids).getD 0 0) 2 out)++(((⟨#[32]⟩:BA)++(symF Exp.infixQ ((e'.getD i.toNat zNd).op)))++(⟨#[32]⟩:BA))).size≤out.size+30000*(N 1 - N 0)+12:=by simp only [ByteArray.size_append,sz32];omega
    refine uq [(5,.own [116,117,118,119] [118] (.tup []) (tM e' (rec (((e'.getD i.toNat zNd).kids).getD 1 0) 2 ((rec (((e'.getD i.toNat zNd).kids).getD 0 0) 2 out)++(((⟨#[32]⟩:BA)++(symF Exp.infixQ ((e'.getD i.toNat zNd).op)))++(⟨#[32]⟩:BA))))))] [ub 1 ((e'.getD i.toNat zNd).kids).length,pu (hX.own 1 2 ((rec (((e'.getD i.toNat zNd).kids).getD 0 0) 2 out)++(((⟨#[32]⟩:BA)++(symF Exp.infixQ ((e'.getD i.toNat zNd).op)))++(⟨#[32]⟩:BA))) om (by show (_:BA).size+30000*(N 2 - N 1)≤100000000;first | omega | (simp only [ByteArray.size_append,sz32,sz40,sz41,sz45,sz44];omega)))] ?_
    refine run_nil (blockR_normal ?_)
    exact run_nil (textQ_i (x:=(rec (((e'.getD i.toNat zNd).kids).getD 1 0) 2 ((rec (((e'.getD i.toNat zNd).kids).getD 0 0) 2 out)++(((⟨#[32]⟩:BA)++(symF Exp.infixQ ((e'.getD i.toNat zNd).op)))++(⟨#[32]⟩:BA))))) (.inr rfl) (by rw [ee1]) (wkTo [2,3,4] [7] kr))
   ·refine u0 ?_
    refine rJoin (textR_k1_s i out e' rec) (fun jx1=>textR i out e' rec=textR_k1 i out e' rec jx1∧(jx1=true→2≤(e'.getD i.toNat zNd).kids.length)) nofun ?_ (fun jx1 ⟨ee3,hK1⟩=>?_)
    ·refine ud ee2 (fun hh7 ee17=>?_) (fun hh7 ee18=>?_)
     ·exact run_nil (.inl ⟨rfl,((Exp.strength (e'.getD i.toNat zNd).op)==2),⟨ee17,fun hq=>(by have ha:=st_ar hX.good;first | exact ha.2.1 hq | exact ha.2.2.1 hq)⟩,wkTo [2,3,4,7,8,22,80] [] kr⟩)
     ·refine u0 ?_
      exact run_nil (.inl ⟨rfl,((Exp.strength (e'.getD i.toNat zNd).op)==3),⟨ee18,fun hq=>(by have ha:=st_ar hX.good;first | exact ha.2.1 hq | exact ha.2.2.1 hq)⟩,wkTo [2,3,4,7,8,22,80] [] kr⟩)
    ·replace ee3:=ee3.trans (textR_k1.eq_1 i out e' rec jx1)
     refine ud ee3 (fun hh2 ee4=>?_) (fun hh2 ee5=>?_)
     ·have ha:=st_ar hX.good
      have hr:=hroom
      have hk2:2≤(e'.getD i.toNat zNd).kids.length:=by first | exact hK1 (by assumption)
      have hs32:=sz32
      have hm0:N 0<N 1:=hX.mono 0 om
      have hm1:N 1<N 2:=hX.mono 1 om
      have hm2:=mono_top hX.mono ((e'.getD i.toNat zNd).kids.length - 2) 2 om
      have hn1:=Exp.infix_sz ((e'.getD i.toNat zNd).op)
      have hs33:((⟨#[32]⟩:BA)++(symF Exp.infixQ ((e'.getD i.toNat zNd).op))).size≤11:=by rw [ByteArray.size_append,sz32];omega
      refine uq [(6,.own [116,117,118,119] [118] (.tup []) (tM e' (rec (((e'.getD i.toNat zNd).kids).getD 0 0) (Exp.strength (e'.getD i.toNat zNd).op) out)))] [ub 0 ((e'.getD i.toNat zNd).kids).length,pu (hX.own 0 (Exp.strength (e'.getD i.toNat zNd).op) out om (by show (_:BA).size+30000*(N 1 - N 0)≤100000000;first | omega | (simp only [ByteArray.size_append,sz32,sz40,sz41,sz45,sz44];omega)))] ?_
      have hz0:(rec (((e'.getD i.toNat zNd).kids).getD 0 0) (Exp.strength (e'.getD i.toNat zNd).op) out).size≤out.size+30000*(N 1 - N 0):=hX.size 0 (Exp.strength (e'.getD i.toNat zNd).op) out om
      have cc3:=Exp.infixQ_c
      have cc4:=Exp.symbol_c Exp.infixQ ((e'.getD i.toNat zNd).op) (by first | exact Exp.infix_nd | exact Exp.functions_nd)
      refine uq [(0,hcon cc3),(3,hcon cc4),(6,.own [117,118] [118] (Bld.wsR (((⟨#[32]⟩:BA)++(symF Exp.infixQ ((e'.getD i.toNat zNd).op)))++(⟨#[32]⟩:BA))) (Bld.mB 117 118 ((rec (((e'.getD i.toNat zNd).kids).getD 0 0) (Exp.strength (e'.getD i.toNat zNd).op) out)++(((⟨#[32]⟩:BA)++(symF Exp.infixQ ((e'.getD i.toNat zNd).op)))++(⟨#[32]⟩:BA)))))] [pu cc3,pu cc4,uo ((((⟨#[32]⟩:BA).size+(symF Exp.infixQ ((e'.getD i.toNat zNd).op)).size:Nat):Int)≤9223372036854775807),uo (((((⟨#[32]⟩:BA)++(symF Exp.infixQ ((e'.getD i.toNat zNd).op))).size+(⟨#[32]⟩:BA).size:Nat):Int)≤9223372036854775807),pu (Bld.ws_c 117 118 (rec (((e'.getD i.toNat zNd).kids).getD 0 0) (Exp.strength (e'.getD i.toNat zNd).op) out) (((⟨#[32]⟩:BA)++(symF Exp.infixQ ((e'.getD i.toNat zNd).op)))++(⟨#[32]⟩:BA)) (by decide) (by first | omega | (simp only [ByteArray.size_append,sz32,sz40,sz41,sz45,sz44];omega)))] ?_
      have hz1:((rec (((e'.getD i.toNat zNd).kids).getD 0 0) (Exp.strength (e'.getD i.toNat zNd).op) out)++(((⟨#[32]⟩:BA)++(symF Exp.infixQ ((e'.getD i.toNat zNd).op)))++(⟨#[32]⟩:BA))).size≤out.size+30000*(N 1 - N 0)+12:=by simp only [ByteArray.size_append,sz32];omega
      refine uq [(7,.own [116,117,118,119] [118] (.tup []) (tM e' (rec (((e'.getD i.toNat zNd).kids).getD 1 0) (IntKind.i64.wrap ((Exp.strength (e'.getD i.toNat zNd).op)+1)) ((rec (((e'.getD i.toNat zNd).kids).getD 0 0) (Exp.strength (e'.getD i.toNat zNd).op) out)++(((⟨#[32]⟩:BA)++(symF Exp.infixQ ((e'.getD i.toNat zNd).op)))++(⟨#[32]⟩:BA))))))] [ub 1 ((e'.getD i.toNat zNd).kids).length,pu (hX.own 1 (IntKind.i64.wrap ((Exp.strength (e'.getD i.toNat zNd).op)+1)) ((rec (((e'.getD i.toNat zNd).kids).getD 0 0) (Exp.strength (e'.getD i.toNat zNd).op) out)++(((⟨#[32]⟩:BA)++(symF Exp.infixQ ((e'.getD i.toNat zNd).op)))++(⟨#[32]⟩:BA))) om (by show (_:BA).size+30000*(N 2 - N 1)≤100000000;first | omega | (simp only [ByteArray.size_append,sz32,sz40,sz41,sz45,sz44];omega)))] ?_
      refine run_nil (blockR_normal ?_)
      exact run_nil (textQ_i (x:=(rec (((e'.getD i.toNat zNd).kids).getD 1 0) (IntKind.i64.wrap ((Exp.strength (e'.getD i.toNat zNd).op)+1)) ((rec (((e'.getD i.toNat zNd).kids).getD 0 0) (Exp.strength (e'.getD i.toNat zNd).op) out)++(((⟨#[32]⟩:BA)++(symF Exp.infixQ ((e'.getD i.toNat zNd).op)))++(⟨#[32]⟩:BA))))) (.inr rfl) (by rw [ee4]) (wkTo [2,3,4] [7] kr))
     ·refine u0 ?_
      refine ud ee5 (fun hh3 ee6=>?_) (fun hh3 ee7=>?_)
      ·have ha:=st_ar hX.good
       have hr:=hroom
       have hk1:1≤(e'.getD i.toNat zNd).kids.length:=ha.2.2.2.1 (by assumption)
       have hm0:N 0<N 1:=hX.mono 0 om
       have hm1:=mono_top hX.mono ((e'.getD i.toNat zNd).kids.length - 1) 1 om
       refine uq [(0,.own [117,118] [118] (Bld.wsR (⟨#[45]⟩:BA)) (Bld.mB 117 118 (out++(⟨#[45]⟩:BA))))] [pu (Bld.ws_c 117 118 out (⟨#[45]⟩:BA) (by decide) (by first | omega | (simp only [ByteArray.size_append,sz32,sz40,sz41,sz45,sz44];omega)))] ?_
       refine uq [(5,.own [116,117,118,119] [118] (.tup []) (tM e' (rec (((e'.getD i.toNat zNd).kids).getD 0 0) 4 (out++(⟨#[45]⟩:BA)))))] [ub 0 ((e'.getD i.toNat zNd).kids).length,pu (hX.own 0 4 (out++(⟨#[45]⟩:BA)) om (by show (_:BA).size+30000*(N 1 - N 0)≤100000000;first | omega | (simp only [ByteArray.size_append,sz32,sz40,sz41,sz45,sz44];omega)))] ?_
       refine run_nil (blockR_normal ?_)
       exact run_nil (textQ_i (x:=(rec (((e'.getD i.toNat zNd).kids).getD 0 0) 4 (out++(⟨#[45]⟩:BA)))) (.inr rfl) (by rw [ee6]) (wkTo [2,3,4] [7] kr))
      ·have ha:=st_ar hX.good
       have hr:=hroom
       have hnz:=name_sz hX.good
       refine uq [(2,.own [117,118] [118] (Bld.wsR ((e'.getD i.toNat zNd).name)) (Bld.mB 117 118 (out++((e'.getD i.toNat zNd).name))))] [pu (Bld.ws_c 117 118 out ((e'.getD i.toNat zNd).name) (by decide) (by first | omega | (simp only [ByteArray.size_append,sz32,sz40,sz41,sz45,sz44];omega)))] ?_
       refine u0 ?_
       refine rJoin (textR_k2_s i out e' rec jx1) (fun jx2=>textR i out e' rec=textR_k2 i out e' rec jx1 jx2∧(jx2.size≤out.size+20030)) nofun ?_ (fun jx2 ⟨ee8,hK2⟩=>?_)
       ·refine ud ee7 (fun hh6 ee15=>?_) (fun hh6 ee16=>?_)
        ·have hz1:(itoa ((e'.getD i.toNat zNd).num)).size≤20:=itoa_sz (Exp.formed_num hX.good (by assumption)).1 (Exp.formed_num hX.good (by assumption)).2
         have cc7:=itoa_c ((e'.getD i.toNat zNd).num) (by exact (Exp.formed_num hX.good (by assumption)).1) (by exact (Exp.formed_num hX.good (by assumption)).2)
         refine uq [(2,hcon cc7),(3,.own [117,118] [118] (Bld.wsR (itoa ((e'.getD i.toNat zNd).num))) (Bld.mB 117 118 ((out++((e'.getD i.toNat zNd).name))++(itoa ((e'.getD i.toNat zNd).num)))))] [pu cc7,pu (Bld.ws_c 117 118 (out++((e'.getD i.toNat zNd).name)) (itoa ((e'.getD i.toNat zNd).num)) (by decide) (by first | omega | (simp only [ByteArray.size_append,sz32,sz40,sz41,sz45,sz44];omega)))] ?_
         exact run_nil (.inl ⟨rfl,((out++((e'.getD i.toNat zNd).name))++(itoa ((e'.getD i.toNat zNd).num))),⟨ee15,by first | (have hz1:=itoa_sz (Exp.formed_num hX.good (by assumption)).1 (Exp.formed_num hX.good (by assumption)).2;simp only [ByteArray.size_append];have hz2:(itoa ((e'.getD i.toNat zNd).num)).size≤20:=hz1;omega) | (simp only [ByteArray.size_append];omega)⟩,wkTo [2,3,4,7] [] kr⟩)
        ·exact run_nil (.inl ⟨rfl,(out++((e'.getD i.toNat zNd).name)),⟨ee16,by first | (have hz1:=itoa_sz (Exp.formed_num hX.good (by assumption)).1 (Exp.formed_num hX.good (by assumption)).2;simp only [ByteArray.size_append];have hz2:(itoa ((e'.getD i.toNat zNd).num)).size≤20:=hz1;omega) | (simp only [ByteArray.size_append];omega)⟩,wkTo [2,3,4,7] [] kr⟩)
       ·replace ee8:=ee8.trans (textR_k2.eq_1 i out e' rec jx1 jx2)
        refine u0 ?_
        refine uS 34 1 (((e'.getD i.toNat zNd).kids).length) (elM Sym.encI 0 ((e'.getD i.toNat zNd).kids)) (fun hL1=>?_)
        refine uF (((e'.getD i.toNat zNd).kids).length) (textR_b1_s i out e' rec jx1 jx2) (textR_b1 i out e' rec jx1 jx2) (fun li1 lx1=>lx1.size≤out.size+20100+20*li1+30000*(N li1 - N 0)) jx2 rfl [2,3,4,7,34,35,36] [] (by have:=hK2;omega) (fun li1 lx1 hi1 hJ1 hr1=>?_) (fun lx1 hJ1 hr1=>?_)
        ·have ee12:=textR_b1.eq_1 i out e' rec jx1 jx2 li1 lx1
         have hs40:=sz40
         have hm1:=hX.mono li1 hi1
         have hm2:=mono_le hX.mono li1 om
         have hm3:=mono_top hX.mono ((e'.getD i.toNat zNd).kids.length - (li1+1)) (li1+1) om
         have hf1:=Exp.functions_sz ((e'.getD i.toNat zNd).op)
         refine uq [] [ub (li1:Int) ((e'.getD i.toNat zNd).kids).length] ?_
         refine u0 ?_
         refine ud ee12 (fun hh5 ee13=>?_) (fun hh5 ee14=>?_)
         ·have cc5:=Exp.functions_c
          have cc6:=Exp.symbol_c Exp.functions ((e'.getD i.toNat zNd).op) (by first | exact Exp.infix_nd | exact Exp.functions_nd)
          refine uq [(0,hcon cc5),(3,hcon cc6),(5,.own [117,118] [118] (Bld.wsR ((symF Exp.functions ((e'.getD i.toNat zNd).op))++(⟨#[40]⟩:BA))) (Bld.mB 117 118 (lx1++((symF Exp.functions ((e'.getD i.toNat zNd).op))++(⟨#[40]⟩:BA)))))] [pu cc5,pu cc6,uo ((((symF Exp.functions ((e'.getD i.toNat zNd).op)).size+(⟨#[40]⟩:BA).size:Nat):Int)≤9223372036854775807),pu (Bld.ws_c 117 118 lx1 ((symF Exp.functions ((e'.getD i.toNat zNd).op))++(⟨#[40]⟩:BA)) (by decide) (by first | omega | (simp only [ByteArray.size_append,sz32,sz40,sz41,sz45,sz44];omega)))] ?_
          refine uq [(2,.own [116,117,118,119] [118] (.tup []) (tM e' (rec (((e'.getD i.toNat zNd).kids).getD li1 0) 1 (lx1++((symF Exp.functions ((e'.getD i.toNat zNd).op))++(⟨#[40]⟩:BA))))))] [pu (hX.own li1 1 (lx1++((symF Exp.functions ((e'.getD i.toNat zNd).op))++(⟨#[40]⟩:BA))) om (by first | omega | (simp only [ByteArray.size_append,sz32,sz40,sz41,sz45,sz44];omega)))] ?_
          exact run_nil (uN (textR_b1_s i out e' rec jx1 jx2) (rec (((e'.getD i.toNat zNd).kids).getD li1 0) 1 (lx1++((symF Exp.functions ((e'.getD i.toNat zNd).op))++(⟨#[40]⟩:BA)))) hi1 [2,3,4,7,34,35,36] [] ((by have h1:=hX.size li1 1 (lx1++(⟨#[44,32]⟩:BA)) hi1;have h2:=hX.size li1 1 (lx1++((symF Exp.functions ((e'.getD i.toNat zNd).op))++(⟨#[40]⟩:BA))) hi1;simp only [ByteArray.size_append,sz40,sz44] at h1 h2;omega)) ee13)
         ·refine uq [(0,.own [117,118] [118] (Bld.wsR (⟨#[44,32]⟩:BA)) (Bld.mB 117 118 (lx1++(⟨#[44,32]⟩:BA))))] [pu (Bld.ws_c 117 118 lx1 (⟨#[44,32]⟩:BA) (by decide) (by first | omega | (simp only [ByteArray.size_append,sz32,sz40,sz41,sz45,sz44];omega)))] ?_
          refine uq [(2,.own [116,117,118,119] [118] (.tup []) (tM e' (rec (((e'.getD i.toNat zNd).kids).getD li1 0) 1 (lx1++(⟨#[44,32]⟩:BA)))))] [pu (hX.own li1 1 (lx1++(⟨#[44,32]⟩:BA)) om (by first | omega | (simp only [ByteArray.size_append,sz32,sz40,sz41,sz45,sz44];omega)))] ?_
          exact run_nil (uN (textR_b1_s i out e' rec jx1 jx2) (rec (((e'.getD i.toNat zNd).kids).getD li1 0) 1 (lx1++(⟨#[44,32]⟩:BA))) hi1 [2,3,4,7,34,35,36] [] ((by have h1:=hX.size li1 1 (lx1++(⟨#[44,32]⟩:BA)) hi1;have h2:=hX.size li1 1 (lx1++((symF Exp.functions ((e'.getD i.toNat zNd).op))++(⟨#[40]⟩:BA))) hi1;simp only [ByteArray.size_append,sz40,sz44] at h1 h2;omega)) ee14)
        ·have ee9:=(fin_nx ee8 hr1).trans (textR_b1_r.eq_1 i out e' rec jx1 jx2 lx1)
         have hm4:=mono_le hX.mono _ (Nat.le_refl _)
         refine u0 ?_
         refine ud ee9 (fun hh4 ee10=>?_) (fun hh4 ee11=>?_)
         ·refine uq [(0,.own [117,118] [118] (Bld.wsR (⟨#[41]⟩:BA)) (Bld.mB 117 118 (lx1++(⟨#[41]⟩:BA))))] [pu (Bld.ws_c 117 118 lx1 (⟨#[41]⟩:BA) (by decide) (by first | omega | (simp only [ByteArray.size_append,sz32,sz40,sz41,sz45,sz44];omega)))] ?_
          refine run_nil (blockR_normal ?_)
          exact run_nil (textQ_i (x:=(lx1++(⟨#[41]⟩:BA))) (.inr rfl) (by rw [ee10]) (wkTo [2,3,4] [7] kr))
         ·refine run_nil (blockR_normal ?_)
          exact run_nil (textQ_i (x:=lx1) (.inr rfl) (by rw [ee11]) (wkTo [2,3,4] [7] kr))
 ·rintro ex s' E' a' w' hne ⟨rfl,_⟩ _
  exact absurd rfl hne
theorem walkB_split{i d nx:Int}{e:List Nd}{rec:Int→Int→Int→Bool×Int}(hb:nx<4611686018427387904)(h:(Exp.walkB i d nx e rec).1=true):i=nx∧0≤i∧Exp.formed (e.getD i.toNat zNd)=true ∧
  ∃ N:Nat→Int,N (e.getD i.toNat zNd).kids.length=i - 1∧N 0=(Exp.walkB i d nx e rec).2∧∀ m:Nat,m<(e.getD i.toNat zNd).kids.length→(rec ((e.getD i.toNat zNd).kids.getD m 0) (IntKind.i64.wrap (d+1)) (N (m+1))).1=true∧(rec ((e.getD i.toNat zNd).kids.getD m 0) (IntKind.i64.wrap (d+1)) (N (m+1))).2=N m:=by
 rw [Exp.walkB] at h ⊢
 cases hc:((((i != nx)||(decide (i<0)))||(decide (d>40)))||(!(Exp.formed (e.getD i.toNat zNd)))) with
 | true=>rw [hc] at h;cases h
 | false =>
  rw [hc] at h
  simp only [cond_false] at h ⊢
  simp only [Bool.or_eq_false_iff,bne_eq_false_iff_eq,decide_eq_false_iff_not,Bool.not_eq_false'] at hc
  obtain ⟨⟨⟨rfl,h0⟩,_⟩,hf⟩:=hc
  have hk:=Exp.formed_kids hf
  have ho:=Exp.operands_le (e.getD i.toNat zNd).op
  refine ⟨rfl,om,hf,?_⟩
  rw [w64 (i - 1) om om,w64 (((e.getD i.toNat zNd).kids.length:Int) - 1) om om] at h ⊢
  refine runW_inv (bd:=Exp.walkB_b1 i d i e rec)
   (fun x:Int×Int=>-1≤x.1∧x.1<((e.getD i.toNat zNd).kids.length:Int)∧∃ N:Nat→Int,N (e.getD i.toNat zNd).kids.length=i - 1∧N (x.1+1).toNat=x.2∧∀ m:Nat,x.1<m→m<(e.getD i.toNat zNd).kids.length→(rec ((e.getD i.toNat zNd).kids.getD m 0) (IntKind.i64.wrap (d+1)) (N (m+1))).1=true∧(rec ((e.getD i.toNat zNd).kids.getD m 0) (IntKind.i64.wrap (d+1)) (N (m+1))).2=N m)
   (fun r=>(r.fin (fun _=>(false,0))).1=true→∃ N:Nat→Int,N (e.getD i.toNat zNd).kids.length=i - 1∧N 0=(r.fin (fun _=>(false,0))).2∧∀ m:Nat,m<(e.getD i.toNat zNd).kids.length→(rec ((e.getD i.toNat zNd).kids.getD m 0) (IntKind.i64.wrap (d+1)) (N (m+1))).1=true∧(rec ((e.getD i.toNat zNd).kids.getD m 0) (IntKind.i64.wrap (d+1)) (N (m+1))).2=N m)
   (fun x y hx hb=>?_) (fun x y hx hb hf=>by cases hf) (fun x r hx hb=>?_) (fun _ _ hf=>by cases hf) ((((e.getD i.toNat zNd).kids.length:Int) - 1+1).toNat+1) (((e.getD i.toNat zNd).kids.length:Int) - 1,i - 1) ?_ h
  ·obtain ⟨a1,a2,N,n1,n2,n3⟩:=hx
   rw [Exp.walkB_b1] at hb
   cases hd:decide (x.1≥0) with
   | false=>rw [hd] at hb;cases hb
   | true =>
    rw [hd] at hb
    have hd:=of_decide_eq_true hd
    simp only [cond_true] at hb
    cases hq:(rec (((e.getD i.toNat zNd).kids).getD x.1.toNat 0) (IntKind.i64.wrap (d+1)) x.2).1 with
    | false=>rw [hq] at hb;cases hb
    | true =>
     rw [hq] at hb
     simp only [Bool.not_true,cond_false,Fl.nx.injEq] at hb
     subst hb
     simp only
     rw [w64 (x.1 - 1) om om]
     refine ⟨om,om,fun j=>if j=x.1.toNat then (rec (((e.getD i.toNat zNd).kids).getD x.1.toNat 0) (IntKind.i64.wrap (d+1)) x.2).2 else N j,?_,?_,fun m g1 g2=>?_⟩
     ·dsimp only;rw [if_neg om];exact n1
     ·dsimp only;rw [if_pos om]
     ·dsimp only
      rw [if_neg (show m+1≠x.1.toNat by omega)]
      rcases (by omega:m=x.1.toNat∨x.1<m) with rfl | g
      ·rw [if_pos rfl,show x.1.toNat+1=(x.1+1).toNat by omega,n2]
       exact ⟨hq,rfl⟩
      ·rw [if_neg om]
       exact n3 m g g2
  ·obtain ⟨a1,a2,N,n1,n2,n3⟩:=hx
   rw [Exp.walkB_b1] at hb
   intro hf
   cases hd:decide (x.1≥0) with
   | true =>
    rw [hd] at hb
    simp only [cond_true] at hb
    cases hq:(rec (((e.getD i.toNat zNd).kids).getD x.1.toNat 0) (IntKind.i64.wrap (d+1)) x.2).1 with
    | false=>rw [hq] at hb;cases hb;cases hf
    | true=>rw [hq] at hb;cases hb
   | false =>
    rw [hd] at hb
    have hd:=of_decide_eq_false hd
    cases hb
    refine ⟨N,n1,?_,fun m g=>n3 m om g⟩
    have:x.1=-1:=by omega
    rw [this] at n2
    exact n2
  ·refine ⟨by dsimp only;omega,by dsimp only;omega,fun _=>i - 1,rfl,rfl,fun m g1 g2=>?_⟩
   dsimp only at g1
   omega
def textF(e:List Nd):Nat→Int→Int→BA→BA
 | 0,i,l,o=>textB i l o e (fun _ _ o=>o)
 | n+1,i,l,o=>textB i l o e (textF e n)
theorem textB_ok{e:List Nd}{wr:Int→Int→Int→Bool×Int}{rec:Int→Int→BA→BA}(he:e.length≤300)(hg:Exp.WalkG e wr) 
  (ih:∀ i d nx,nx<(e.length:Int)→(wr i d nx).1=true→∀ l o,(rec i l o).size≤o.size+30000*(nx - (wr i d nx).2).toNat∧(o.size+30000*(nx - (wr i d nx).2).toNat≤100000000→TOwn e i l o (rec i l o)))
  {i d nx:Int} (hn:nx<(e.length:Int)) (h:(Exp.walkB i d nx e wr).1=true) (l:Int) (o:BA) :
  (textB i l o e rec).size≤o.size+30000*(nx - (Exp.walkB i d nx e wr).2).toNat∧(o.size+30000*(nx - (Exp.walkB i d nx e wr).2).toNat≤100000000→TOwn e i l o (textB i l o e rec)):=by
 obtain ⟨rfl,h0,hf,N,n1,n2,n3⟩:=walkB_split om h
 have hdec:∀ k,k<(e.getD i.toNat zNd).kids.length→N k<N (k+1)∧-1≤N k∧(e.getD i.toNat zNd).kids.getD k 0=N (k+1):=fun k hk=>by
  have hle:∀ j m,m+j=(e.getD i.toNat zNd).kids.length→N m≤i - 1:=by
   intro j
   induction j with
   | zero=>intro m hm;rw [show m=(e.getD i.toNat zNd).kids.length by omega,n1];exact Int.le_refl _
   | succ j ihj =>
    intro m hm
    have h1:=ihj (m+1) om
    obtain ⟨q1,q2⟩:=n3 m om
    obtain ⟨_,_,g3,_⟩:=hg _ _ _ om q1
    rw [q2] at g3
    omega
  obtain ⟨q1,q2⟩:=n3 k hk
  have:=hle ((e.getD i.toNat zNd).kids.length - (k+1)) (k+1) om
  obtain ⟨g1,g2,g3,g4,_⟩:=hg _ _ _ om q1
  rw [q2] at g3 g4
  exact ⟨g3,g4,g1⟩
 have hlow : -1≤N 0:=by
  by_cases hk:0<(e.getD i.toNat zNd).kids.length
  ·exact (hdec 0 hk).2.1
  ·rw [show (e.getD i.toNat zNd).kids.length=0 by omega] at n1;omega
 have hcost:∀ k,k<(e.getD i.toNat zNd).kids.length→(N (k+1) - N k).toNat=(N (k+1)+1).toNat - (N k+1).toNat:=fun k hk=>by
  have:=hdec k hk;omega
 have hX:TCtx e rec (fun k=>(N k+1).toNat) (e.getD i.toNat zNd):=
  {good:=hf
   mono:=fun k hk=>by have:=hdec k hk;show (N k+1).toNat<(N (k+1)+1).toNat;omega
   own:=fun k l o hk ho=>by
    obtain ⟨q1,q2⟩:=n3 k hk
    have hd:=hdec k hk
    have hnn:N (k+1)<(e.length:Int):=by
     have hb:=mono_top (N:=fun k=>(N k+1).toNat) (m:=(e.getD i.toNat zNd).kids.length) (fun k hk=>by have:=hdec k hk;show (N k+1).toNat<(N (k+1)+1).toNat;omega) ((e.getD i.toNat zNd).kids.length - (k+1)) (k+1) om
     rw [n1] at hb
     omega
    refine (ih _ _ _ hnn q1 l o).2 ?_
    rw [q2,hcost k hk]
    exact ho
   size:=fun k l o hk=>by
    obtain ⟨q1,q2⟩:=n3 k hk
    have hd:=hdec k hk
    have hnn:N (k+1)<(e.length:Int):=by
     have hb:=mono_top (N:=fun k=>(N k+1).toNat) (m:=(e.getD i.toNat zNd).kids.length) (fun k hk=>by have:=hdec k hk;show (N k+1).toNat<(N (k+1)+1).toNat;omega) ((e.getD i.toNat zNd).kids.length - (k+1)) (k+1) om
     rw [n1] at hb
     omega
    have:=(ih _ _ _ hnn q1 l o).1
    rw [q2,hcost k hk] at this
    exact this }
 have hmm:=mono_le (N:=fun k=>(N k+1).toNat) (m:=(e.getD i.toNat zNd).kids.length) (fun k hk=>by have:=hdec k hk;show (N k+1).toNat<(N (k+1)+1).toNat;omega) _ (Nat.le_refl _)
 rw [n1] at hmm
 have hsz:=fun o=>textR_sz (i:=i) (out:=o) hX
 rw [n1] at hsz
 rw [← n2]
 refine ⟨?_,fun hroom=>textB_c ⟨h0,hn⟩ hX (by show _+30000*((N _+1).toNat - (N 0+1).toNat)+30000≤_;rw [n1];omega)⟩
 rw [textB]
 cases decide (Exp.strength (e.getD i.toNat zNd).op<l) with
 | true =>
  rw [cond_true,ByteArray.size_append,sz41]
  have:=hsz (o++(⟨#[40]⟩:BA))
  rw [ByteArray.size_append,sz40] at this
  omega
 | false =>
  rw [cond_false]
  have:=hsz o
  omega
theorem textF_ok{e:List Nd}(he:e.length≤300):∀ (n:Nat) (i d nx:Int),nx<(e.length:Int)→(Exp.walkF e n i d nx).1=true→∀ l o,(textF e n i l o).size≤o.size+30000*(nx - (Exp.walkF e n i d nx).2).toNat∧(o.size+30000*(nx - (Exp.walkF e n i d nx).2).toNat≤100000000→TOwn e i l o (textF e n i l o))
 | 0,i,d,nx,hn,h,l,o=>textB_ok (wr:=fun _ _ nx=>(false,nx)) (rec:=fun _ _ o=>o) he (fun _ _ _ _ h=>by cases h) (fun _ _ _ _ h=>by cases h) hn h l o
 | n+1,i,d,nx,hn,h,l,o=>textB_ok (wr:=Exp.walkF e n) (rec:=textF e n) he (Exp.walkF_good e n) (fun i d nx hn h l o=>textF_ok he n i d nx hn h l o) hn h l o
def text(e:List Nd):BA×Int:=bif Exp.Valid e then (textF e 40 ((e.length:Int) - 1) 1 ⟨#[]⟩,0) else (⟨#[]⟩,1)
theorem text_own{e:List Nd}(hv:Exp.Valid e=true):TOwn e ((e.length:Int) - 1) 1 ⟨#[]⟩ (textF e 40 ((e.length:Int) - 1) 1 ⟨#[]⟩)∧(textF e 40 ((e.length:Int) - 1) 1 ⟨#[]⟩).size≤100000000:=by
 obtain ⟨⟨h1,h2⟩,_⟩:=Exp.Valid_good hv
 rw [Exp.Valid] at hv
 obtain ⟨_,h4⟩:=bif_f hv
 simp only [Bool.and_eq_true,beq_iff_eq] at h4
 rw [w64 ((e.length:Int) - 1) om om] at h4
 obtain ⟨h5,h6⟩:=h4
 have h5:(Exp.walkF e 40 ((e.length:Int) - 1) 1 ((e.length:Int) - 1)).1=true:=h5
 have h6:(Exp.walkF e 40 ((e.length:Int) - 1) 1 ((e.length:Int) - 1)).2=-1:=h6
 have h7:=textF_ok h2 40 ((e.length:Int) - 1) 1 ((e.length:Int) - 1) om h5 1 ⟨#[]⟩
 rw [h6] at h7
 have h8:(⟨#[]⟩:BA).size=0:=rfl
 exact ⟨h7.2 om,om⟩
set_option maxRecDepth 100000 in
theorem text_c (e':List Nd):FCall Tryz.prog 103 [.c (.lst 4 e'.length (elM encNd zNd e'))] (.tup [.c (.str (text e').1),vI (text e').2]):=by
 refine ul Tryz.func103 rfl (fun B hB=>?_)
 refine u0 ?_
 have cc1:=Exp.Valid_c e'
 refine us 1 cc1 ?_
 refine uc (!(Exp.Valid e')) (fun hh=>?_) (fun hh=>?_)
 ·have hq:text e'=(⟨#[]⟩,1):=by rw [text,show Exp.Valid e'=false by simpa using hh];rfl
  refine u0 ?_
  exact run_ret (ut (.tup [.c (.str ⟨#[]⟩),vI 1]) (by rw [hq]))
 ·have hv:Exp.Valid e'=true:=by simpa using hh
  obtain ⟨ho,hs⟩:=text_own hv
  have hq:text e'=(textF e' 40 ((e'.length:Int) - 1) 1 ⟨#[]⟩,0):=by rw [text,hv];rfl
  have hl:=(Exp.Valid_good hv).1
  generalize textF e' 40 ((e'.length:Int) - 1) 1 ⟨#[]⟩=x at ho hs hq
  have hw:IntKind.i64.wrap ((e'.length:Int) - 1)=(e'.length:Int) - 1:=w64 _ om om
  rw [← hw] at ho
  have cc2:=(show FOwn Tryz.prog _ _ _ _ _ _ from ho).ren (fun | 116=>1 | 117=>4 | 118=>15 | 119=>5 | n=>n) ⟨kr,kr,kr,kr,kr,kr,kr⟩
  have cc3:=Bld.str_c 4 15 x (by decide) om
  refine u0 ?_
  refine run_weaken (wk_nilBld 4 15 258 5 kr kr) ?_ nofun
  refine u0 (u0 ?_)
  refine uq [(4,.own [1,4,15,5] [15] (.tup []) [(1,.cells [.lst 4 e'.length (elM encNd zNd e')]),(4,.tcells 258 [.junk,.row 15 x.size]),(15,.row 5 1 (Bld.bytesC x)),(5,.pcells [.oclo false 196 [(1,0),(4,0),(5,0)]])])] [pu cc2] ?_
  refine uq [(0,.own [4,15] [15] (.v (.c (.str x))) [(4,.cells [.junk,.junk]),(15,.gone)])] [pu cc3] ?_
  exact run_ret (ut (.tup [.c (.str x),vI 0]) (by rw [hq]))
end Go.Proofs.YtidbmbpeblmliaaGreatDoor.Txt
