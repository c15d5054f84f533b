/- Part of the proof of the statement that the claim's last text names: contracts of functions and laws of the symbolic layer. -/
import Derived.Test.YtidbmbpeblmliaaGreatDoorU13
import Derived.Shelf.Strings.Builder1
import Derived.Shelf.Small.Utf8
import Derived.Shelf.Small.Bits
import Derived.Shelf.Small.Strs
import Derived.Shelf.Small.Wraps
import Derived.Shelf.Strings.BuilderF
import Derived.Shelf.Strings.BuilderK
import Derived.Shelf.Strconv.Atoi
import Derived.Shelf.Strconv.Itoa0
import Derived.Shelf.Strconv.Itoa1
import Derived.Shelf.LaysM
import Derived.Shelf.Strconv.Itoa2
import Derived.Shelf.Strconv.Itoa3
import Derived.Shelf.Strconv.AtoiErrFast
import Derived.Shelf.Strconv.ParseIntEmpty
import Derived.Shelf.Strconv.AtoiFail
import Derived.Shelf.Strconv.Clone
import Derived.Shelf.Strconv.SyntaxError
import Derived.Shelf.Strconv.Lower
import Derived.Shelf.Strconv.ParseUint10
import Derived.Shelf.Strconv.ParseUint10Empty
import Derived.Shelf.Strconv.RangeError
import Derived.Shelf.Strconv.ParseUintEmpty
import Derived.Shelf.Strconv.ParseUint10b64
import Derived.Shelf.Strconv.ParseUint10b32
import Derived.Shelf.Strconv.ParseUint10b16
import Derived.Shelf.Strconv.ParseUint10b8
import Derived.Shelf.Strings.Search1
import Derived.Shelf.Sort.Plain
import Derived.Shelf.Strings.Prefix
import Derived.Shelf.Strings.Runes
import Derived.Shelf.Strings.IndexAny
import Derived.Shelf.Strings.AsciiSet
import Derived.Shelf.Strings.IndexAnyAll
import Derived.Shelf.Bits.Mul64
import Derived.Shelf.Slices.Turned
import Derived.Ground.Names2Prog
import Derived.Shelf.Slices.CompactI
import Derived.Shelf.Slices.CompactS
import Derived.Shelf.Slices.SearchI
import Derived.Shelf.Slices.Cells
import Derived.Shelf.Slices.In.SortNone
import Derived.Test.YtidbmbpeblmliaaGreatDoorProg
set_option linter.unusedVariables false
set_option linter.unusedSimpArgs false
namespace Go.Proofs.YtidbmbpeblmliaaGreatDoor
open Go.Sym
theorem kr{p:Prop}(h:p:=by kernel_rfl):p:=h
theorem om{p:Prop}(h:p:=by omega):p:=h
theorem vo{p:Prop}(h:p:=by first | omega | (simp (disch:=omega) only [w64];omega) | (simp only [q1,q2,q3,q4,q5,q6,q7,q8,q9,q10,q11,q12] at *;first | omega | (simp (disch:=omega) only [w64];omega)) | (simp;done)):p:=h
abbrev i6:=IntKind.i64.wrap
abbrev BA:=ByteArray
abbrev bE:=ByteArray.empty
section
variable {B:Base Tryz.prog} {s:S} {id:Nat} {ops:Array Oper} {draw:Bool} {cs:List Code} {Q:Exit→S→Prop}
theorem u0(h:Run Tryz.prog B (nextS (evalRegion Tryz.prog ops draw [] s)) cs Q)(e:asks (evalRegion Tryz.prog ops draw [] s)=[]:=by kernel_rfl):Run Tryz.prog B s (.region id ops draw :: cs) Q:=reg0 mix e h
theorem uq(hs:List (Nat×Hint))(l:List Pg)(h:Run Tryz.prog B (nextS (evalRegion Tryz.prog ops draw hs s)) cs Q)(e:pickA (asks (evalRegion Tryz.prog ops draw hs s)) l=l.map Pg.p:=by kernel_rfl)(hn:elderAny hs=false:=by rfl):Run Tryz.prog B s (.region id ops draw :: cs) Q:=rg mix hs l e h hn
theorem us{f:FuncId}{args:List CV}{r:SB}(i:Nat)(cc:FCall Tryz.prog f args r)(h:Run Tryz.prog B (nextS (evalRegion Tryz.prog ops draw [(i,hcon cc)] s)) cs Q)(e:pickA (asks (evalRegion Tryz.prog ops draw [(i,hcon cc)] s)) [pu cc]=[pu cc].map Pg.p:=by kernel_rfl):Run Tryz.prog B s (.region id ops draw :: cs) Q:=uq [(i,hcon cc)] [pu cc] h e
theorem uc{c:Operand}{x y:Code}(b:Bool)(ht:b=true→Run Tryz.prog B s (flatC x cs) Q)(hf:b=false→Run Tryz.prog B s (flatC y cs) Q)(hc:s.ev [] c=some (.v (.c (.bool b))):=by kernel_rfl):Run Tryz.prog B s (.cond c x y :: cs) Q:=rCond b hc ht hf
theorem ud{α:Type}{L y z:α}{c:Operand}{x1 x2:Code}{b:Bool}(ee:L=(bif b then y else z))(ht:b=true→L=y→Run Tryz.prog B s (flatC x1 cs) Q)(hf:b=false→L=z→Run Tryz.prog B s (flatC x2 cs) Q)(hc:s.ev [] c=some (.v (.c (.bool b))):=by kernel_rfl):Run Tryz.prog B s (.cond c x1 x2 :: cs) Q:=rCond b hc (fun h=>ht h (ee.trans (bT h))) (fun h=>hf h (ee.trans (bF h)))
theorem ut{rs:List ResultVar}{r:SB}(r':SB)(e:r'=r)(h:resOf Tryz.prog s rs=some r':=by kernel_rfl):Sym.Ends Tryz.prog rs r .ret s:=ret_of r' h e
theorem ur{rs:List ResultVar}{r:SB}(r':SB)(e:r'=r)(h:resOf Tryz.prog s rs=some r':=by kernel_rfl):Run Tryz.prog B s (.ret :: cs) (Sym.Ends Tryz.prog rs r):=run_ret (ret_of r' h e)
theorem ul{f:FuncId}{fn:Func}{c:Code}{args:List CV}{r:SB}(hf:Tryz.prog.funcs[f]?=some fn)(hb:fn.body=some c)(ht:∀ B:Base Tryz.prog,B.Fn→Run Tryz.prog B (initS fn.ntmps args) (flatC c []) (Sym.Ends Tryz.prog fn.results.toList r))(hn:(fn.name== "runtime.NumGoroutine")=false:=by kernel_rfl):FCall Tryz.prog f args r:=fcall_of hf hb hn ht
theorem uR(k:Nat)(x:CV)(h:RealV x→Run Tryz.prog B s cs Q)(hne:cs≠[]:=by nofun)(ht:s.t[k]?=some (.b (.v x)):=by kernel_rfl)(hi:x.isImm=true:=by rfl):Run Tryz.prog B s cs Q:=rReal k x ht hi h hne
theorem uS(k sz n:Nat)(f:Nat→List C)(h:n≤9223372036854775807→Run Tryz.prog B s cs Q)(hne:cs≠[]:=by nofun)(ht:s.t[k]?=some (.b (.v (.c (.lst sz n f)))):=by kernel_rfl):Run Tryz.prog B s cs Q:=rReal k (.c (.lst sz n f)) ht rfl (fun hR=>h (Real.len hR)) hne
theorem uN{σ ρ:Type}{i n:Nat}{J:σ→Prop}{bi:Fl σ ρ}(f:Nat→Int→σ→S)(y:σ)(hi:i<n)(ks ns:List Nat)(hI:J y)(hb:bi=.nx y)(hn:n≤9223372036854775807:=by omega)(h1:asks (evalRegion Tryz.prog ops false [] s)=[]:=by kernel_rfl)(h2:(nextS (evalRegion Tryz.prog ops false [] s)).slim ks ns=some (f (i+1) (IntKind.i64.wrap ((i:Int)+1)) y):=by kernel_rfl):
  ∃ y s2,(asks (evalRegion Tryz.prog ops false [] s)=[]∧nextS (evalRegion Tryz.prog ops false [] s)=s2)∧Wk Tryz.prog s2 (f (i+1) ((i+1:Nat):Int) y)∧J y∧bi=.nx y:=forX_nx f y hi hn h1 (wkTo ks ns h2) hI hb
theorem uF{σ ρ:Type}{st:S}{idH idI b1:Nat}{opsH opsI:Array Oper}{c:Operand}{lp body:Code}(n:Nat)(f:Nat→Int→σ→S)(bd:Nat→σ→Fl σ ρ)(J:Nat→σ→Prop)(x0:σ) 
  (hfl:flatC lp []=[.region idH opsH false,.cond c .skip (.exit id),.block b1 body,.region idI opsI false]) (ks ns:List Nat) (h0:J 0 x0)
  (hbody:∀ i x,i<n→J i x→runL bd n 0 x0=runL bd (n - i) i x→Run Tryz.prog B (nextS (evalRegion Tryz.prog opsH false [] (f i i x))) (flatC body []) (fun e s'=>match e with
   | .normal=>∃ y s2,(asks (evalRegion Tryz.prog opsI false [] s')=[]∧nextS (evalRegion Tryz.prog opsI false [] s')=s2)∧Wk Tryz.prog s2 (f (i+1) ((i+1:Nat):Int) y)∧J (i+1) y∧bd i x=.nx y
   | .exit k=>match Nat.beq k b1 with
    | true=>∃ y s2,(asks (evalRegion Tryz.prog opsI false [] s')=[]∧nextS (evalRegion Tryz.prog opsI false [] s')=s2)∧Wk Tryz.prog s2 (f (i+1) ((i+1:Nat):Int) y)∧J (i+1) y∧bd i x=.nx y
    | false=>match Nat.beq k id with
     | true=>Run Tryz.prog B s' cs Q
     | false=>Q (.exit k) s'
   | e=>Q e s'))
  (hend:∀ x,J n x→runL bd n 0 x0=runL bd (n - n) n x→Run Tryz.prog B (nextS (evalRegion Tryz.prog opsH false [] (f n n x))) cs Q)
  (hw:st.slim ks ns=some (f 0 0 x0):=by kernel_rfl)
  (hH:∀ (i:Nat) (x:σ),asks (evalRegion Tryz.prog opsH false [] (f i i x))=[]∧(nextS (evalRegion Tryz.prog opsH false [] (f i i x))).ev [] c=some (.v (.c (.bool (decide ((i:Int)<(n:Int)))))):=by intro i x;exact ⟨by kernel_rfl,by kernel_rfl⟩):Run Tryz.prog B st (.block id (.loop lp) :: cs) Q:=
 rForX n f bd J x0 hfl mix (wkTo ks ns hw) h0 hH hbody hend
end
abbrev uo(p:Prop)(h:p:=by first | omega | (simp (disch:=omega) only [w64];omega) | (simp only [q1,q2,q3,q4,q5,q6,q7,q8,q9,q10,q11,q12] at *;first | omega | (simp (disch:=omega) only [w64];omega)) | (simp;done)):Pg:=⟨false,p,h⟩
abbrev ug(b:Bool)(p:Prop)(h:b=true→p:=by intro hg;first | omega | (simp (disch:=omega) only [w64];omega) | (simp only [q1,q2,q3,q4,q5,q6,q7,q8,q9,q10,q11,q12] at *;first | omega | (simp (disch:=omega) only [w64];omega)) | (simp;done)):Pg:=⟨true,b=true→p,h⟩
abbrev ub(x:Int)(n:Nat)(h:0≤x∧x<(n:Int):=by first | omega | (simp (disch:=omega) only [w64];omega) | (simp only [q1,q2,q3,q4,q5,q6,q7,q8,q9,q10,q11,q12] at *;first | omega | (simp (disch:=omega) only [w64];omega)) | (simp;done)):Pg:=⟨false,0≤x∧x<(n:Int),h⟩
abbrev uh(b:Bool)(x:Int)(n:Nat)(h:b=true→0≤x∧x<(n:Int):=by intro hg;first | omega | (simp (disch:=omega) only [w64];omega) | (simp only [q1,q2,q3,q4,q5,q6,q7,q8,q9,q10,q11,q12] at *;first | omega | (simp (disch:=omega) only [w64];omega)) | (simp;done)):Pg:=⟨true,b=true→0≤x∧x<(n:Int),h⟩
abbrev uk(t:TypeId)(b:Bool)(k:List Flat)(h:KeyTy Tryz.prog t b k:=by exact keyTy_of 3 (by kernel_rfl) (by omega) (by kernel_rfl)):Pg:=⟨false,KeyTy Tryz.prog t b k,h⟩
abbrev ue(t:TypeId)(k:List Flat)(h:EqTy Tryz.prog t k:=by exact eqTy_of 3 (by kernel_rfl) (by omega) (by kernel_rfl) (by kernel_rfl)):Pg:=⟨false,EqTy Tryz.prog t k,h⟩
end Go.Proofs.YtidbmbpeblmliaaGreatDoor
namespace Go.Proofs.YtidbmbpeblmliaaGreatDoor.Lex
open Go.Sym Go.Proofs.YtidbmbpeblmliaaGreatDoor
def set__b1_r(s:BA)(class':Int)(out:FA)(lx1:FA):FA:=
 lx1
def set__b1(s:BA)(class':Int)(out:FA)(li1:Nat)(lx1:FA):Fl FA FA:=
 .nx (lx1.set ((byteAt s li1).toNat) class')
def set__b1_s(s:BA)(class':Int)(out:FA)(li1:Nat)(qv:Int)(lx1:FA):S:=mkO 17 21 [(0,.pin 0 (.v (.c (.str s)))),(1,.pin 1 (.v (vI class'))),(2,.pin 2 (.v (.c (.ptr 19 0)))),(5,.b (.v (vI qv)))] [(19,.cells ((encFA 256) lx1))]
def set_(s:BA)(class':Int)(out:FA):FA:=
 (runL (set__b1 s class' out) s.size 0 out).fin (set__b1_r s class' out)
theorem set__c(s:BA)(class':Int)(out:FA):FOwn Tryz.prog 289 [] [.c (.str s),vI class',.c (.ptr 19 0)] [(19,.cells ((encFA 256) out))] (.tup []) [(19,.cells ((encFA 256) (set_ s class' out)))]:=by
 have ee0:=set_.eq_1 s class' out
 refine fown_of 21 Tryz.func289 rfl kr ⟨kr,kr,kr,kr,kr,kr,kr⟩ (fun n o hh h=>by cases hh) kr (fun B hB hBf=>?_)
 refine u0 ?_
 refine rRealP 0 (.c (.str s)) kr rfl (fun hR=>?_) nofun
 have hL1:s.size≤9223372036854775807:=Real.size hR
 refine uF s.size (set__b1_s s class' out) (set__b1 s class' out) (fun _ _=>True) out rfl [0,1,2,5] [] trivial (fun li1 lx1 hi1 hJ1 hr1=>?_) (fun lx1 hJ1 hr1=>?_)
 ·have ee2:=set__b1.eq_1 s class' out li1 lx1
  refine uq [(5,.frz 0 (fun _=>((encFA 256) (lx1.set ((byteAt s li1).toNat) class'))))] [ub (li1:Int) s.size,@pu (0≤(byteAt s li1)∧(byteAt s li1)<(256:Int)) (byteAt_bd _ _),@pu ((0+((byteAt s li1).toNat)*1)+[cI class'].length≤((encFA 256) lx1).length∧splice ((encFA 256) lx1) (0+((byteAt s li1).toNat)*1) [cI class']=((encFA 256) (lx1.set ((byteAt s li1).toNat) class'))) (fa_set 256 lx1 _ _ (byteAt_lt _ _))] ?_
  exact run_nil (uN (set__b1_s s class' out) (lx1.set ((byteAt s li1).toNat) class') hi1 [0,1,2,5] [] (trivial) ee2)
 ·have ee1:=(fin_nx ee0 hr1).trans (set__b1_r.eq_1 s class' out lx1)
  exact run_nil (ownEnds (.inr rfl) kr ⟨by rw [ee1];kernel_rfl,.inr ⟨2,wit_box 2 0 0 kr kr kr⟩,trivial⟩)
def classes:FA:=
 (set_ (⟨#[59,44,46,58,40,41,91,93,123,125,43,45,42,47]⟩:BA) 9 (set_ (⟨#[60,62,61]⟩:BA) 8 (set_ (⟨#[33]⟩:BA) 7 (set_ (⟨#[34]⟩:BA) 6 (set_ (⟨#[35]⟩:BA) 2 (set_ (⟨#[32,9,10]⟩:BA) 1 (set_ (⟨#[95]⟩:BA) 5 (set_ (⟨#[48,49,50,51,52,53,54,55,56,57]⟩:BA) 4 (set_ (⟨#[97,98,99,100,101,102,103,104,105,106,107,108,109,110,111,112,113,114,115,116,117,118,119,120,121,122,65,66,67,68,69,70,71,72,73,74,75,76,77,78,79,80,81,82,83,84,85,86,87,88,89,90]⟩:BA) 3 zFA)))))))))
theorem classes_c:FCall Tryz.prog 236 [] (.v (.agg ((encFA 256) classes))):=by
 have ee0:=classes.eq_1
 refine ul Tryz.func236 rfl (fun B hB=>?_)
 refine u0 (u0 (u0 ?_))
 have cc1:=(set__c (⟨#[97,98,99,100,101,102,103,104,105,106,107,108,109,110,111,112,113,114,115,116,117,118,119,120,121,122,65,66,67,68,69,70,71,72,73,74,75,76,77,78,79,80,81,82,83,84,85,86,87,88,89,90]⟩:BA) 3 zFA).ren (fun | 19=>1 | n=>n) ⟨kr,kr,kr,kr,kr,kr,kr⟩
 refine uq [(1,.own [1] [] (.tup []) [(1,.cells ((encFA 256) (set_ (⟨#[97,98,99,100,101,102,103,104,105,106,107,108,109,110,111,112,113,114,115,116,117,118,119,120,121,122,65,66,67,68,69,70,71,72,73,74,75,76,77,78,79,80,81,82,83,84,85,86,87,88,89,90]⟩:BA) 3 zFA)))])] [pu cc1] ?_
 have cc2:=(set__c (⟨#[48,49,50,51,52,53,54,55,56,57]⟩:BA) 4 (set_ (⟨#[97,98,99,100,101,102,103,104,105,106,107,108,109,110,111,112,113,114,115,116,117,118,119,120,121,122,65,66,67,68,69,70,71,72,73,74,75,76,77,78,79,80,81,82,83,84,85,86,87,88,89,90]⟩:BA) 3 zFA)).ren (fun | 19=>1 | n=>n) ⟨kr,kr,kr,kr,kr,kr,kr⟩
 refine uq [(1,.own [1] [] (.tup []) [(1,.cells ((encFA 256) (set_ (⟨#[48,49,50,51,52,53,54,55,56,57]⟩:BA) 4 (set_ (⟨#[97,98,99,100,101,102,103,104,105,106,107,108,109,110,111,112,113,114,115,116,117,118,119,120,121,122,65,66,67,68,69,70,71,72,73,74,75,76,77,78,79,80,81,82,83,84,85,86,87,88,89,90]⟩:BA) 3 zFA))))])] [pu cc2] ?_
 have cc3:=(set__c (⟨#[95]⟩:BA) 5 (set_ (⟨#[48,49,50,51,52,53,54,55,56,57]⟩:BA) 4 (set_ (⟨#[97,98,99,100,101,102,103,104,105,106,107,108,109,110,111,112,113,114,115,116,117,118,119,120,121,122,65,66,67,68,69,70,71,72,73,74,75,76,77,78,79,80,81,82,83,84,85,86,87,88,89,90]⟩:BA) 3 zFA))).ren (fun | 19=>1 | n=>n) ⟨kr,kr,kr,kr,kr,kr,kr⟩
 refine uq [(1,.own [1] [] (.tup []) [(1,.cells ((encFA 256) (set_ (⟨#[95]⟩:BA) 5 (set_ (⟨#[48,49,50,51,52,53,54,55,56,57]⟩:BA) 4 (set_ (⟨#[97,98,99,100,101,102,103,104,105,106,107,108,109,110,111,112,113,114,115,116,117,118,119,120,121,122,65,66,67,68,69,70,71,72,73,74,75,76,77,78,79,80,81,82,83,84,85,86,87,88,89,90]⟩:BA) 3 zFA)))))])] [pu cc3] ?_
 have cc4:=(set__c (⟨#[32,9,10]⟩:BA) 1 (set_ (⟨#[95]⟩:BA) 5 (set_ (⟨#[48,49,50,51,52,53,54,55,56,57]⟩:BA) 4 (set_ (⟨#[97,98,99,100,101,102,103,104,105,106,107,108,109,110,111,112,113,114,115,116,117,118,119,120,121,122,65,66,67,68,69,70,71,72,73,74,75,76,77,78,79,80,81,82,83,84,85,86,87,88,89,90]⟩:BA) 3 zFA)))).ren (fun | 19=>1 | n=>n) ⟨kr,kr,kr,kr,kr,kr,kr⟩
 refine uq [(1,.own [1] [] (.tup []) [(1,.cells ((encFA 256) (set_ (⟨#[32,9,10]⟩:BA) 1 (set_ (⟨#[95]⟩:BA) 5 (set_ (⟨#[48,49,50,51,52,53,54,55,56,57]⟩:BA) 4 (set_ (⟨#[97,98,99,100,101,102,103,104,105,106,107,108,109,110,111,112,113,114,115,116,117,118,119,120,121,122,65,66,67,68,69,70,71,72,73,74,75,76,77,78,79,80,81,82,83,84,85,86,87,88,89,90]⟩:BA) 3 zFA))))))])] [pu cc4] ?_
 have cc5:=(set__c (⟨#[35]⟩:BA) 2 (set_ (⟨#[32,9,10]⟩:BA) 1 (set_ (⟨#[95]⟩:BA) 5 (set_ (⟨#[48,49,50,51,52,53,54,55,56,57]⟩:BA) 4 (set_ (⟨#[97,98,99,100,101,102,103,104,105,106,107,108,109,110,111,112,113,114,115,116,117,118,119,120,121,122,65,66,67,68,69,70,71,72,73,74,75,76,77,78,79,80,81,82,83,84,85,86,87,88,89,90]⟩:BA) 3 zFA))))).ren (fun | 19=>1 | n=>n) ⟨kr,kr,kr,kr,kr,kr,kr⟩
 refine uq [(1,.own [1] [] (.tup []) [(1,.cells ((encFA 256) (set_ (⟨#[35]⟩:BA) 2 (set_ (⟨#[32,9,10]⟩:BA) 1 (set_ (⟨#[95]⟩:BA) 5 (set_ (⟨#[48,49,50,51,52,53,54,55,56,57]⟩:BA) 4 (set_ (⟨#[97,98,99,100,101,102,103,104,105,106,107,108,109,110,111,112,113,114,115,116,117,118,119,120,121,122,65,66,67,68,69,70,71,72,73,74,75,76,77,78,79,80,81,82,83,84,85,86,87,88,89,90]⟩:BA) 3 zFA)))))))])] [pu cc5] ?_
 have cc6:=(set__c (⟨#[34]⟩:BA) 6 (set_ (⟨#[35]⟩:BA) 2 (set_ (⟨#[32,9,10]⟩:BA) 1 (set_ (⟨#[95]⟩:BA) 5 (set_ (⟨#[48,49,50,51,52,53,54,55,56,57]⟩:BA) 4 (set_ (⟨#[97,98,99,100,101,102,103,104,105,106,107,108,109,110,111,112,113,114,115,116,117,118,119,120,121,122,65,66,67,68,69,70,71,72,73,74,75,76,77,78,79,80,81,82,83,84,85,86,87,88,89,90]⟩:BA) 3 zFA)))))).ren (fun | 19=>1 | n=>n) ⟨kr,kr,kr,kr,kr,kr,kr⟩
 refine uq [(1,.own [1] [] (.tup []) [(1,.cells ((encFA 256) (set_ (⟨#[34]⟩:BA) 6 (set_ (⟨#[35]⟩:BA) 2 (set_ (⟨#[32,9,10]⟩:BA) 1 (set_ (⟨#[95]⟩:BA) 5 (set_ (⟨#[48,49,50,51,52,53,54,55,56,57]⟩:BA) 4 (set_ (⟨#[97,98,99,100,101,102,103,104,105,106,107,108,109,110,111,112,113,114,115,116,117,118,119,120,121,122,65,66,67,68,69,70,71,72,73,74,75,76,77,78,79,80,81,82,83,84,85,86,87,88,89,90]⟩:BA) 3 zFA))))))))])] [pu cc6] ?_
 have cc7:=(set__c (⟨#[33]⟩:BA) 7 (set_ (⟨#[34]⟩:BA) 6 (set_ (⟨#[35]⟩:BA) 2 (set_ (⟨#[32,9,10]⟩:BA) 1 (set_ (⟨#[95]⟩:BA) 5 (set_ (⟨#[48,49,50,51,52,53,54,55,56,57]⟩:BA) 4 (set_ (⟨#[97,98,99,100,101,102,103,104,105,106,107,108,109,110,111,112,113,114,115,116,117,118,119,120,121,122,65,66,67,68,69,70,71,72,73,74,75,76,77,78,79,80,81,82,83,84,85,86,87,88,89,90]⟩:BA) 3 zFA))))))).ren (fun | 19=>1 | n=>n) ⟨kr,kr,kr,kr,kr,kr,kr⟩
 refine uq [(1,.own [1] [] (.tup []) [(1,.cells ((encFA 256) (set_ (⟨#[33]⟩:BA) 7 (set_ (⟨#[34]⟩:BA) 6 (set_ (⟨#[35]⟩:BA) 2 (set_ (⟨#[32,9,10]⟩:BA) 1 (set_ (⟨#[95]⟩:BA) 5 (set_ (⟨#[48,49,50,51,52,53,54,55,56,57]⟩:BA) 4 (set_ (⟨#[97,98,99,100,101,102,103,104,105,106,107,108,109,110,111,112,113,114,115,116,117,118,119,120,121,122,65,66,67,68,69,70,71,72,73,74,75,76,77,78,79,80,81,82,83,84,85,86,87,88,89,90]⟩:BA) 3 zFA)))))))))])] [pu cc7] ?_
 have cc8:=(set__c (⟨#[60,62,61]⟩:BA) 8 (set_ (⟨#[33]⟩:BA) 7 (set_ (⟨#[34]⟩:BA) 6 (set_ (⟨#[35]⟩:BA) 2 (set_ (⟨#[32,9,10]⟩:BA) 1 (set_ (⟨#[95]⟩:BA) 5 (set_ (⟨#[48,49,50,51,52,53,54,55,56,57]⟩:BA) 4 (set_ (⟨#[97,98,99,100,101,102,103,104,105,106,107,108,109,110,111,112,113,114,115,116,117,118,119,120,121,122,65,66,67,68,69,70,71,72,73,74,75,76,77,78,79,80,81,82,83,84,85,86,87,88,89,90]⟩:BA) 3 zFA)))))))).ren (fun | 19=>1 | n=>n) ⟨kr,kr,kr,kr,kr,kr,kr⟩
 refine uq [(1,.own [1] [] (.tup []) [(1,.cells ((encFA 256) (set_ (⟨#[60,62,61]⟩:BA) 8 (set_ (⟨#[33]⟩:BA) 7 (set_ (⟨#[34]⟩:BA) 6 (set_ (⟨#[35]⟩:BA) 2 (set_ (⟨#[32,9,10]⟩:BA) 1 (set_ (⟨#[95]⟩:BA) 5 (set_ (⟨#[48,49,50,51,52,53,54,55,56,57]⟩:BA) 4 (set_ (⟨#[97,98,99,100,101,102,103,104,105,106,107,108,109,110,111,112,113,114,115,116,117,118,119,120,121,122,65,66,67,68,69,70,71,72,73,74,75,76,77,78,79,80,81,82,83,84,85,86,87,88,89,90]⟩:BA) 3 zFA))))))))))])] [pu cc8] ?_
 have cc9:=(set__c (⟨#[59,44,46,58,40,41,91,93,123,125,43,45,42,47]⟩:BA) 9 (set_ (⟨#[60,62,61]⟩:BA) 8 (set_ (⟨#[33]⟩:BA) 7 (set_ (⟨#[34]⟩:BA) 6 (set_ (⟨#[35]⟩:BA) 2 (set_ (⟨#[32,9,10]⟩:BA) 1 (set_ (⟨#[95]⟩:BA) 5 (set_ (⟨#[48,49,50,51,52,53,54,55,56,57]⟩:BA) 4 (set_ (⟨#[97,98,99,100,101,102,103,104,105,106,107,108,109,110,111,112,113,114,115,116,117,118,119,120,121,122,65,66,67,68,69,70,71,72,73,74,75,76,77,78,79,80,81,82,83,84,85,86,87,88,89,90]⟩:BA) 3 zFA))))))))).ren (fun | 19=>1 | n=>n) ⟨kr,kr,kr,kr,kr,kr,kr⟩
 refine uq [(1,.own [1] [] (.tup []) [(1,.cells ((encFA 256) (set_ (⟨#[59,44,46,58,40,41,91,93,123,125,43,45,42,47]⟩:BA) 9 (set_ (⟨#[60,62,61]⟩:BA) 8 (set_ (⟨#[33]⟩:BA) 7 (set_ (⟨#[34]⟩:BA) 6 (set_ (⟨#[35]⟩:BA) 2 (set_ (⟨#[32,9,10]⟩:BA) 1 (set_ (⟨#[95]⟩:BA) 5 (set_ (⟨#[48,49,50,51,52,53,54,55,56,57]⟩:BA) 4 (set_ (⟨#[97,98,99,100,101,102,103,104,105,106,107,108,109,110,111,112,113,114,115,116,117,118,119,120,121,122,65,66,67,68,69,70,71,72,73,74,75,76,77,78,79,80,81,82,83,84,85,86,87,88,89,90]⟩:BA) 3 zFA)))))))))))])] [pu cc9] ?_
 refine u0 ?_
 exact run_ret (ut _ (by rw [ee0]<;>rfl))
def index_b1_r(s:List Int)(v:Int)(lx1:Unit):Int:=
 (-1)
def index_b1(s:List Int)(v:Int)(li1:Nat)(lx1:Unit):Fl Unit Int:=
 (bif (v==(s.getD li1 0)) then .rt (li1:Int) else .nx ())
def index_b1_s(s:List Int)(v:Int)(li1:Nat)(qv:Int)(lx1:Unit):S:=mkS 19 [(0,.b (.v (.c (.lst 1 s.length (elM Sym.encI 0 s))))),(1,.b (.v (vI v))),(7,.b (.v (vI (s.length:Int)))),(8,.b (.v (vI qv)))] []
def index(s:List Int)(v:Int):Int:=
 (runL (index_b1 s v) s.length 0 ()).fin (index_b1_r s v)
theorem index_c(s:List Int)(v:Int):FCall Tryz.prog 354 [.c (.lst 1 s.length (elM Sym.encI 0 s)),vI v] (.v (vI (index s v))):=by
 have ee0:=index.eq_1 s v
 refine ul Tryz.func354 rfl (fun B hB=>?_)
 refine u0 (u0 ?_)
 refine uS 0 1 s.length (elM Sym.encI 0 s) (fun hL1=>?_)
 refine uF s.length (index_b1_s s v) (index_b1 s v) (fun _ _=>True) () rfl [0,1,7,8] [] trivial (fun li1 lx1 hi1 hJ1 hr1=>?_) (fun lx1 hJ1 hr1=>?_)
 ·have ee2:=index_b1.eq_1 s v li1 lx1
  refine u0 ?_
  refine uq [] [ub (li1:Int) s.length] ?_
  refine ud ee2 (fun hh1 ee3=>?_) (fun hh1 ee5=>?_)
  ·refine u0 ?_
   have ee4:=fin_rt ee0 hr1 hi1 ee3
   exact run_ret (ut _ (by rw [ee4]<;>rfl))
  ·exact run_nil (uN (index_b1_s s v) () hi1 [0,1,7,8] [] (trivial) ee5)
 ·have ee1:=(fin_nx ee0 hr1).trans (index_b1_r.eq_1 s v lx1)
  refine u0 ?_
  exact run_ret (ut _ (by rw [ee1]<;>rfl))
def contains(s:List Int)(v:Int):Bool:=
 (decide ((index s v)≥0))
theorem contains_c(s:List Int)(v:Int):FCall Tryz.prog 335 [.c (.lst 1 s.length (elM Sym.encI 0 s)),vI v] (.v (vB (contains s v))):=by
 have ee0:=contains.eq_1 s v
 refine ul Tryz.func335 rfl (fun B hB=>?_)
 refine u0 ?_
 have cc1:=index_c s v
 refine us 2 cc1 ?_
 exact run_ret (ut _ (by rw [ee0]<;>rfl))
def hasP0(s:BA)(prefixQ:BA):Bool:=
 ((decide ((s.size:Int)≥(prefixQ.size:Int)))&&((s.extract 0 prefixQ.size).toList==prefixQ.toList))
theorem hasP0_c(s:BA)(prefixQ:BA):FCall Tryz.prog 343 [.c (.str s),.c (.str prefixQ)] (.v (vB (hasP0 s prefixQ))):=by
 have ee0:=hasP0.eq_1 s prefixQ
 refine ul Tryz.func343 rfl (fun B hB=>?_)
 refine u0 ?_
 refine uq [] [ug (decide ((s.size:Int)≥(prefixQ.size:Int))) (0≤(prefixQ.size:Int)∧(prefixQ.size:Int)≤(s.size:Int))] ?_
 exact run_ret (ut _ (by rw [ee0]<;>rfl))
def hasP(s:BA)(prefixQ:BA):Bool:=
 (hasP0 s prefixQ)
theorem hasP_c(s:BA)(prefixQ:BA):FCall Tryz.prog 295 [.c (.str s),.c (.str prefixQ)] (.v (vB (hasP s prefixQ))):=by
 have ee0:=hasP.eq_1 s prefixQ
 refine ul Tryz.func295 rfl (fun B hB=>?_)
 refine u0 ?_
 have cc1:=hasP0_c s prefixQ
 refine us 2 cc1 ?_
 exact run_ret (ut _ (by rw [ee0]<;>rfl))
def cls(s:Scn)(i:Int):Int:=
 (bif (decide (i≥(s.text.size:Int))) then 0 else (s.cls.at ((byteAt s.text i.toNat).toNat)))
theorem cls_c(s:Scn)(i:Int)(hat:0≤i):FCall Tryz.prog 291 [.c (.kptr (encScn s) 0),vI i] (.v (vI (cls s i))):=by
 have ee0:=cls.eq_1 s i
 refine ul Tryz.func291 rfl (fun B hB=>?_)
 refine u0 (u0 ?_)
 refine ud ee0 (fun hh1 ee1=>?_) (fun hh1 ee2=>?_)
 ·refine u0 ?_
  exact run_ret (ut _ (by rw [ee1]<;>rfl))
 ·refine uq [(10,.frz 0 (fun _=>[cI (s.cls.at ((byteAt s.text i.toNat).toNat))]))] [ub i s.text.size,@pu (0≤(byteAt s.text i.toNat)∧(byteAt s.text i.toNat)<(256:Int)) (byteAt_bd _ _),@pu ((1+((byteAt s.text i.toNat).toNat)*1)+1≤(encScn s).length∧sub (encScn s) (1+((byteAt s.text i.toNat).toNat)*1) 1=[cI (s.cls.at ((byteAt s.text i.toNat).toNat))]) (scn_at s _ (byteAt_lt _ _))] ?_
  exact run_ret (ut _ (by rw [ee2]<;>rfl))
def while__b1(s:Scn)(i:Int)(class':List Int)(lx1:Int):Fl Int Int:=
 (bif ((decide (lx1<(s.text.size:Int)))&&(contains class' (cls s lx1))) then .nx (IntKind.i64.wrap (lx1+1)) else .rt lx1)
def while__b1_s(s:Scn)(i:Int)(class':List Int)(lx1:Int):S:=mkS 24 [(0,.b (.v (.c (.kptr (encScn s) 0)))),(1,.b (.v (vI lx1))),(2,.b (.v (.c (.lst 1 class'.length (elM Sym.encI 0 class')))))] []
def while_(s:Scn)(i:Int)(class':List Int):Int:=
 (runW (while__b1 s i class') ((((s.text.size:Int) - i).toNat)+1) i).fin (fun _=>0)
theorem while__c(s:Scn)(i:Int)(class':List Int)(hi:0≤i):FCall Tryz.prog 290 [.c (.kptr (encScn s) 0),vI i,.c (.lst 1 class'.length (elM Sym.encI 0 class'))] (.v (vI (while_ s i class'))):=by
 have ee0:=while_.eq_1 s i class'
 refine ul Tryz.func290 rfl (fun B hB=>?_)
 refine u0 ?_
 refine uR 0 (.c (.kptr (encScn s) 0)) (fun hR=>?_)
 have hL1:s.text.size≤9223372036854775807:=Real.size (Real.at hR 0 (Nat.le_of_ble_eq_true rfl))
 refine rWhile ((((s.text.size:Int) - i).toNat)+1) (while__b1_s s i class') (while__b1 s i class') (fun lx1=>0≤lx1) (fun lx1=>((s.text.size:Int) - lx1).toNat) i (wkTo [0,1,2] [] kr) om (Nat.lt_succ_self _) (fun k1 lx1 hJ1 hr1=>?_)
 have ee1:=while__b1.eq_1 s i class' lx1
 have cc2:=contains_c class' (cls s lx1)
 refine uq [(11,.call (.v (vI (cls s lx1)))),(12,hcon cc2)] [@pg (decide (lx1<(s.text.size:Int))) (_) (fun hg=>by exact cls_c s lx1 vo),pu cc2] ?_
 refine ud ee1 (fun hh1 ee2=>?_) (fun hh1 ee3=>?_)
 ·refine rBlock ?_
  refine u0 ?_
  refine run_nil (blockR_normal ?_)
  exact run_nil (⟨(IntKind.i64.wrap (lx1+1)),wkTo [0,1,2] [] kr,(by first | omega | (simp (disch:=omega) only [w64];omega) | (simp only [q1,q2,q3,q4,q5,q6,q7,q8,q9,q10,q11,q12] at *;first | omega | (simp (disch:=omega) only [w64];omega))),ee2,by first | omega | (simp (disch:=omega) only [w64];omega) | (simp only [q1,q2,q3,q4,q5,q6,q7,q8,q9,q10,q11,q12] at *;first | omega | (simp (disch:=omega) only [w64];omega))⟩)
 ·refine run_exit ?_
  have ee4:=finw_rt ee0 hr1 ee3
  refine u0 ?_
  exact run_ret (ut _ (by rw [ee4]<;>rfl))
end Go.Proofs.YtidbmbpeblmliaaGreatDoor.Lex
namespace Go.Proofs
open Go.Shelf
def Tryz.lays169_ren:Go.Shelf.Ren:=⟨fun | 169=>203 | n=>n,fun | 70=>255 | 9=>9 | 0=>0 | 72=>258 | 37=>256 | 127=>323 | 3=>3 | 5=>5 | n=>n,fun | n=>n⟩
theorem Tryz.Builder_Extra_169:Builder.Extra Tryz.prog Tryz.lays169_ren:={
 sizeBuilder:=by kernel_rfl
 liesBuilder:=by kernel_rfl
 t5:=Tryz.underlying5
 a5:=Tryz.isAgg5
 z5:=Tryz.sizeOf5
 v5:=Tryz.zeroValue5
 infoByte:=by kernel_rfl
 cellsByte:=by kernel_rfl
 sizeByte:=by kernel_rfl
 neB5:=by decide }
def Tryz.lays119_ren:Go.Shelf.Ren:=⟨fun | 119=>361 | n=>n,fun | 21=>21 | 4=>4 | n=>n,fun | n=>n⟩
theorem Tryz.lays119:Go.Proofs.Lays.n119 Tryz.prog Tryz.lays119_ren:={
 mixed:=by kernel_rfl
 f119:=Tryz.func361.trans (congrArg some (by kernel_rfl))
 t4:=Tryz.underlying4
 a4:=Tryz.isAgg4
 z4:=Tryz.sizeOf4
 v4:=Tryz.zeroValue4
 t21:=Tryz.underlying21
 a21:=Tryz.isAgg21
 z21:=Tryz.sizeOf21
 v21:=Tryz.zeroValue21 }
theorem Tryz.utf8_ValidRune(r:Int)(w:World):
  Calls Tryz.prog 361 #[.int .i32 r] w fun e w'=>e=.returned (.bool (Lib.validRune r))∧w'=w:=Any.utf8_ValidRune Tryz.lays119 r w
def Tryz.lays137_ren:Go.Shelf.Ren:=⟨fun | 137=>292 | 217=>336 | 266=>355 | n=>n,fun | 9=>9 | 5=>5 | 3=>3 | n=>n,fun | n=>n⟩
theorem Tryz.lays137:Go.Proofs.Lays.n137 Tryz.prog Tryz.lays137_ren:={
 mixed:=by kernel_rfl
 f137:=Tryz.func292.trans (congrArg some (by kernel_rfl))
 f217:=Tryz.func336.trans (congrArg some (by kernel_rfl))
 f266:=Tryz.func355.trans (congrArg some (by kernel_rfl))
 t3:=Tryz.underlying3
 a3:=Tryz.isAgg3
 z3:=Tryz.sizeOf3
 v3:=Tryz.zeroValue3
 t5:=Tryz.underlying5
 a5:=Tryz.isAgg5
 z5:=Tryz.sizeOf5
 v5:=Tryz.zeroValue5
 t9:=Tryz.underlying9
 a9:=Tryz.isAgg9
 z9:=Tryz.sizeOf9
 v9:=Tryz.zeroValue9 }
open Go.RowKit in
theorem Tryz.strings_IndexByte (s:ByteArray) (c:Int) (w:World) :
  Calls Tryz.prog 292 #[.string s,.int .u8 c] w fun e w'=>e=.returned (.int .i64 (Lib.indexByte s.data.toList c.toNat.toUInt8))∧w'=w:=Any.strings_IndexByte Tryz.lays137 s c w
def Tryz.lays172_ren:Go.Shelf.Ren:=⟨fun | 172=>293 | 244=>337 | 245=>338 | 247=>356 | 279=>357 | 280=>358 | 281=>359 | 282=>360 | 287=>369 | 316=>370 | 171=>201 | 205=>371 | 321=>374 | 322=>375 | 243=>260 | 246=>321 | 283=>349 | 284=>350 | 285=>351 | 286=>352 | 129=>271 | 317=>365 | 318=>366 | 319=>367 | 320=>368 | 337=>372 | 338=>373 | n=>n,fun | 9=>9 | 3=>3 | 75=>261 | 76=>262 | 4=>4 | 5=>5 | 167=>392 | 37=>256 | 0=>0 | 85=>393 | 2=>2 | 168=>395 | 53=>335 | 175=>403 | 46=>271 | 210=>407 | 127=>323 | 145=>412 | 143=>410 | 21=>21 | 171=>384 | 173=>386 | 212=>401 | 51=>333 | 20=>20 | 213=>402 | 232=>413 | 233=>414 | 80=>268 | n=>n,fun | 15=>2 | 16=>3 | 17=>0 | 18=>4 | 19=>5 | n=>n⟩
theorem Tryz.lays172:Go.Proofs.Lays.n172 Tryz.prog Tryz.lays172_ren:={
 mixed:=by kernel_rfl
 f129:=Tryz.func271.trans (congrArg some (by kernel_rfl))
 f171:=Tryz.func201.trans (congrArg some (by kernel_rfl))
 f172:=Tryz.func293.trans (congrArg some (by kernel_rfl))
 f205:=Tryz.func371.trans (congrArg some (by kernel_rfl))
 f243:=Tryz.func260.trans (congrArg some (by kernel_rfl))
 f244:=Tryz.func337.trans (congrArg some (by kernel_rfl))
 f245:=Tryz.func338.trans (congrArg some (by kernel_rfl))
 f246:=Tryz.func321.trans (congrArg some (by kernel_rfl))
 f247:=Tryz.func356.trans (congrArg some (by kernel_rfl))
 f279:=Tryz.func357.trans (congrArg some (by kernel_rfl))
 f280:=Tryz.func358.trans (congrArg some (by kernel_rfl))
 f281:=Tryz.func359.trans (congrArg some (by kernel_rfl))
 f282:=Tryz.func360.trans (congrArg some (by kernel_rfl))
 f283:=Tryz.func349.trans (congrArg some (by kernel_rfl))
 f284:=Tryz.func350.trans (congrArg some (by kernel_rfl))
 f285:=Tryz.func351.trans (congrArg some (by kernel_rfl))
 f286:=Tryz.func352.trans (congrArg some (by kernel_rfl))
 f287:=Tryz.func369.trans (congrArg some (by kernel_rfl))
 f316:=Tryz.func370.trans (congrArg some (by kernel_rfl))
 f317:=Tryz.func365.trans (congrArg some (by kernel_rfl))
 f318:=Tryz.func366.trans (congrArg some (by kernel_rfl))
 f319:=Tryz.func367.trans (congrArg some (by kernel_rfl))
 f320:=Tryz.func368.trans (congrArg some (by kernel_rfl))
 f321:=Tryz.func374.trans (congrArg some (by kernel_rfl))
 f322:=Tryz.func375.trans (congrArg some (by kernel_rfl))
 f337:=Tryz.func372.trans (congrArg some (by kernel_rfl))
 f338:=Tryz.func373.trans (congrArg some (by kernel_rfl))
 t0:=Tryz.underlying0
 a0:=Tryz.isAgg0
 z0:=Tryz.sizeOf0
 v0:=Tryz.zeroValue0
 t2:=Tryz.underlying2
 a2:=Tryz.isAgg2
 z2:=Tryz.sizeOf2
 v2:=Tryz.zeroValue2
 t3:=Tryz.underlying3
 a3:=Tryz.isAgg3
 z3:=Tryz.sizeOf3
 v3:=Tryz.zeroValue3
 t4:=Tryz.underlying4
 a4:=Tryz.isAgg4
 z4:=Tryz.sizeOf4
 v4:=Tryz.zeroValue4
 t5:=Tryz.underlying5
 a5:=Tryz.isAgg5
 z5:=Tryz.sizeOf5
 v5:=Tryz.zeroValue5
 t9:=Tryz.underlying9
 a9:=Tryz.isAgg9
 z9:=Tryz.sizeOf9
 v9:=Tryz.zeroValue9
 t20:=Tryz.underlying20
 a20:=Tryz.isAgg20
 z20:=Tryz.sizeOf20
 v20:=Tryz.zeroValue20
 t21:=Tryz.underlying21
 a21:=Tryz.isAgg21
 z21:=Tryz.sizeOf21
 v21:=Tryz.zeroValue21
 t37:=Tryz.underlying256
 a37:=Tryz.isAgg256
 z37:=Tryz.sizeOf256
 v37:=Tryz.zeroValue256
 t46:=Tryz.underlying271
 a46:=Tryz.isAgg271
 z46:=Tryz.sizeOf271
 v46:=Tryz.zeroValue271
 t51:=Tryz.underlying333
 a51:=Tryz.isAgg333
 z51:=Tryz.sizeOf333
 v51:=Tryz.zeroValue333
 t53:=Tryz.underlying335
 a53:=Tryz.isAgg335
 z53:=Tryz.sizeOf335
 v53:=Tryz.zeroValue335
 t75:=Tryz.underlying261
 a75:=Tryz.isAgg261
 z75:=Tryz.sizeOf261
 v75:=Tryz.zeroValue261
 t76:=Tryz.underlying262
 a76:=Tryz.isAgg262
 z76:=Tryz.sizeOf262
 v76:=Tryz.zeroValue262
 t85:=Tryz.underlying393
 a85:=Tryz.isAgg393
 z85:=Tryz.sizeOf393
 v85:=Tryz.zeroValue393
 t127:=Tryz.underlying323
 a127:=Tryz.isAgg323
 z127:=Tryz.sizeOf323
 v127:=Tryz.zeroValue323
 t143:=Tryz.underlying410
 a143:=Tryz.isAgg410
 z143:=Tryz.sizeOf410
 v143:=Tryz.zeroValue410
 t145:=Tryz.underlying412
 a145:=Tryz.isAgg412
 z145:=Tryz.sizeOf412
 v145:=Tryz.zeroValue412
 t167:=Tryz.underlying392
 a167:=Tryz.isAgg392
 z167:=Tryz.sizeOf392
 v167:=Tryz.zeroValue392
 t168:=Tryz.underlying395
 a168:=Tryz.isAgg395
 z168:=Tryz.sizeOf395
 v168:=Tryz.zeroValue395
 t171:=Tryz.underlying384
 a171:=Tryz.isAgg384
 z171:=Tryz.sizeOf384
 v171:=Tryz.zeroValue384
 t173:=Tryz.underlying386
 a173:=Tryz.isAgg386
 z173:=Tryz.sizeOf386
 v173:=Tryz.zeroValue386
 t175:=Tryz.underlying403
 a175:=Tryz.isAgg403
 z175:=Tryz.sizeOf403
 v175:=Tryz.zeroValue403
 t210:=Tryz.underlying407
 a210:=Tryz.isAgg407
 z210:=Tryz.sizeOf407
 v210:=Tryz.zeroValue407
 t212:=Tryz.underlying401
 a212:=Tryz.isAgg401
 z212:=Tryz.sizeOf401
 v212:=Tryz.zeroValue401
 t213:=Tryz.underlying402
 a213:=Tryz.isAgg402
 z213:=Tryz.sizeOf402
 t232:=Tryz.underlying413
 a232:=Tryz.isAgg413
 z232:=Tryz.sizeOf413
 v232:=Tryz.zeroValue413
 t233:=Tryz.underlying414
 a233:=Tryz.isAgg414
 z233:=Tryz.sizeOf414
 v233:=Tryz.zeroValue414
 g15:=by kernel_rfl
 g16:=by kernel_rfl
 g17:=by kernel_rfl
 g18:=by kernel_rfl
 g19:=by kernel_rfl }
open Go.RowKit in
theorem Tryz.strconv_Atoi (s:ByteArray) (n:Int) (hl:s.size≤18) (h:Lib.atoi s.data.toList=some n) (w:World) :
  Calls Tryz.prog 293 #[.string s] w fun e w'=>e=.returned (.tuple #[.int .i64 n,.nilIface])∧∃ t,w'=Lib.bytesWorld w 5 t:=Any.strconv_Atoi Tryz.lays172 s n hl h w
def Tryz.laysM171_ren:Go.Shelf.Ren:=⟨fun | 171=>201 | 243=>260 | 246=>321 | 283=>349 | 284=>350 | 285=>351 | 286=>352 | 129=>271 | 317=>365 | 318=>366 | 319=>367 | 320=>368 | 337=>372 | 338=>373 | n=>n,fun | 3=>3 | 9=>9 | 2=>2 | 4=>4 | 171=>384 | 0=>0 | 53=>335 | 37=>256 | 5=>5 | 173=>386 | 212=>401 | 51=>333 | 20=>20 | 213=>402 | 46=>271 | 232=>413 | 233=>414 | n=>n,fun | 17=>0 | 18=>4 | 19=>5 | n=>n⟩
theorem Tryz.laysM171:Go.Proofs.LaysM.n171 Tryz.prog Tryz.laysM171_ren:={
 mixed:=by kernel_rfl
 f129:=Tryz.func271.trans (congrArg some (by kernel_rfl))
 f171:=Tryz.func201.trans (congrArg some (by kernel_rfl))
 f243:=Tryz.func260.trans (congrArg some (by kernel_rfl))
 f246:=Tryz.func321.trans (congrArg some (by kernel_rfl))
 f283:=Tryz.func349.trans (congrArg some (by kernel_rfl))
 f284:=Tryz.func350.trans (congrArg some (by kernel_rfl))
 f285:=Tryz.func351.trans (congrArg some (by kernel_rfl))
 f286:=Tryz.func352.trans (congrArg some (by kernel_rfl))
 f317:=Tryz.func365.trans (congrArg some (by kernel_rfl))
 f318:=Tryz.func366.trans (congrArg some (by kernel_rfl))
 f319:=Tryz.func367.trans (congrArg some (by kernel_rfl))
 f320:=Tryz.func368.trans (congrArg some (by kernel_rfl))
 f337:=Tryz.func372.trans (congrArg some (by kernel_rfl))
 f338:=Tryz.func373.trans (congrArg some (by kernel_rfl))
 t0:=Tryz.underlying0
 a0:=Tryz.isAgg0
 z0:=Tryz.sizeOf0
 v0:=Tryz.zeroValue0
 t2:=Tryz.underlying2
 a2:=Tryz.isAgg2
 z2:=Tryz.sizeOf2
 v2:=Tryz.zeroValue2
 t3:=Tryz.underlying3
 a3:=Tryz.isAgg3
 z3:=Tryz.sizeOf3
 v3:=Tryz.zeroValue3
 t4:=Tryz.underlying4
 a4:=Tryz.isAgg4
 z4:=Tryz.sizeOf4
 v4:=Tryz.zeroValue4
 t5:=Tryz.underlying5
 a5:=Tryz.isAgg5
 z5:=Tryz.sizeOf5
 v5:=Tryz.zeroValue5
 t9:=Tryz.underlying9
 a9:=Tryz.isAgg9
 z9:=Tryz.sizeOf9
 v9:=Tryz.zeroValue9
 t20:=Tryz.underlying20
 a20:=Tryz.isAgg20
 z20:=Tryz.sizeOf20
 v20:=Tryz.zeroValue20
 t37:=Tryz.underlying256
 a37:=Tryz.isAgg256
 z37:=Tryz.sizeOf256
 v37:=Tryz.zeroValue256
 t46:=Tryz.underlying271
 a46:=Tryz.isAgg271
 z46:=Tryz.sizeOf271
 v46:=Tryz.zeroValue271
 t51:=Tryz.underlying333
 a51:=Tryz.isAgg333
 z51:=Tryz.sizeOf333
 v51:=Tryz.zeroValue333
 t53:=Tryz.underlying335
 a53:=Tryz.isAgg335
 z53:=Tryz.sizeOf335
 v53:=Tryz.zeroValue335
 t171:=Tryz.underlying384
 a171:=Tryz.isAgg384
 z171:=Tryz.sizeOf384
 v171:=Tryz.zeroValue384
 t173:=Tryz.underlying386
 a173:=Tryz.isAgg386
 z173:=Tryz.sizeOf386
 v173:=Tryz.zeroValue386
 t212:=Tryz.underlying401
 a212:=Tryz.isAgg401
 z212:=Tryz.sizeOf401
 v212:=Tryz.zeroValue401
 t213:=Tryz.underlying402
 a213:=Tryz.isAgg402
 z213:=Tryz.sizeOf402
 t232:=Tryz.underlying413
 a232:=Tryz.isAgg413
 z232:=Tryz.sizeOf413
 v232:=Tryz.zeroValue413
 t233:=Tryz.underlying414
 a233:=Tryz.isAgg414
 z233:=Tryz.sizeOf414
 v233:=Tryz.zeroValue414
 g17:=by kernel_rfl
 g18:=by kernel_rfl
 g19:=by kernel_rfl
 i0:=by kernel_rfl
 i2:=by kernel_rfl
 i3:=by kernel_rfl
 i4:=by kernel_rfl
 i5:=by kernel_rfl
 i9:=by kernel_rfl
 i20:=by kernel_rfl
 i37:=by kernel_rfl
 i46:=by kernel_rfl
 i51:=by kernel_rfl
 i53:=by kernel_rfl
 i171:=by kernel_rfl
 i173:=by kernel_rfl
 i212:=by kernel_rfl
 i232:=by kernel_rfl
 i233:=by kernel_rfl
 m17:=by kernel_rfl
 m18:=by kernel_rfl
 m19:=by kernel_rfl }
open Go.RowKit Go.Sort Go.Lib in
theorem Tryz.strconv_Itoa (n:Int) (h0 : -9223372036854775808≤n) (h1:n≤9223372036854775807) (w:World) (htab:Lib.TabIs Tryz.prog w "internal/strconv.uint64pow10" .u64 Lib.pow10Tab) :
  Calls Tryz.prog 201 #[.int .i64 n] w fun e w'=>e=.returned (.string ⟨(Lib.itoa n).toArray⟩)∧∃ k os,w'=grow (w.drewN k) os:=Any.strconv_Itoa Tryz.laysM171 n h0 h1 w htab
def Tryz.lays189_ren:Go.Shelf.Ren:=⟨fun | 189=>182 | 125=>206 | 257=>254 | 128=>270 | 129=>271 | 294=>311 | 295=>312 | 296=>313 | 297=>314 | 298=>315 | 299=>316 | 216=>317 | 300=>318 | 301=>319 | 328=>345 | 329=>323 | 330=>324 | 331=>346 | 332=>347 | 215=>348 | 343=>364 | n=>n,fun | 28=>29 | 3=>3 | 46=>271 | 0=>0 | 51=>333 | 53=>335 | 4=>4 | 183=>326 | 182=>325 | 131=>287 | 5=>5 | 9=>9 | 218=>364 | 222=>354 | 228=>388 | 229=>389 | n=>n,fun | n=>n⟩
theorem Tryz.lays189:Go.Proofs.Lays.n189 Tryz.prog Tryz.lays189_ren:={
 mixed:=by kernel_rfl
 f125:=Tryz.func206.trans (congrArg some (by kernel_rfl))
 f128:=Tryz.func270.trans (congrArg some (by kernel_rfl))
 f129:=Tryz.func271.trans (congrArg some (by kernel_rfl))
 f189:=Tryz.func182.trans (congrArg some (by kernel_rfl))
 f215:=Tryz.func348.trans (congrArg some (by kernel_rfl))
 f216:=Tryz.func317.trans (congrArg some (by kernel_rfl))
 f257:=Tryz.func254.trans (congrArg some (by kernel_rfl))
 f294:=Tryz.func311.trans (congrArg some (by kernel_rfl))
 f295:=Tryz.func312.trans (congrArg some (by kernel_rfl))
 f296:=Tryz.func313.trans (congrArg some (by kernel_rfl))
 f297:=Tryz.func314.trans (congrArg some (by kernel_rfl))
 f298:=Tryz.func315.trans (congrArg some (by kernel_rfl))
 f299:=Tryz.func316.trans (congrArg some (by kernel_rfl))
 f300:=Tryz.func318.trans (congrArg some (by kernel_rfl))
 f301:=Tryz.func319.trans (congrArg some (by kernel_rfl))
 f328:=Tryz.func345.trans (congrArg some (by kernel_rfl))
 f329:=Tryz.func323.trans (congrArg some (by kernel_rfl))
 f330:=Tryz.func324.trans (congrArg some (by kernel_rfl))
 f331:=Tryz.func346.trans (congrArg some (by kernel_rfl))
 f332:=Tryz.func347.trans (congrArg some (by kernel_rfl))
 f343:=Tryz.func364.trans (congrArg some (by kernel_rfl))
 t0:=Tryz.underlying0
 a0:=Tryz.isAgg0
 z0:=Tryz.sizeOf0
 v0:=Tryz.zeroValue0
 t3:=Tryz.underlying3
 a3:=Tryz.isAgg3
 z3:=Tryz.sizeOf3
 v3:=Tryz.zeroValue3
 t4:=Tryz.underlying4
 a4:=Tryz.isAgg4
 z4:=Tryz.sizeOf4
 v4:=Tryz.zeroValue4
 t5:=Tryz.underlying5
 a5:=Tryz.isAgg5
 z5:=Tryz.sizeOf5
 v5:=Tryz.zeroValue5
 t9:=Tryz.underlying9
 a9:=Tryz.isAgg9
 z9:=Tryz.sizeOf9
 v9:=Tryz.zeroValue9
 t28:=Tryz.underlying29
 a28:=Tryz.isAgg29
 z28:=Tryz.sizeOf29
 v28:=Tryz.zeroValue29
 t46:=Tryz.underlying271
 a46:=Tryz.isAgg271
 z46:=Tryz.sizeOf271
 v46:=Tryz.zeroValue271
 t51:=Tryz.underlying333
 a51:=Tryz.isAgg333
 z51:=Tryz.sizeOf333
 v51:=Tryz.zeroValue333
 t53:=Tryz.underlying335
 a53:=Tryz.isAgg335
 z53:=Tryz.sizeOf335
 v53:=Tryz.zeroValue335
 t131:=Tryz.underlying287
 a131:=Tryz.isAgg287
 z131:=Tryz.sizeOf287
 v131:=Tryz.zeroValue287
 t182:=Tryz.underlying325
 a182:=Tryz.isAgg325
 z182:=Tryz.sizeOf325
 v182:=Tryz.zeroValue325
 t183:=Tryz.underlying326
 a183:=Tryz.isAgg326
 z183:=Tryz.sizeOf326
 v183:=Tryz.zeroValue326
 t218:=Tryz.underlying364
 a218:=Tryz.isAgg364
 z218:=Tryz.sizeOf364
 v218:=Tryz.zeroValue364
 t222:=Tryz.underlying354
 a222:=Tryz.isAgg354
 z222:=Tryz.sizeOf354
 v222:=Tryz.zeroValue354
 t228:=Tryz.underlying388
 a228:=Tryz.isAgg388
 z228:=Tryz.sizeOf388
 v228:=Tryz.zeroValue388
 t229:=Tryz.underlying389
 a229:=Tryz.isAgg389
 z229:=Tryz.sizeOf389
 v229:=Tryz.zeroValue389 }
open Go.Sort Go.RowKit in
theorem Tryz.slices_Sort_int (blk off cap:Nat) (zs:List Int) (w:World) (hH:Holds (Value.int .i64) w blk off zs.toArray) (hblk:blk<w.heap.size) (hsz:zs.length<4611686018427387904) :
  Calls Tryz.prog 182 #[.slice (some ⟨blk,off,none⟩) zs.length cap] w fun e w' =>
   e=.returned (.tuple #[])∧∃ n os,w'=grow (putRow (Value.int .i64) (Sort.ahead w n) blk off (zs.mergeSort fun x y=>decide (x≤y)).toArray) os:=Any.slices_Sort_int Tryz.lays189 blk off cap zs w hH hblk hsz
def Tryz.lays190_ren:Go.Shelf.Ren:=⟨fun | 190=>106 | 125=>206 | 258=>205 | 128=>270 | 129=>271 | 302=>261 | 303=>262 | 304=>263 | 305=>264 | 306=>265 | 307=>266 | 308=>267 | 309=>268 | 310=>269 | 333=>322 | 329=>323 | 330=>324 | 334=>325 | 335=>326 | 336=>327 | 344=>353 | n=>n,fun | 31=>105 | 9=>9 | 3=>3 | 46=>271 | 0=>0 | 51=>333 | 53=>335 | 4=>4 | 183=>326 | 182=>325 | 131=>287 | 5=>5 | 218=>364 | 222=>354 | 228=>388 | 229=>389 | n=>n,fun | n=>n⟩
theorem Tryz.lays190:Go.Proofs.Lays.n190 Tryz.prog Tryz.lays190_ren:={
 mixed:=by kernel_rfl
 f125:=Tryz.func206.trans (congrArg some (by kernel_rfl))
 f128:=Tryz.func270.trans (congrArg some (by kernel_rfl))
 f129:=Tryz.func271.trans (congrArg some (by kernel_rfl))
 f190:=Tryz.func106.trans (congrArg some (by kernel_rfl))
 f258:=Tryz.func205.trans (congrArg some (by kernel_rfl))
 f302:=Tryz.func261.trans (congrArg some (by kernel_rfl))
 f303:=Tryz.func262.trans (congrArg some (by kernel_rfl))
 f304:=Tryz.func263.trans (congrArg some (by kernel_rfl))
 f305:=Tryz.func264.trans (congrArg some (by kernel_rfl))
 f306:=Tryz.func265.trans (congrArg some (by kernel_rfl))
 f307:=Tryz.func266.trans (congrArg some (by kernel_rfl))
 f308:=Tryz.func267.trans (congrArg some (by kernel_rfl))
 f309:=Tryz.func268.trans (congrArg some (by kernel_rfl))
 f310:=Tryz.func269.trans (congrArg some (by kernel_rfl))
 f329:=Tryz.func323.trans (congrArg some (by kernel_rfl))
 f330:=Tryz.func324.trans (congrArg some (by kernel_rfl))
 f333:=Tryz.func322.trans (congrArg some (by kernel_rfl))
 f334:=Tryz.func325.trans (congrArg some (by kernel_rfl))
 f335:=Tryz.func326.trans (congrArg some (by kernel_rfl))
 f336:=Tryz.func327.trans (congrArg some (by kernel_rfl))
 f344:=Tryz.func353.trans (congrArg some (by kernel_rfl))
 t0:=Tryz.underlying0
 a0:=Tryz.isAgg0
 z0:=Tryz.sizeOf0
 v0:=Tryz.zeroValue0
 t3:=Tryz.underlying3
 a3:=Tryz.isAgg3
 z3:=Tryz.sizeOf3
 v3:=Tryz.zeroValue3
 t4:=Tryz.underlying4
 a4:=Tryz.isAgg4
 z4:=Tryz.sizeOf4
 v4:=Tryz.zeroValue4
 t5:=Tryz.underlying5
 a5:=Tryz.isAgg5
 z5:=Tryz.sizeOf5
 v5:=Tryz.zeroValue5
 t9:=Tryz.underlying9
 a9:=Tryz.isAgg9
 z9:=Tryz.sizeOf9
 v9:=Tryz.zeroValue9
 t31:=Tryz.underlying105
 a31:=Tryz.isAgg105
 z31:=Tryz.sizeOf105
 v31:=Tryz.zeroValue105
 t46:=Tryz.underlying271
 a46:=Tryz.isAgg271
 z46:=Tryz.sizeOf271
 v46:=Tryz.zeroValue271
 t51:=Tryz.underlying333
 a51:=Tryz.isAgg333
 z51:=Tryz.sizeOf333
 v51:=Tryz.zeroValue333
 t53:=Tryz.underlying335
 a53:=Tryz.isAgg335
 z53:=Tryz.sizeOf335
 v53:=Tryz.zeroValue335
 t131:=Tryz.underlying287
 a131:=Tryz.isAgg287
 z131:=Tryz.sizeOf287
 v131:=Tryz.zeroValue287
 t182:=Tryz.underlying325
 a182:=Tryz.isAgg325
 z182:=Tryz.sizeOf325
 v182:=Tryz.zeroValue325
 t183:=Tryz.underlying326
 a183:=Tryz.isAgg326
 z183:=Tryz.sizeOf326
 v183:=Tryz.zeroValue326
 t218:=Tryz.underlying364
 a218:=Tryz.isAgg364
 z218:=Tryz.sizeOf364
 v218:=Tryz.zeroValue364
 t222:=Tryz.underlying354
 a222:=Tryz.isAgg354
 z222:=Tryz.sizeOf354
 v222:=Tryz.zeroValue354
 t228:=Tryz.underlying388
 a228:=Tryz.isAgg388
 z228:=Tryz.sizeOf388
 v228:=Tryz.zeroValue388
 t229:=Tryz.underlying389
 a229:=Tryz.isAgg389
 z229:=Tryz.sizeOf389
 v229:=Tryz.zeroValue389 }
open Go.Sort Go.RowKit in
theorem Tryz.slices_Sort_string (blk off cap:Nat) (ss:List (List UInt8)) (w:World) (hH:Holds encStr w blk off ss.toArray) (hblk:blk<w.heap.size) (hsz:ss.length<4611686018427387904) :
  Calls Tryz.prog 106 #[.slice (some ⟨blk,off,none⟩) ss.length cap] w fun e w' =>
   e=.returned (.tuple #[])∧∃ n os,w'=grow (putRow encStr (Sort.ahead w n) blk off (ss.mergeSort fun x y=>decide (x≤y)).toArray) os:=Any.slices_Sort_string Tryz.lays190 blk off cap ss w hH hblk hsz
def Tryz.lays152_ren:Go.Shelf.Ren:=⟨fun | 152=>339 | 137=>292 | 119=>361 | 224=>362 | 225=>363 | 217=>336 | 266=>355 | n=>n,fun | 9=>9 | 21=>21 | 3=>3 | 4=>4 | 5=>5 | 0=>0 | 46=>271 | n=>n,fun | n=>n⟩
theorem Tryz.lays152:Go.Proofs.Lays.n152 Tryz.prog Tryz.lays152_ren:={
 mixed:=by kernel_rfl
 f119:=Tryz.func361.trans (congrArg some (by kernel_rfl))
 f137:=Tryz.func292.trans (congrArg some (by kernel_rfl))
 f152:=Tryz.func339.trans (congrArg some (by kernel_rfl))
 f217:=Tryz.func336.trans (congrArg some (by kernel_rfl))
 f224:=Tryz.func362.trans (congrArg some (by kernel_rfl))
 f225:=Tryz.func363.trans (congrArg some (by kernel_rfl))
 f266:=Tryz.func355.trans (congrArg some (by kernel_rfl))
 t0:=Tryz.underlying0
 a0:=Tryz.isAgg0
 z0:=Tryz.sizeOf0
 v0:=Tryz.zeroValue0
 t3:=Tryz.underlying3
 a3:=Tryz.isAgg3
 z3:=Tryz.sizeOf3
 v3:=Tryz.zeroValue3
 t4:=Tryz.underlying4
 a4:=Tryz.isAgg4
 z4:=Tryz.sizeOf4
 v4:=Tryz.zeroValue4
 t5:=Tryz.underlying5
 a5:=Tryz.isAgg5
 z5:=Tryz.sizeOf5
 v5:=Tryz.zeroValue5
 t9:=Tryz.underlying9
 a9:=Tryz.isAgg9
 z9:=Tryz.sizeOf9
 v9:=Tryz.zeroValue9
 t21:=Tryz.underlying21
 a21:=Tryz.isAgg21
 z21:=Tryz.sizeOf21
 v21:=Tryz.zeroValue21
 t46:=Tryz.underlying271
 a46:=Tryz.isAgg271
 z46:=Tryz.sizeOf271
 v46:=Tryz.zeroValue271 }
open Go.RowKit Go.Lib in
theorem Tryz.strings_IndexRune_ascii (s:ByteArray) (r:Int) (w:World) (h0:0≤r) (h1:r<128) :
  Calls Tryz.prog 339 #[.string s,.int .i32 r] w fun e w'=>e=.returned (.int .i64 (Lib.indexByte s.data.toList r.toNat.toUInt8))∧w'=w:=Any.strings_IndexRune_ascii Tryz.lays152 s r w h0 h1
def Tryz.lays226_ren:Go.Shelf.Ren:=⟨fun | 226=>340 | n=>n,fun | 3=>3 | 4=>4 | n=>n,fun | n=>n⟩
theorem Tryz.lays226:Go.Proofs.Lays.n226 Tryz.prog Tryz.lays226_ren:={
 mixed:=by kernel_rfl
 f226:=Tryz.func340.trans (congrArg some (by kernel_rfl))
 t3:=Tryz.underlying3
 a3:=Tryz.isAgg3
 z3:=Tryz.sizeOf3
 v3:=Tryz.zeroValue3
 t4:=Tryz.underlying4
 a4:=Tryz.isAgg4
 z4:=Tryz.sizeOf4
 v4:=Tryz.zeroValue4 }
open Go.RowKit Go.Lib in
theorem Tryz.strings_shouldUseASCIISet (n:Int) (w:World) :
  Calls Tryz.prog 340 #[.int .i64 n] w fun e w'=>e=.returned (.bool (decide (8<n)))∧w'=w:=Any.strings_shouldUseASCIISet Tryz.lays226 n w
def Tryz.lays153_ren:Go.Shelf.Ren:=⟨fun | 153=>294 | 152=>339 | 226=>340 | 227=>341 | 228=>342 | 137=>292 | 119=>361 | 224=>362 | 225=>363 | 217=>336 | 266=>355 | n=>n,fun | 9=>9 | 3=>3 | 4=>4 | 5=>5 | 21=>21 | 117=>378 | 116=>377 | 0=>0 | 46=>271 | 124=>399 | n=>n,fun | n=>n⟩
theorem Tryz.lays153:Go.Proofs.Lays.n153 Tryz.prog Tryz.lays153_ren:={
 mixed:=by kernel_rfl
 f119:=Tryz.func361.trans (congrArg some (by kernel_rfl))
 f137:=Tryz.func292.trans (congrArg some (by kernel_rfl))
 f152:=Tryz.func339.trans (congrArg some (by kernel_rfl))
 f153:=Tryz.func294.trans (congrArg some (by kernel_rfl))
 f217:=Tryz.func336.trans (congrArg some (by kernel_rfl))
 f224:=Tryz.func362.trans (congrArg some (by kernel_rfl))
 f225:=Tryz.func363.trans (congrArg some (by kernel_rfl))
 f226:=Tryz.func340.trans (congrArg some (by kernel_rfl))
 f227:=Tryz.func341.trans (congrArg some (by kernel_rfl))
 f228:=Tryz.func342.trans (congrArg some (by kernel_rfl))
 f266:=Tryz.func355.trans (congrArg some (by kernel_rfl))
 t0:=Tryz.underlying0
 a0:=Tryz.isAgg0
 z0:=Tryz.sizeOf0
 v0:=Tryz.zeroValue0
 t3:=Tryz.underlying3
 a3:=Tryz.isAgg3
 z3:=Tryz.sizeOf3
 v3:=Tryz.zeroValue3
 t4:=Tryz.underlying4
 a4:=Tryz.isAgg4
 z4:=Tryz.sizeOf4
 v4:=Tryz.zeroValue4
 t5:=Tryz.underlying5
 a5:=Tryz.isAgg5
 z5:=Tryz.sizeOf5
 v5:=Tryz.zeroValue5
 t9:=Tryz.underlying9
 a9:=Tryz.isAgg9
 z9:=Tryz.sizeOf9
 v9:=Tryz.zeroValue9
 t21:=Tryz.underlying21
 a21:=Tryz.isAgg21
 z21:=Tryz.sizeOf21
 v21:=Tryz.zeroValue21
 t46:=Tryz.underlying271
 a46:=Tryz.isAgg271
 z46:=Tryz.sizeOf271
 v46:=Tryz.zeroValue271
 t116:=Tryz.underlying377
 a116:=Tryz.isAgg377
 z116:=Tryz.sizeOf377
 t117:=Tryz.underlying378
 a117:=Tryz.isAgg378
 z117:=Tryz.sizeOf378
 v117:=Tryz.zeroValue378
 t124:=Tryz.underlying399
 a124:=Tryz.isAgg399
 z124:=Tryz.sizeOf399
 v124:=Tryz.zeroValue399 }
open Go.RowKit Go.Lib in
theorem Tryz.strings_IndexAny_long (hv116:∀ w,(zeroValue 377).run Tryz.prog w=.ok (.agg (Array.replicate 256 (.bool false))) w) (s chars:ByteArray) (w:World) (h2:2≤chars.size) (h8:8<s.size) (hs:s.size<4294967281) (hcs:chars.size<4294967281) (hascii:∀ (j:Nat) b,chars.data.toList[j]?=some b→b.toNat<128) :
  Calls Tryz.prog 294 #[.string s,.string chars] w fun e w'=>e=.returned (.int .i64 (Lib.indexAny s.data.toList chars.data.toList))∧w'=((w.alloc (.cells (Lib.setCells chars.data.toList) 377)).alloc (.cells (Lib.setCells chars.data.toList) 377)):=Any.strings_IndexAny_long Tryz.lays153 hv116 (by kernel_rfl) s chars w h2 h8 hs hcs hascii
def Tryz.laysNm220_ren:Go.Shelf.Ren:=⟨fun | 20=>100 | n=>n,fun | 22=>29 | 3=>3 | 4=>4 | 0=>0 | n=>n,fun | n=>n⟩
theorem Tryz.laysNm220:Go.Proofs.Lays2.n20 Tryz.prog Tryz.laysNm220_ren:={
 mixed:=by kernel_rfl
 f20:=Tryz.func100.trans (congrArg some (by kernel_rfl))
 t0:=Tryz.underlying0
 a0:=Tryz.isAgg0
 z0:=Tryz.sizeOf0
 v0:=Tryz.zeroValue0
 t3:=Tryz.underlying3
 a3:=Tryz.isAgg3
 z3:=Tryz.sizeOf3
 v3:=Tryz.zeroValue3
 t4:=Tryz.underlying4
 a4:=Tryz.isAgg4
 z4:=Tryz.sizeOf4
 v4:=Tryz.zeroValue4
 t22:=Tryz.underlying29
 a22:=Tryz.isAgg29
 z22:=Tryz.sizeOf29
 v22:=Tryz.zeroValue29
 i3:=by kernel_rfl }
open Go.RowKit Go.Lib Go.Sort in
theorem Tryz.slices_Compact_int (blk off cap:Nat) (zs:List Int) (w:World) (hH:Holds (Value.int .i64) w blk off zs.toArray) (hsz:zs.length≤9223372036854775807) (hcap:zs.length≤cap) :
  Calls Tryz.prog 100 #[.slice (some ⟨blk,off,none⟩) zs.length cap] w fun e w'=>e=.returned (.slice (some ⟨blk,off,none⟩) (Lib.compact zs).length cap)∧∃ q,w'=putRow (Value.int .i64) (Sort.ahead w q) blk off (Lib.compact zs++List.replicate (zs.length - (Lib.compact zs).length) 0).toArray:=Any.slices_Compact_int Tryz.laysNm220 blk off cap zs w hH hsz hcap
open Go.RowKit Go.Lib Go.Sort in
theorem Tryz.slices_Compact_int_empty (a:Option Addr) (cap:Nat) (w:World) :
  Calls Tryz.prog 100 #[.slice a 0 cap] w fun e w'=>e=.returned (.slice a 0 cap)∧w'=w:=Any.slices_Compact_int_empty Tryz.laysNm220 a cap w
def Tryz.lays194_ren:Go.Shelf.Ren:=⟨fun | 194=>107 | n=>n,fun | 31=>105 | 9=>9 | 3=>3 | 4=>4 | 0=>0 | n=>n,fun | n=>n⟩
theorem Tryz.lays194:Go.Proofs.Lays.n194 Tryz.prog Tryz.lays194_ren:={
 mixed:=by kernel_rfl
 f194:=Tryz.func107.trans (congrArg some (by kernel_rfl))
 t0:=Tryz.underlying0
 a0:=Tryz.isAgg0
 z0:=Tryz.sizeOf0
 v0:=Tryz.zeroValue0
 t3:=Tryz.underlying3
 a3:=Tryz.isAgg3
 z3:=Tryz.sizeOf3
 v3:=Tryz.zeroValue3
 t4:=Tryz.underlying4
 a4:=Tryz.isAgg4
 z4:=Tryz.sizeOf4
 v4:=Tryz.zeroValue4
 t9:=Tryz.underlying9
 a9:=Tryz.isAgg9
 z9:=Tryz.sizeOf9
 v9:=Tryz.zeroValue9
 t31:=Tryz.underlying105
 a31:=Tryz.isAgg105
 z31:=Tryz.sizeOf105
 v31:=Tryz.zeroValue105 }
open Go.RowKit Go.Lib Go.Sort in
theorem Tryz.slices_Compact_string (blk off cap:Nat) (zs:List (List UInt8)) (w:World) (hH:Holds encStr w blk off zs.toArray) (hsz:zs.length≤9223372036854775807) (hcap:zs.length≤cap) :
  Calls Tryz.prog 107 #[.slice (some ⟨blk,off,none⟩) zs.length cap] w fun e w'=>e=.returned (.slice (some ⟨blk,off,none⟩) (Lib.compact zs).length cap)∧∃ q,w'=putRow encStr (Sort.ahead w q) blk off (Lib.compact zs++List.replicate (zs.length - (Lib.compact zs).length) []).toArray:=Any.slices_Compact_string Tryz.lays194 blk off cap zs w hH hsz hcap
open Go.RowKit Go.Lib Go.Sort in
theorem Tryz.slices_Compact_string_empty (a:Option Addr) (cap:Nat) (w:World) :
  Calls Tryz.prog 107 #[.slice a 0 cap] w fun e w'=>e=.returned (.slice a 0 cap)∧w'=w:=Any.slices_Compact_string_empty Tryz.lays194 a cap w
open Go.RowKit Go.Sort in
theorem Tryz.slices_Sort_string_none (p:Option Addr) (cap:Nat) (w:World) :
  Calls Tryz.prog 106 #[.slice p 0 cap] w fun e w'=>e=.returned (.tuple #[])∧w'=w:=Any.slices_Sort_string_none Tryz.lays190 p cap w
open Go.RowKit Go.Sort in
theorem Tryz.slices_Sort_int_none (p:Option Addr) (cap:Nat) (w:World) :
  Calls Tryz.prog 182 #[.slice p 0 cap] w fun e w'=>e=.returned (.tuple #[])∧w'=w:=Any.slices_Sort_int_none Tryz.lays189 p cap w
end Go.Proofs
