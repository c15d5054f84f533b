/- Part of the proof of the statement that the claim's last text names: contracts of functions and laws of the symbolic layer. -/
import Derived.Test.YtidbmbpeblmliaaGreatDoorU13
import Derived.Test.YtidbmbpeblmliaaGreatDoorU26
import Derived.Test.YtidbmbpeblmliaaGreatDoorU14
set_option linter.unusedVariables false
set_option linter.unusedSimpArgs false
namespace Go.Sym
theorem CsLe.nil:CsLe [] []:=trivial
theorem CsLe.app:∀ {a b x y:List C},CsLe a b→CsLe x y→CsLe (a++x) (b++y)
 | [],[],_,_,_,h=>h
 | c :: a,e :: b,_,_,h,h2=>⟨h.1,CsLe.app h.2 h2⟩
 | [],_ :: _,_,_,h,_=>h.elim
 | _ :: _,[],_,_,h,_=>h.elim
theorem CLe.lstF{sz n:Nat}{f g:Nat→List C}(h:∀ i,i<n→CsLe (f i) (g i)):CLe (.lst sz n f) (.lst sz n g):=fun K v hv=>by
 have hs:=fun i hi=>(h i hi).spec
 cases hv with
 | lst0=>exact .lst0 _ _
 | lst1=>exact .lst1 _ _ _
 | lst _ _ _ b off cap arr T fz v hK hg hl hr ho hcap hmx =>
  exact .lst sz n g b off cap arr T fz v hK hg (fun i hi=>by rw [← (hs i hi).1];exact hl i hi) (fun i j hi hj=>(hs i hi).2 j _ _ (hr i j hi hj)) ho hcap hmx
end Go.Sym
namespace Go.Proofs.YtidbmbpeblmliaaGreatDoor
open Go.Sym
theorem of_int{cs:List C}(h:(Sh.int .i64).ok cs):∃ x:Int,CsLe cs [cI x]:=by
 obtain ⟨n,rfl,_⟩:=h
 exact ⟨n,CLe.refl _,trivial⟩
theorem of_bool{cs:List C}(h:Sh.bool.ok cs):∃ x:Bool,CsLe cs [.bool x]:=by
 obtain ⟨n,rfl⟩:=h
 exact ⟨n,CLe.refl _,trivial⟩
theorem of_str{cs:List C}(h:Sh.str.ok cs):∃ x:BA,CsLe cs [.str x]:=by
 obtain ⟨n,rfl,_⟩:=h
 exact ⟨n,CLe.refl _,trivial⟩
theorem of_sl{α:Type}{enc:α→List C}{z:α}{sz:Nat}{s:Sh}(h1:∀ cs,s.ok cs→∃ x,CsLe cs (enc x)){cs:List C}(h:(Sh.sl sz s).ok cs):∃ l:List α,CsLe cs [.lst sz l.length (elM enc z l)]:=by
 obtain ⟨n,f,rfl,hn,hf⟩:=h
 classical
 obtain ⟨l,hl,hle⟩:∃ l:List α,l.length=n∧∀ i,i<n→CsLe (f i) (elM enc z l i):=by
  refine ⟨(List.range n).map fun i=>if h:i<n then (h1 _ (hf i h)).choose else z,by simp,fun i hi=>?_⟩
  simp only [elM,gE,List.getElem?_map,List.getElem?_range hi,Option.map_some,Option.getD_some,hi,dif_pos]
  exact (h1 _ (hf i hi)).choose_spec
 subst hl
 exact ⟨l,CLe.lstF hle,trivial⟩
def shDet:Sh:=.cat (.int .i64) (.cat (.int .i64) (.cat (.int .i64) (.cat (.int .i64) (.cat (.int .i64) (.nil)))))
theorem ofDet{cs:List C}(h:shDet.ok cs):∃ x:Det,CsLe cs (encDet x):=by
 obtain ⟨c0,r0,rfl,a0,b0⟩:=h
 obtain ⟨x0,k0⟩:=of_int a0
 obtain ⟨c1,r1,rfl,a1,b1⟩:=b0
 obtain ⟨x1,k1⟩:=of_int a1
 obtain ⟨c2,r2,rfl,a2,b2⟩:=b1
 obtain ⟨x2,k2⟩:=of_int a2
 obtain ⟨c3,r3,rfl,a3,b3⟩:=b2
 obtain ⟨x3,k3⟩:=of_int a3
 obtain ⟨c4,r4,rfl,a4,b4⟩:=b3
 obtain ⟨x4,k4⟩:=of_int a4
 obtain rfl:=b4
 exact ⟨⟨x0,x1,x2,x3,x4⟩,(k0.app (k1.app (k2.app (k3.app (k4.app CsLe.nil)))))⟩
def shTel:Sh:=.cat .str (.cat (.int .i64) (.cat (.int .i64) (.cat (.int .i64) (.cat shDet (.nil)))))
theorem ofTel{cs:List C}(h:shTel.ok cs):∃ x:Tel,CsLe cs (encTel x):=by
 obtain ⟨c0,r0,rfl,a0,b0⟩:=h
 obtain ⟨x0,k0⟩:=of_str a0
 obtain ⟨c1,r1,rfl,a1,b1⟩:=b0
 obtain ⟨x1,k1⟩:=of_int a1
 obtain ⟨c2,r2,rfl,a2,b2⟩:=b1
 obtain ⟨x2,k2⟩:=of_int a2
 obtain ⟨c3,r3,rfl,a3,b3⟩:=b2
 obtain ⟨x3,k3⟩:=of_int a3
 obtain ⟨c4,r4,rfl,a4,b4⟩:=b3
 obtain ⟨x4,k4⟩:=ofDet a4
 obtain rfl:=b4
 exact ⟨⟨x0,x1,x2,x3,x4⟩,(k0.app (k1.app (k2.app (k3.app (k4.app CsLe.nil)))))⟩
def shPtn:Sh:=.cat .str (.cat (.int .i64) (.nil))
theorem ofPtn{cs:List C}(h:shPtn.ok cs):∃ x:Ptn,CsLe cs (encPtn x):=by
 obtain ⟨c0,r0,rfl,a0,b0⟩:=h
 obtain ⟨x0,k0⟩:=of_str a0
 obtain ⟨c1,r1,rfl,a1,b1⟩:=b0
 obtain ⟨x1,k1⟩:=of_int a1
 obtain rfl:=b1
 exact ⟨⟨x0,x1⟩,(k0.app (k1.app CsLe.nil))⟩
def shNd:Sh:=.cat (.int .i64) (.cat (.int .i64) (.cat .str (.cat (.sl 1 (.int .i64)) (.nil))))
theorem ofNd{cs:List C}(h:shNd.ok cs):∃ x:Nd,CsLe cs (encNd x):=by
 obtain ⟨c0,r0,rfl,a0,b0⟩:=h
 obtain ⟨x0,k0⟩:=of_int a0
 obtain ⟨c1,r1,rfl,a1,b1⟩:=b0
 obtain ⟨x1,k1⟩:=of_int a1
 obtain ⟨c2,r2,rfl,a2,b2⟩:=b1
 obtain ⟨x2,k2⟩:=of_str a2
 obtain ⟨c3,r3,rfl,a3,b3⟩:=b2
 obtain ⟨x3,k3⟩:=(of_sl (enc:=Sym.encI) (z:=0) (fun _ h=>of_int h)) a3
 obtain rfl:=b3
 exact ⟨⟨x0,x1,x2,x3⟩,(k0.app (k1.app (k2.app (k3.app CsLe.nil))))⟩
def shStp:Sh:=.cat (.int .i64) (.cat (.int .i64) (.cat (.int .i64) (.nil)))
theorem ofStp{cs:List C}(h:shStp.ok cs):∃ x:Stp,CsLe cs (encStp x):=by
 obtain ⟨c0,r0,rfl,a0,b0⟩:=h
 obtain ⟨x0,k0⟩:=of_int a0
 obtain ⟨c1,r1,rfl,a1,b1⟩:=b0
 obtain ⟨x1,k1⟩:=of_int a1
 obtain ⟨c2,r2,rfl,a2,b2⟩:=b1
 obtain ⟨x2,k2⟩:=of_int a2
 obtain rfl:=b2
 exact ⟨⟨x0,x1,x2⟩,(k0.app (k1.app (k2.app CsLe.nil)))⟩
def shSq:Sh:=.cat (.sl 3 shStp) (.cat (.int .i64) (.nil))
theorem ofSq{cs:List C}(h:shSq.ok cs):∃ x:Sq,CsLe cs (encSq x):=by
 obtain ⟨c0,r0,rfl,a0,b0⟩:=h
 obtain ⟨x0,k0⟩:=(of_sl (enc:=encStp) (z:=zStp) (fun _ h=>ofStp h)) a0
 obtain ⟨c1,r1,rfl,a1,b1⟩:=b0
 obtain ⟨x1,k1⟩:=of_int a1
 obtain rfl:=b1
 exact ⟨⟨x0,x1⟩,(k0.app (k1.app CsLe.nil))⟩
def shPrg:Sh:=.cat .str (.cat (.int .i64) (.cat (.sl 4 shNd) (.cat (.int .i64) (.cat (.int .i64) (.cat (.sl 1 (.int .i64)) (.cat shSq (.cat (.int .i64) (.cat (.int .i64) (.nil)))))))))
theorem ofPrg{cs:List C}(h:shPrg.ok cs):∃ x:Prg,CsLe cs (encPrg x):=by
 obtain ⟨c0,r0,rfl,a0,b0⟩:=h
 obtain ⟨x0,k0⟩:=of_str a0
 obtain ⟨c1,r1,rfl,a1,b1⟩:=b0
 obtain ⟨x1,k1⟩:=of_int a1
 obtain ⟨c2,r2,rfl,a2,b2⟩:=b1
 obtain ⟨x2,k2⟩:=(of_sl (enc:=encNd) (z:=zNd) (fun _ h=>ofNd h)) a2
 obtain ⟨c3,r3,rfl,a3,b3⟩:=b2
 obtain ⟨x3,k3⟩:=of_int a3
 obtain ⟨c4,r4,rfl,a4,b4⟩:=b3
 obtain ⟨x4,k4⟩:=of_int a4
 obtain ⟨c5,r5,rfl,a5,b5⟩:=b4
 obtain ⟨x5,k5⟩:=(of_sl (enc:=Sym.encI) (z:=0) (fun _ h=>of_int h)) a5
 obtain ⟨c6,r6,rfl,a6,b6⟩:=b5
 obtain ⟨x6,k6⟩:=ofSq a6
 obtain ⟨c7,r7,rfl,a7,b7⟩:=b6
 obtain ⟨x7,k7⟩:=of_int a7
 obtain ⟨c8,r8,rfl,a8,b8⟩:=b7
 obtain ⟨x8,k8⟩:=of_int a8
 obtain rfl:=b8
 exact ⟨⟨x0,x1,x2,x3,x4,x5,x6,x7,x8⟩,(k0.app (k1.app (k2.app (k3.app (k4.app (k5.app (k6.app (k7.app (k8.app CsLe.nil)))))))))⟩
def shFst:Sh:=.cat (.int .i64) (.cat (.int .i64) (.cat (.int .i64) (.cat (.int .i64) (.nil))))
theorem ofFst{cs:List C}(h:shFst.ok cs):∃ x:Fst,CsLe cs (encFst x):=by
 obtain ⟨c0,r0,rfl,a0,b0⟩:=h
 obtain ⟨x0,k0⟩:=of_int a0
 obtain ⟨c1,r1,rfl,a1,b1⟩:=b0
 obtain ⟨x1,k1⟩:=of_int a1
 obtain ⟨c2,r2,rfl,a2,b2⟩:=b1
 obtain ⟨x2,k2⟩:=of_int a2
 obtain ⟨c3,r3,rfl,a3,b3⟩:=b2
 obtain ⟨x3,k3⟩:=of_int a3
 obtain rfl:=b3
 exact ⟨⟨x0,x1,x2,x3⟩,(k0.app (k1.app (k2.app (k3.app CsLe.nil))))⟩
def shFlw:Sh:=.cat .str (.cat (.int .i64) (.cat (.sl 4 shFst) (.nil)))
theorem ofFlw{cs:List C}(h:shFlw.ok cs):∃ x:Flw,CsLe cs (encFlw x):=by
 obtain ⟨c0,r0,rfl,a0,b0⟩:=h
 obtain ⟨x0,k0⟩:=of_str a0
 obtain ⟨c1,r1,rfl,a1,b1⟩:=b0
 obtain ⟨x1,k1⟩:=of_int a1
 obtain ⟨c2,r2,rfl,a2,b2⟩:=b1
 obtain ⟨x2,k2⟩:=(of_sl (enc:=encFst) (z:=zFst) (fun _ h=>ofFst h)) a2
 obtain rfl:=b2
 exact ⟨⟨x0,x1,x2⟩,(k0.app (k1.app (k2.app CsLe.nil)))⟩
def shSub:Sh:=.cat (.int .i64) (.cat (.int .i64) (.cat (.int .i64) (.cat (.sl 4 shNd) (.nil))))
theorem ofSub{cs:List C}(h:shSub.ok cs):∃ x:Sub,CsLe cs (encSub x):=by
 obtain ⟨c0,r0,rfl,a0,b0⟩:=h
 obtain ⟨x0,k0⟩:=of_int a0
 obtain ⟨c1,r1,rfl,a1,b1⟩:=b0
 obtain ⟨x1,k1⟩:=of_int a1
 obtain ⟨c2,r2,rfl,a2,b2⟩:=b1
 obtain ⟨x2,k2⟩:=of_int a2
 obtain ⟨c3,r3,rfl,a3,b3⟩:=b2
 obtain ⟨x3,k3⟩:=(of_sl (enc:=encNd) (z:=zNd) (fun _ h=>ofNd h)) a3
 obtain rfl:=b3
 exact ⟨⟨x0,x1,x2,x3⟩,(k0.app (k1.app (k2.app (k3.app CsLe.nil))))⟩
def shWd:Sh:=.cat (.sl 9 shTel) (.cat (.sl 2 shPtn) (.cat (.sl 10 shPrg) (.cat shFlw (.cat (.int .i64) (.cat (.sl 4 shSub) (.cat (.sl 1 (.int .i64)) (.cat (.int .i64) (.nil))))))))
theorem ofWd{cs:List C}(h:shWd.ok cs):∃ x:Wd,CsLe cs (encWd x):=by
 obtain ⟨c0,r0,rfl,a0,b0⟩:=h
 obtain ⟨x0,k0⟩:=(of_sl (enc:=encTel) (z:=zTel) (fun _ h=>ofTel h)) a0
 obtain ⟨c1,r1,rfl,a1,b1⟩:=b0
 obtain ⟨x1,k1⟩:=(of_sl (enc:=encPtn) (z:=zPtn) (fun _ h=>ofPtn h)) a1
 obtain ⟨c2,r2,rfl,a2,b2⟩:=b1
 obtain ⟨x2,k2⟩:=(of_sl (enc:=encPrg) (z:=zPrg) (fun _ h=>ofPrg h)) a2
 obtain ⟨c3,r3,rfl,a3,b3⟩:=b2
 obtain ⟨x3,k3⟩:=ofFlw a3
 obtain ⟨c4,r4,rfl,a4,b4⟩:=b3
 obtain ⟨x4,k4⟩:=of_int a4
 obtain ⟨c5,r5,rfl,a5,b5⟩:=b4
 obtain ⟨x5,k5⟩:=(of_sl (enc:=encSub) (z:=zSub) (fun _ h=>ofSub h)) a5
 obtain ⟨c6,r6,rfl,a6,b6⟩:=b5
 obtain ⟨x6,k6⟩:=(of_sl (enc:=Sym.encI) (z:=0) (fun _ h=>of_int h)) a6
 obtain ⟨c7,r7,rfl,a7,b7⟩:=b6
 obtain ⟨x7,k7⟩:=of_int a7
 obtain rfl:=b7
 exact ⟨⟨x0,x1,x2,x3,x4,x5,x6,x7⟩,(k0.app (k1.app (k2.app (k3.app (k4.app (k5.app (k6.app (k7.app CsLe.nil))))))))⟩
def shSpl:Sh:=.cat (.int .i64) (.cat (.int .i64) (.cat (.int .i64) (.cat (.int .i64) (.cat (.int .i64) (.nil)))))
theorem ofSpl{cs:List C}(h:shSpl.ok cs):∃ x:Spl,CsLe cs (encSpl x):=by
 obtain ⟨c0,r0,rfl,a0,b0⟩:=h
 obtain ⟨x0,k0⟩:=of_int a0
 obtain ⟨c1,r1,rfl,a1,b1⟩:=b0
 obtain ⟨x1,k1⟩:=of_int a1
 obtain ⟨c2,r2,rfl,a2,b2⟩:=b1
 obtain ⟨x2,k2⟩:=of_int a2
 obtain ⟨c3,r3,rfl,a3,b3⟩:=b2
 obtain ⟨x3,k3⟩:=of_int a3
 obtain ⟨c4,r4,rfl,a4,b4⟩:=b3
 obtain ⟨x4,k4⟩:=of_int a4
 obtain rfl:=b4
 exact ⟨⟨x0,x1,x2,x3,x4⟩,(k0.app (k1.app (k2.app (k3.app (k4.app CsLe.nil)))))⟩
def shOv:Sh:=.cat (.int .i64) (.cat (.int .i64) (.cat (.int .i64) (.cat (.int .i64) (.cat (.int .i64) (.cat (.int .i64) (.cat (.int .i64) (.nil)))))))
theorem ofOv{cs:List C}(h:shOv.ok cs):∃ x:Ov,CsLe cs (encOv x):=by
 obtain ⟨c0,r0,rfl,a0,b0⟩:=h
 obtain ⟨x0,k0⟩:=of_int a0
 obtain ⟨c1,r1,rfl,a1,b1⟩:=b0
 obtain ⟨x1,k1⟩:=of_int a1
 obtain ⟨c2,r2,rfl,a2,b2⟩:=b1
 obtain ⟨x2,k2⟩:=of_int a2
 obtain ⟨c3,r3,rfl,a3,b3⟩:=b2
 obtain ⟨x3,k3⟩:=of_int a3
 obtain ⟨c4,r4,rfl,a4,b4⟩:=b3
 obtain ⟨x4,k4⟩:=of_int a4
 obtain ⟨c5,r5,rfl,a5,b5⟩:=b4
 obtain ⟨x5,k5⟩:=of_int a5
 obtain ⟨c6,r6,rfl,a6,b6⟩:=b5
 obtain ⟨x6,k6⟩:=of_int a6
 obtain rfl:=b6
 exact ⟨⟨x0,x1,x2,x3,x4,x5,x6⟩,(k0.app (k1.app (k2.app (k3.app (k4.app (k5.app (k6.app CsLe.nil)))))))⟩
def shDfc:Sh:=.cat (.int .i64) (.cat (.int .i64) (.cat (.int .i64) (.cat (.int .i64) (.cat (.int .i64) (.nil)))))
theorem ofDfc{cs:List C}(h:shDfc.ok cs):∃ x:Dfc,CsLe cs (encDfc x):=by
 obtain ⟨c0,r0,rfl,a0,b0⟩:=h
 obtain ⟨x0,k0⟩:=of_int a0
 obtain ⟨c1,r1,rfl,a1,b1⟩:=b0
 obtain ⟨x1,k1⟩:=of_int a1
 obtain ⟨c2,r2,rfl,a2,b2⟩:=b1
 obtain ⟨x2,k2⟩:=of_int a2
 obtain ⟨c3,r3,rfl,a3,b3⟩:=b2
 obtain ⟨x3,k3⟩:=of_int a3
 obtain ⟨c4,r4,rfl,a4,b4⟩:=b3
 obtain ⟨x4,k4⟩:=of_int a4
 obtain rfl:=b4
 exact ⟨⟨x0,x1,x2,x3,x4⟩,(k0.app (k1.app (k2.app (k3.app (k4.app CsLe.nil)))))⟩
def shPay:Sh:=.cat (.int .i64) (.cat (.int .i64) (.cat (.int .i64) (.cat (.int .i64) (.nil))))
theorem ofPay{cs:List C}(h:shPay.ok cs):∃ x:Pay,CsLe cs (encPay x):=by
 obtain ⟨c0,r0,rfl,a0,b0⟩:=h
 obtain ⟨x0,k0⟩:=of_int a0
 obtain ⟨c1,r1,rfl,a1,b1⟩:=b0
 obtain ⟨x1,k1⟩:=of_int a1
 obtain ⟨c2,r2,rfl,a2,b2⟩:=b1
 obtain ⟨x2,k2⟩:=of_int a2
 obtain ⟨c3,r3,rfl,a3,b3⟩:=b2
 obtain ⟨x3,k3⟩:=of_int a3
 obtain rfl:=b3
 exact ⟨⟨x0,x1,x2,x3⟩,(k0.app (k1.app (k2.app (k3.app CsLe.nil))))⟩
def shAlr:Sh:=.cat (.int .i64) (.cat (.int .i64) (.cat (.int .i64) (.cat (.int .i64) (.cat (.int .i64) (.nil)))))
theorem ofAlr{cs:List C}(h:shAlr.ok cs):∃ x:Alr,CsLe cs (encAlr x):=by
 obtain ⟨c0,r0,rfl,a0,b0⟩:=h
 obtain ⟨x0,k0⟩:=of_int a0
 obtain ⟨c1,r1,rfl,a1,b1⟩:=b0
 obtain ⟨x1,k1⟩:=of_int a1
 obtain ⟨c2,r2,rfl,a2,b2⟩:=b1
 obtain ⟨x2,k2⟩:=of_int a2
 obtain ⟨c3,r3,rfl,a3,b3⟩:=b2
 obtain ⟨x3,k3⟩:=of_int a3
 obtain ⟨c4,r4,rfl,a4,b4⟩:=b3
 obtain ⟨x4,k4⟩:=of_int a4
 obtain rfl:=b4
 exact ⟨⟨x0,x1,x2,x3,x4⟩,(k0.app (k1.app (k2.app (k3.app (k4.app CsLe.nil)))))⟩
def shFrn:Sh:=.cat shAlr (.cat (.int .i64) (.nil))
theorem ofFrn{cs:List C}(h:shFrn.ok cs):∃ x:Frn,CsLe cs (encFrn x):=by
 obtain ⟨c0,r0,rfl,a0,b0⟩:=h
 obtain ⟨x0,k0⟩:=ofAlr a0
 obtain ⟨c1,r1,rfl,a1,b1⟩:=b0
 obtain ⟨x1,k1⟩:=of_int a1
 obtain rfl:=b1
 exact ⟨⟨x0,x1⟩,(k0.app (k1.app CsLe.nil))⟩
def shScr:Sh:=.cat (.int .i64) (.cat (.int .i64) (.cat (.sl 5 shSpl) (.cat (.sl 7 shOv) (.cat (.sl 5 shDfc) (.cat (.sl 4 shPay) (.cat (.sl 6 shFrn) (.nil)))))))
theorem ofScr{cs:List C}(h:shScr.ok cs):∃ x:Scr,CsLe cs (encScr x):=by
 obtain ⟨c0,r0,rfl,a0,b0⟩:=h
 obtain ⟨x0,k0⟩:=of_int a0
 obtain ⟨c1,r1,rfl,a1,b1⟩:=b0
 obtain ⟨x1,k1⟩:=of_int a1
 obtain ⟨c2,r2,rfl,a2,b2⟩:=b1
 obtain ⟨x2,k2⟩:=(of_sl (enc:=encSpl) (z:=zSpl) (fun _ h=>ofSpl h)) a2
 obtain ⟨c3,r3,rfl,a3,b3⟩:=b2
 obtain ⟨x3,k3⟩:=(of_sl (enc:=encOv) (z:=zOv) (fun _ h=>ofOv h)) a3
 obtain ⟨c4,r4,rfl,a4,b4⟩:=b3
 obtain ⟨x4,k4⟩:=(of_sl (enc:=encDfc) (z:=zDfc) (fun _ h=>ofDfc h)) a4
 obtain ⟨c5,r5,rfl,a5,b5⟩:=b4
 obtain ⟨x5,k5⟩:=(of_sl (enc:=encPay) (z:=zPay) (fun _ h=>ofPay h)) a5
 obtain ⟨c6,r6,rfl,a6,b6⟩:=b5
 obtain ⟨x6,k6⟩:=(of_sl (enc:=encFrn) (z:=zFrn) (fun _ h=>ofFrn h)) a6
 obtain rfl:=b6
 exact ⟨⟨x0,x1,x2,x3,x4,x5,x6⟩,(k0.app (k1.app (k2.app (k3.app (k4.app (k5.app (k6.app CsLe.nil)))))))⟩
def shRg:Sh:=.cat (.int .i64) (.cat (.int .i64) (.cat .bool (.nil)))
theorem ofRg{cs:List C}(h:shRg.ok cs):∃ x:Rg,CsLe cs (encRg x):=by
 obtain ⟨c0,r0,rfl,a0,b0⟩:=h
 obtain ⟨x0,k0⟩:=of_int a0
 obtain ⟨c1,r1,rfl,a1,b1⟩:=b0
 obtain ⟨x1,k1⟩:=of_int a1
 obtain ⟨c2,r2,rfl,a2,b2⟩:=b1
 obtain ⟨x2,k2⟩:=of_bool a2
 obtain rfl:=b2
 exact ⟨⟨x0,x1,x2⟩,(k0.app (k1.app (k2.app CsLe.nil)))⟩
def shPx:Sh:=.cat (.int .i64) (.cat (.int .i64) (.cat (.int .i64) (.cat (.int .i64) (.nil))))
theorem ofPx{cs:List C}(h:shPx.ok cs):∃ x:Px,CsLe cs (encPx x):=by
 obtain ⟨c0,r0,rfl,a0,b0⟩:=h
 obtain ⟨x0,k0⟩:=of_int a0
 obtain ⟨c1,r1,rfl,a1,b1⟩:=b0
 obtain ⟨x1,k1⟩:=of_int a1
 obtain ⟨c2,r2,rfl,a2,b2⟩:=b1
 obtain ⟨x2,k2⟩:=of_int a2
 obtain ⟨c3,r3,rfl,a3,b3⟩:=b2
 obtain ⟨x3,k3⟩:=of_int a3
 obtain rfl:=b3
 exact ⟨⟨x0,x1,x2,x3⟩,(k0.app (k1.app (k2.app (k3.app CsLe.nil))))⟩
def shCs:Sh:=.cat (.int .i64) (.cat (.int .i64) (.cat (.int .i64) (.cat .bool (.nil))))
theorem ofCs{cs:List C}(h:shCs.ok cs):∃ x:Cs,CsLe cs (encCs x):=by
 obtain ⟨c0,r0,rfl,a0,b0⟩:=h
 obtain ⟨x0,k0⟩:=of_int a0
 obtain ⟨c1,r1,rfl,a1,b1⟩:=b0
 obtain ⟨x1,k1⟩:=of_int a1
 obtain ⟨c2,r2,rfl,a2,b2⟩:=b1
 obtain ⟨x2,k2⟩:=of_int a2
 obtain ⟨c3,r3,rfl,a3,b3⟩:=b2
 obtain ⟨x3,k3⟩:=of_bool a3
 obtain rfl:=b3
 exact ⟨⟨x0,x1,x2,x3⟩,(k0.app (k1.app (k2.app (k3.app CsLe.nil))))⟩
def shFol:Sh:=.cat (.int .i64) (.cat (.int .i64) (.cat (.int .i64) (.cat (.int .i64) (.cat (.int .i64) (.nil)))))
theorem ofFol{cs:List C}(h:shFol.ok cs):∃ x:Fol,CsLe cs (encFol x):=by
 obtain ⟨c0,r0,rfl,a0,b0⟩:=h
 obtain ⟨x0,k0⟩:=of_int a0
 obtain ⟨c1,r1,rfl,a1,b1⟩:=b0
 obtain ⟨x1,k1⟩:=of_int a1
 obtain ⟨c2,r2,rfl,a2,b2⟩:=b1
 obtain ⟨x2,k2⟩:=of_int a2
 obtain ⟨c3,r3,rfl,a3,b3⟩:=b2
 obtain ⟨x3,k3⟩:=of_int a3
 obtain ⟨c4,r4,rfl,a4,b4⟩:=b3
 obtain ⟨x4,k4⟩:=of_int a4
 obtain rfl:=b4
 exact ⟨⟨x0,x1,x2,x3,x4⟩,(k0.app (k1.app (k2.app (k3.app (k4.app CsLe.nil)))))⟩
def shTa:Sh:=.cat (.int .i64) (.cat (.int .i64) (.cat (.int .i64) (.cat (.int .i64) (.nil))))
theorem ofTa{cs:List C}(h:shTa.ok cs):∃ x:Ta,CsLe cs (encTa x):=by
 obtain ⟨c0,r0,rfl,a0,b0⟩:=h
 obtain ⟨x0,k0⟩:=of_int a0
 obtain ⟨c1,r1,rfl,a1,b1⟩:=b0
 obtain ⟨x1,k1⟩:=of_int a1
 obtain ⟨c2,r2,rfl,a2,b2⟩:=b1
 obtain ⟨x2,k2⟩:=of_int a2
 obtain ⟨c3,r3,rfl,a3,b3⟩:=b2
 obtain ⟨x3,k3⟩:=of_int a3
 obtain rfl:=b3
 exact ⟨⟨x0,x1,x2,x3⟩,(k0.app (k1.app (k2.app (k3.app CsLe.nil))))⟩
def shSta:Sh:=.cat (.int .i64) (.cat (.int .i64) (.cat (.sl 3 shRg) (.cat (.sl 4 shPx) (.cat (.sl 1 (.sl 4 shCs)) (.cat (.sl 1 (.int .i64)) (.cat (.sl 5 shFol) (.cat (.sl 4 shTa) (.nil))))))))
theorem ofSta{cs:List C}(h:shSta.ok cs):∃ x:Sta,CsLe cs (encSta x):=by
 obtain ⟨c0,r0,rfl,a0,b0⟩:=h
 obtain ⟨x0,k0⟩:=of_int a0
 obtain ⟨c1,r1,rfl,a1,b1⟩:=b0
 obtain ⟨x1,k1⟩:=of_int a1
 obtain ⟨c2,r2,rfl,a2,b2⟩:=b1
 obtain ⟨x2,k2⟩:=(of_sl (enc:=encRg) (z:=zRg) (fun _ h=>ofRg h)) a2
 obtain ⟨c3,r3,rfl,a3,b3⟩:=b2
 obtain ⟨x3,k3⟩:=(of_sl (enc:=encPx) (z:=zPx) (fun _ h=>ofPx h)) a3
 obtain ⟨c4,r4,rfl,a4,b4⟩:=b3
 obtain ⟨x4,k4⟩:=(of_sl (enc:=(Sym.encL 4 encCs zCs)) (z:=[]) (fun _ h=>(of_sl (enc:=encCs) (z:=zCs) (fun _ h=>ofCs h)) h)) a4
 obtain ⟨c5,r5,rfl,a5,b5⟩:=b4
 obtain ⟨x5,k5⟩:=(of_sl (enc:=Sym.encI) (z:=0) (fun _ h=>of_int h)) a5
 obtain ⟨c6,r6,rfl,a6,b6⟩:=b5
 obtain ⟨x6,k6⟩:=(of_sl (enc:=encFol) (z:=zFol) (fun _ h=>ofFol h)) a6
 obtain ⟨c7,r7,rfl,a7,b7⟩:=b6
 obtain ⟨x7,k7⟩:=(of_sl (enc:=encTa) (z:=zTa) (fun _ h=>ofTa h)) a7
 obtain rfl:=b7
 exact ⟨⟨x0,x1,x2,x3,x4,x5,x6,x7⟩,(k0.app (k1.app (k2.app (k3.app (k4.app (k5.app (k6.app (k7.app CsLe.nil))))))))⟩
end Go.Proofs.YtidbmbpeblmliaaGreatDoor
