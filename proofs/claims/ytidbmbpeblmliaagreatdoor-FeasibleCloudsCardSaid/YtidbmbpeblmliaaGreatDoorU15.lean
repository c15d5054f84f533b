/- Part of the proof of the statement that the claim's last text names: contracts of functions and laws of the symbolic layer. -/
import Derived.Laws.RangeAny
import Derived.Laws.Runes
import Derived.Lib.IndexAny
import Derived.Lib.DecodeN
import Derived.WalkMore
import Derived.Shelf.RegionOpenPlain
import Derived.Test.YtidbmbpeblmliaaGreatDoorU14
import Derived.Below
import Derived.Test.YtidbmbpeblmliaaGreatDoorU12
import Derived.Test.YtidbmbpeblmliaaGreatDoorU13
set_option linter.unusedVariables false
set_option linter.unusedSimpArgs false
namespace Go.Proofs.YtidbmbpeblmliaaGreatDoor.Idx
open Go.Proofs Go.Proofs.YtidbmbpeblmliaaGreatDoor Go.Shelf Go.RowKit Go.Lib
def qn:ByteArray:=⟨#[34,10]⟩
structure Ext (w w':World):Prop where
 os:w'.os=w.os
 tape:w'.tape=w.tape
 output:w'.output=w.output
 heap:∃ ex:Array Obj,w'.heap=w.heap++ex
theorem Ext.refl(w:World):Ext w w:=⟨rfl,rfl,rfl,#[],by simp⟩
theorem Ext.at{w w':World}(h:Ext w w'){k:Nat}{o:Obj}(hk:w.heap[k]?=some o):w'.heap[k]?=some o:=by
 obtain ⟨ex,he⟩:=h.heap
 rw [he,Array.getElem?_append_left (Array.getElem?_eq_some_iff.1 hk).1]
 exact hk
theorem Ext.below{w w':World}(h:Ext w w'):Below w.heap.size w w':=by
 obtain ⟨ex,he⟩:=h.heap
 refine ⟨h.os,h.tape,h.output,by rw [he];simp,fun k hk=>?_⟩
 rw [he,Array.getElem?_append_left hk]
theorem run_next_at{P:Program}{W:World}{k pos:Nat}{s:ByteArray}(ty:TypeId)(hk:W.heap[k]?=some (.stringIter s pos))(h:pos<s.size):
  (Instr.next (.pointer (some ⟨k,0,none⟩)) true ty).run P W=.ok (.tuple #[.bool true,.int .i64 pos,.int .i32 (Utf8.decode s pos).1]) { W with heap:=W.heap.setIfInBounds k (.stringIter s (pos+(Utf8.decode s pos).2)) }:=by
 simp only [Instr.next,getObj,setObj,Sem.run_bind,Sem.run,hk,Result.andThen,h,if_true]
 simp [goInt,Sem.run,hk]
theorem run_next_out{P:Program}{W:World}{k pos:Nat}{s:ByteArray}(ty:TypeId)(hk:W.heap[k]?=some (.stringIter s pos))(h:¬ pos<s.size):
  (Instr.next (.pointer (some ⟨k,0,none⟩)) true ty).run P W=.ok (.tuple #[.bool false]) W:=by
 simp [Instr.next,getObj,Sem.run,hk,h]
theorem get_lt(s:ByteArray)(i:Nat)(h:i<s.size):s.get! i=s[i]'h:=by
 simp [ByteArray.get!,getElem!_pos,h]
 rfl
theorem decode_skip{s:ByteArray}{i:Nat}(h:i<s.size)(ha:128≤(s[i]'h).toNat):
  1≤(Utf8.decode s i).2∧i+(Utf8.decode s i).2≤s.size∧∀ j,i≤j→j<i+(Utf8.decode s i).2→128≤(s.get! j).toNat:=by
 have hb0:128≤(s.get! (i+0)).toNat:=by rw [Nat.add_zero,get_lt s i h];exact ha
 have hn:¬ (s.get! (i+0)).toNat<128:=by omega
 have one:1≤1∧i+1≤s.size∧∀ j,i≤j→j<i+1→128≤(s.get! j).toNat:=⟨Nat.le_refl _,by omega,fun j h1 h2=>by rw [show j=i+0 by omega];exact hb0⟩
 simp only [Utf8.decode,hn,if_false,Bool.and_eq_true,beq_iff_eq,decide_eq_true_eq]
 split
 ·rename_i hc
  split
  ·refine ⟨by show 1≤2;omega,by show i+2≤s.size;omega,fun j h1 h2=>?_⟩
   have h2:j<i+2:=h2
   rcases (by omega:j=i+0∨j=i+1) with rfl | rfl<;>omega
  ·exact one
 ·split
  ·rename_i hc
   split
   ·refine ⟨by show 1≤3;omega,by show i+3≤s.size;omega,fun j h1 h2=>?_⟩
    have h2:j<i+3:=h2
    rcases (by omega:j=i+0∨j=i+1∨j=i+2) with rfl | rfl | rfl<;>omega
   ·exact one
  ·split
   ·rename_i hc
    split
    ·refine ⟨by show 1≤4;omega,by show i+4≤s.size;omega,fun j h1 h2=>?_⟩
     have h2:j<i+4:=h2
     rcases (by omega:j=i+0∨j=i+1∨j=i+2∨j=i+3) with rfl | rfl | rfl | rfl<;>omega
    ·exact one
   ·exact one
theorem decode_valid{s:ByteArray}{i:Nat}:(Utf8.decode s i).1=65533∨Utf8.valid ((Utf8.decode s i).1:Int)=true:=by
 have hb:∀ k,(s.get! k).toNat<256:=fun k=>(s.get! k).toNat_lt
 have h0:=hb i;have h1:=hb (i+1);have h2:=hb (i+2);have h3:=hb (i+3)
 rw [Lib.decode_at]
 unfold decodeN
 repeat' split
 all_goals first | (left;rfl) | (right;rw [Go.validRune_eq,Go.validRune,decide_eq_true_eq];dsimp only;omega)
theorem qn_lt(i:Nat)(hi:i<qn.size):(qn[i]'hi).toNat<128:=by
 match i,hi with
 | 0,_=>exact (by decide:(qn[0]'(by decide)).toNat<128)
 | 1,_=>exact (by decide:(qn[1]'(by decide)).toNat<128)
set_option maxHeartbeats 8000000 in
set_option maxRecDepth 1000000 in
theorem irune_bad (w:World):Calls Tryz.prog 339 #[.string qn,.int .i32 65533] w fun e w'=>e=.returned (.int .i64 (-1))∧Ext w w':=by
 have mixed:Tryz.prog.follows .mixedOrders=true:=by kernel_rfl
 go_enter Tryz.func339,Tryz.ntmps339
 go_wp2
 go_loopg [5,6] 2 (fun g _ _ wx=>∃ i:Nat,i+g=2∧wx=w.iter qn i)
 case atStart=>exact ⟨0,by omega,rfl⟩
 case round =>
  obtain ⟨i,hig,rfl⟩:=hrel
  cases gk with
  | zero =>
   obtain rfl:i=2:=by omega
   have hnx:=fun ty=>run_next_end (P:=Tryz.prog) w qn 2 ty (by decide)
   go_wp2
   go_ret
   exact ⟨rfl,⟨rfl,rfl,rfl,#[.stringIter qn 2],by show w.heap.push _=w.heap++#[_];rw [Array.append_singleton]⟩⟩
  | succ g =>
   have hi:i<qn.size:=by show i<2;omega
   obtain ⟨x,hx⟩:∃ x:UInt8,qn[i]'hi=x:=⟨_,rfl⟩
   have hx128:x.toNat<128:=by rw [← hx];exact qn_lt i hi
   have hnx:=fun ty=>run_next_ascii (P:=Tryz.prog) w qn i ty hi (by rw [hx];exact hx128)
   rw [hx] at hnx
   have hne:((x.toNat:Int)==65533)=false:=beq_eq_false_iff_ne.2 (by omega)
   clear hx
   go_wp2
   go_roundg g
   case measure=>omega
   case rel=>exact ⟨i+1,by omega,rfl⟩
set_option maxHeartbeats 8000000 in
set_option maxRecDepth 1000000 in
theorem irune_high (w:World) (r:Int) (h0:128≤r) (hv:Utf8.valid r=true) (hn:r≠65533):Calls Tryz.prog 339 #[.string qn,.int .i32 r] w fun e w'=>e=.returned (.int .i64 (-1))∧Ext w w':=by
 have mixed:Tryz.prog.follows .mixedOrders=true:=by kernel_rfl
 obtain ⟨e1,e2,e3⟩:=encode_facts r hv h0
 have hvr:Lib.validRune r=true:=by rw [Go.validRune_eq] at hv;exact hv
 have hlt:decide (r<128)=false:=decide_eq_false (by omega)
 have hne:(r==65533)=false:=beq_eq_false_iff_ne.2 hn
 have hge:decide (0≤r)=true:=decide_eq_true (by omega)
 have ecv:∀ W:World,(convert 21 9 (.int .i32 r)).run Tryz.prog W=.ok (.string (Utf8.encode r)) W:=fun W=>run_convert_int_string W _ _ _ _ (by rw [Tryz.underlying21];rfl) Tryz.underlying9
 have e323:∀ args w,(callFunc 361 args).run Tryz.prog w=.ok (.enter 361 args) w:=enters_of Tryz.func361 (by kernel_rfl) rfl
 have e248:∀ args w,(callFunc 292 args).run Tryz.prog w=.ok (.enter 292 args) w:=enters_of Tryz.func292 (by kernel_rfl) rfl
 by_cases h2:(Utf8.encode r).size=2
 ·have hq:qn.size=2:=rfl
  obtain ⟨c,hc,hc128⟩:∃ c:UInt8,(Utf8.encode r)[1]'(by omega)=c∧128≤c.toNat:=⟨_,rfl,by
   have:=e3 (by omega)
   simpa only [h2] using this⟩
  have hq1:((qn[1]'(by decide)).toNat:Int)=10:=rfl
  have hne2:(10 != (c.toNat:Int))=true:=by
   rw [bne_iff_ne];omega
  have hw2:IntKind.i64.wrap 2=2:=rfl
  have hx317:∀ W:World,(callFunc 355 #[.string ByteArray.empty,.int .u8 (c.toNat:Int)]).run Tryz.prog W=.ok (.value (.int .i64 (-1))) W:=fun W=>by
   rw [run_callFunc_extern Tryz.func355 (by kernel_rfl) (by kernel_rfl) (by kernel_rfl) (e:=Extern.BytealgIndexByte.indexByte) (by kernel_rfl),run_indexByte_string]
   rfl
  have hib:Lib.indexByte (qn.extract 2 2).data.toList ((c.toNat:Int)).toNat.toUInt8=-1:=rfl
  go_enter Tryz.func339,Tryz.ntmps339
  go_wp2_with (go_at_fn 361;refine (Tryz.utf8_ValidRune r _).mono ?_;rintro e w' ⟨rfl,hw⟩;rw [hw,hvr])
  go_step3
  go_wp2
  go_loopg [9] 0 (fun g i wx=>g=0∧i=.int .i64 1∧wx=w)
  case atStart=>exact ⟨rfl,rfl,rfl⟩
  case round =>
   obtain ⟨rfl,rfl,rfl⟩:=hrel
   go_wp2
   go_step3
   go_wp2
   go_region_o
   go_wp2
   go_region_calls_o
   go_wp2
   simp only [Exit.noGoto_ret,Exit.inBlock,Exit.then]
   go_ret
   exact ⟨rfl,rfl,rfl,rfl,#[],by rw [Array.append_empty];rfl⟩
 ·have hq:qn.size=2:=rfl
  have hz:¬ (((Utf8.encode r).size:Int) - 1<2):=by omega
  go_enter Tryz.func339,Tryz.ntmps339
  go_wp2_with (go_at_fn 361;refine (Tryz.utf8_ValidRune r _).mono ?_;rintro e w' ⟨rfl,hw⟩;rw [hw,hvr])
  go_step3
  go_wp2
  go_loopg [9] 0 (fun g i wx=>g=0∧i=.int .i64 ((Utf8.encode r).size - 1:Int)∧wx=w)
  case atStart=>exact ⟨rfl,rfl,rfl⟩
  case round =>
   obtain ⟨rfl,rfl,rfl⟩:=hrel
   have hz:((((Utf8.encode r).size:Int) - 1)<(2:Int))=False:=eq_false (by omega)
   go_wp2
   rw [Exit.noGoto_ret]
   go_ret
   exact ⟨rfl,Ext.refl _⟩
theorem irune(w:World)(r:Int)(h0:0≤r)(hv:r<128∨r=65533∨Utf8.valid r=true):Calls Tryz.prog 339 #[.string qn,.int .i32 r] w fun e w'=>e=.returned (.int .i64 (if r<128 then Lib.indexByte qn.data.toList r.toNat.toUInt8 else -1))∧Ext w w':=by
 by_cases h1:r<128
 ·rw [if_pos h1]
  refine (Tryz.strings_IndexRune_ascii qn r w h0 h1).mono ?_
  rintro e w' ⟨rfl,rfl⟩
  exact ⟨rfl,Ext.refl _⟩
 ·rw [if_neg h1]
  by_cases h2:r=65533
  ·subst h2
   exact irune_bad w
  ·rcases hv with h | h | h
   ·exact absurd h h1
   ·exact absurd h h2
   ·exact irune_high w r (by omega) h h2
theorem next_world{w wr:World}{s:ByteArray}{i d:Nat}(hk:wr.heap[w.heap.size]?=some (.stringIter s i))(hb:Below w.heap.size w wr):
  ({ wr with heap:=wr.heap.setIfInBounds w.heap.size (.stringIter s (i+d)) }:World).heap[w.heap.size]?=some (.stringIter s (i+d))∧Below w.heap.size w { wr with heap:=wr.heap.setIfInBounds w.heap.size (.stringIter s (i+d)) }:=by
 have hlt:w.heap.size<wr.heap.size:=(Array.getElem?_eq_some_iff.1 hk).1
 refine ⟨by simp [hlt],hb.os,hb.tape,hb.output,by simp;exact hb.size,fun k hk2=>?_⟩
 have hne:w.heap.size≠k:=by omega
 show (wr.heap.setIfInBounds w.heap.size _)[k]?=w.heap[k]?
 rw [Array.getElem?_setIfInBounds_ne hne]
 exact hb.block k hk2
theorem high_not(x:UInt8)(h:128≤x.toNat):qn.data.toList.contains x=false:=by
 have h1:x≠34:=fun e=>by rw [e] at h;exact absurd h (by decide)
 have h2:x≠10:=fun e=>by rw [e] at h;exact absurd h (by decide)
 show [(34:UInt8),10].contains x=false
 simp [h1,h2]
set_option maxHeartbeats 8000000 in
set_option maxRecDepth 1000000 in
theorem iany_short (s:ByteArray) (w:World) (h8:s.size≤8):Calls Tryz.prog 294 #[.string s,.string qn] w fun e w'=>e=.returned (.int .i64 (Lib.indexAny s.data.toList qn.data.toList))∧Below w.heap.size w w':=by
 have hemp:qn.toList.isEmpty=false:=by rw [Lib.toList_data];rfl
 have hn1:((qn.size:Int)==1)=false:=by decide
 have h8z:decide (8<(s.size:Int))=false:=decide_eq_false (by omega)
 have e152:∀ args w,(callFunc 339 args).run Tryz.prog w=.ok (.enter 339 args) w:=enters_of Tryz.func339 (by kernel_rfl) rfl
 have e226:∀ args w,(callFunc 340 args).run Tryz.prog w=.ok (.enter 340 args) w:=enters_of Tryz.func340 (by kernel_rfl) rfl
 go_enter Tryz.func294,Tryz.ntmps294
 go_wp2_with (go_at_fn 340;refine (Tryz.strings_shouldUseASCIISet _ _).mono ?_;rintro e w' ⟨rfl,hw⟩;rw [hw,h8z])
 go_loopg [9,10] s.size (fun g _ _ wx=>∃ i:Nat,i+g=s.size∧wx.heap[w.heap.size]?=some (.stringIter s i)∧Below w.heap.size w wx∧Lib.NoAny s.data.toList qn.data.toList i)
 case atStart=>exact ⟨0,by omega,World.iter_heap w s 0,(Below.refl _ w).alloc (Nat.le_refl _) _,Lib.NoAny.zero _ _⟩
 case round =>
  obtain ⟨i,hig,hk,hbl,hno⟩:=hrel
  have HN:Aside (Lib.NoAny s.data.toList qn.data.toList i):=hno
  clear hno
  cases gk with
  | zero =>
   obtain rfl:i=s.size:=by omega
   have hnx:=fun ty=>run_next_out (P:=Tryz.prog) ty hk (Nat.lt_irrefl _)
   go_wp2
   go_ret
   exact ⟨by rw [Lib.indexAny_none (by rw [← Lib.size_eq];exact HN.out)];rfl,hbl⟩
  | succ g =>
   have hi:i<s.size:=by omega
   obtain ⟨x,hx⟩:∃ x:UInt8,s[i]'hi=x:=⟨_,rfl⟩
   have hxl:s.data.toList[i]?=some x:=by rw [← hx];exact Lib.data_getElem? s i hi
   have Hx:Aside (s.data.toList[i]?=some x):=hxl
   clear hxl
   by_cases h128:x.toNat<128
   ·obtain ⟨W1,hnx,hk1,hb1⟩:∃ W1:World,(∀ ty,(Instr.next (.pointer (some ⟨w.heap.size,0,none⟩)) true ty).run Tryz.prog wr=.ok (.tuple #[.bool true,.int .i64 i,.int .i32 x.toNat]) W1)∧W1.heap[w.heap.size]?=some (.stringIter s (i+1))∧Below w.heap.size w W1:=by
     have hd:Utf8.decode s i=(x.toNat,1):=by rw [decode_ascii s i hi (by rw [hx];exact h128),hx]
     have h1:=next_world (d:=1) hk hbl
     refine ⟨_,fun ty=>?_,h1.1,h1.2⟩
     have h2:=run_next_at (P:=Tryz.prog) ty hk hi
     rw [hd] at h2
     exact h2
    have hir:∀ W:World,Calls Tryz.prog 339 #[.string qn,.int .i32 (x.toNat:Int)] W fun e w'=>e=.returned (.int .i64 (Lib.indexByte qn.data.toList x))∧Ext W w':=fun W=>by
     refine (irune W x.toNat (by omega) (.inl (by omega))).mono ?_
     rintro e w' ⟨rfl,h⟩
     refine ⟨?_,h⟩
     rw [if_pos (by omega),show ((x.toNat:Int)).toNat.toUInt8=x by simp]
    clear hx h128
    have hcon:=Lib.contains_iff_indexByte qn.data.toList x
    cases hin:qn.data.toList.contains x
    ·rw [hin] at hcon
     have hlt:¬ (0≤Lib.indexByte qn.data.toList x):=of_decide_eq_false hcon.symm
     clear hcon
     go_wp2_with (go_at_fn 339;refine (hir _).mono ?_;rintro e w2 ⟨rfl,hE⟩)
     go_roundg g
     case measure=>omega
     case rel=>exact ⟨i+1,by omega,hE.at hk1,hb1.trans (hE.below.mono hb1.size),HN.out.succ Hx.out hin⟩
    ·rw [hin] at hcon
     have hge:0≤Lib.indexByte qn.data.toList x:=of_decide_eq_true hcon.symm
     clear hcon
     go_wp2_with (go_at_fn 339;refine (hir _).mono ?_;rintro e w2 ⟨rfl,hE⟩)
     go_ret
     exact ⟨by rw [Lib.indexAny_hit HN.out Hx.out hin];rfl,hb1.trans (hE.below.mono hb1.size)⟩
   ·have hhi:128≤(s[i]'hi).toNat:=by rw [hx];omega
    obtain ⟨d1,d2,d3⟩:=decode_skip hi hhi
    have dh:=decode_high s i hi hhi
    have dv:=decode_valid (s:=s) (i:=i)
    obtain ⟨W1,hnx,hk1,hb1⟩:∃ W1:World,(∀ ty,(Instr.next (.pointer (some ⟨w.heap.size,0,none⟩)) true ty).run Tryz.prog wr=.ok (.tuple #[.bool true,.int .i64 i,.int .i32 (Utf8.decode s i).1]) W1)∧W1.heap[w.heap.size]?=some (.stringIter s (i+(Utf8.decode s i).2))∧Below w.heap.size w W1:=by
     have h1:=next_world (d:=(Utf8.decode s i).2) hk hbl
     exact ⟨_,fun ty=>run_next_at (P:=Tryz.prog) ty hk hi,h1.1,h1.2⟩
    have hir:∀ W:World,Calls Tryz.prog 339 #[.string qn,.int .i32 ((Utf8.decode s i).1:Int)] W fun e w'=>e=.returned (.int .i64 (-1))∧Ext W w':=fun W=>by
     refine (irune W (Utf8.decode s i).1 (by omega) (by rcases dv with h | h;exact .inr (.inl (by omega));exact .inr (.inr h))).mono ?_
     rintro e w' ⟨rfl,h⟩
     refine ⟨?_,h⟩
     rw [if_neg (by omega)]
    have hno2:Lib.NoAny s.data.toList qn.data.toList (i+(Utf8.decode s i).2):=fun j b hj hb=>by
     by_cases hji:j<i
     ·exact HN.out j b hji hb
     ·have hjs:j<s.size:=by omega
      have h1:=d3 j (by omega) hj
      rw [get_lt s j hjs] at h1
      have h2:s.data.toList[j]?=some (s[j]'hjs):=Lib.data_getElem? s j hjs
      rw [h2] at hb
      cases hb
      exact high_not _ h1
    have HN2:Aside (Lib.NoAny s.data.toList qn.data.toList (i+(Utf8.decode s i).2)):=hno2
    clear hno2 d3 dv dh hx h128 hhi
    generalize (Utf8.decode s i).1=r at *
    generalize (Utf8.decode s i).2=d at *
    go_wp2_with (go_at_fn 339;refine (hir _).mono ?_;rintro e w2 ⟨rfl,hE⟩)
    go_roundg (s.size - (i+d))
    case measure=>omega
    case rel=>exact ⟨i+d,by omega,hE.at hk1,hb1.trans (hE.below.mono hb1.size),HN2.out⟩
theorem iany(s:ByteArray)(w:World)(hs:s.size≤1000000):Calls Tryz.prog 294 #[.string s,.string qn] w fun e w'=>e=.returned (.int .i64 (Lib.indexAny s.data.toList qn.data.toList))∧Below w.heap.size w w':=by
 by_cases h:s.size≤8
 ·exact iany_short s w h
 ·refine (Tryz.strings_IndexAny_long ((zero_of_info (show (Tryz.prog.info? 377).map (fun i=>(i.zero,i.size))=some (some (.agg (Array.replicate 256 (.bool false))),256) from by kernel_rfl)).1) s qn w (by decide) (by omega) (by omega) (by decide) (fun j b hj=>?_)).mono ?_
  ·match j,hj with
   | 0,hj=>cases hj;decide
   | 1,hj=>cases hj;decide
   | n+2,hj=>cases hj
  ·rintro e w' ⟨rfl,rfl⟩
   exact ⟨rfl,((Below.refl _ w).alloc (Nat.le_refl _) _).alloc (by simp) _⟩
end Go.Proofs.YtidbmbpeblmliaaGreatDoor.Idx
namespace Go.Sym
open Go.RowKit
variable {P:Program}
theorem fcall_below{f:FuncId}{args:List CV}{r:SB}(hf:∃ fn,P.funcs[f]?=some fn∧fn.body.isSome=true∧(fn.name== "runtime.NumGoroutine")=false) 
  (h:∀ (K:Know) (w:World) (vs:Array Value),Laid P K→Knows K w→vs.size=args.length→(∀ j,j<args.length→RelCVK K (args.getD j (.c .junk)) (vs.getD j undef)) →
   Calls P f vs w fun e w'=>∃ v,e=.returned v∧RelSBK K r v∧Below w.heap.size w w'):FCall P f args r:=by
 refine ⟨hf,fun K w vs hl hK hs hr=>(h K w vs hl hK hs hr).mono ?_⟩
 rintro e w' ⟨v,rfl,hv,hb⟩
 refine ⟨K,v,Know.le_refl _,fun _ _ h=>h,fun b o hb'=>?_,hb,rfl,hv⟩
 have h1:=hK b o hb'
 rw [hb.block b (Array.getElem?_eq_some_iff.1 h1).1]
 exact h1
theorem one_arg{vs:Array Value}(h:vs.size=1):vs=#[vs.getD 0 undef]:=by
 apply Array.ext
 ·simp [h]
 ·intro i h1 h2
  have:i=0:=by omega
  subst this
  simp [h]
theorem two_args{vs:Array Value}(h:vs.size=2):vs=#[vs.getD 0 undef,vs.getD 1 undef]:=by
 apply Array.ext
 ·simp [h]
 ·intro i h1 h2
  have:i=0∨i=1:=by omega
  rcases this with rfl | rfl<;>simp [h]
theorem relk_str{K:Know}{s:ByteArray}{u:Value}(h:RelCVK K (.c (.str s)) u):u=.string s∧s.size≤maxLen:=by
 obtain ⟨h,_⟩:=h
 cases h;exact ⟨rfl,by assumption⟩
theorem relk_int{K:Know}{k:IntKind}{n:Int}{u:Value}(h:RelCVK K (.c (.int k n)) u):u=.int k n:=by
 obtain ⟨h,_⟩:=h
 cases h;rfl
theorem ret_int{K:Know}(k:IntKind)(n:Int):RelSBK K (.v (.c (.int k n))) (.int k n):=⟨.int k n,rfl⟩
theorem fcall_str_int{f:FuncId}{s:ByteArray}{k kr:IntKind}{c r:Int}(hf:∃ fn,P.funcs[f]?=some fn∧fn.body.isSome=true∧(fn.name== "runtime.NumGoroutine")=false) 
  (h:∀ w,Calls P f #[.string s,.int k c] w fun e w'=>e=.returned (.int kr r)∧w'=w):FCall P f [.c (.str s),.c (.int k c)] (.v (.c (.int kr r))):=
 fcall_below hf fun K w vs _ _ hs hr=>by
  rw [two_args hs]
  obtain ⟨e1,_⟩:=relk_str (hr 0 (by simp))
  have e2:=relk_int (hr 1 (by simp))
  rw [e1,e2]
  refine (h w).mono ?_
  rintro e w' ⟨rfl,rfl⟩
  exact ⟨_,rfl,ret_int _ _,Below.refl _ _⟩
theorem fcall_str_str{f:FuncId}{s t:ByteArray}{kr:IntKind}{r:Int}(hf:∃ fn,P.funcs[f]?=some fn∧fn.body.isSome=true∧(fn.name== "runtime.NumGoroutine")=false) 
  (h:∀ w,Calls P f #[.string s,.string t] w fun e w'=>e=.returned (.int kr r)∧Below w.heap.size w w'):FCall P f [.c (.str s),.c (.str t)] (.v (.c (.int kr r))):=
 fcall_below hf fun K w vs _ _ hs hr=>by
  rw [two_args hs]
  obtain ⟨e1,_⟩:=relk_str (hr 0 (by simp))
  obtain ⟨e2,_⟩:=relk_str (hr 1 (by simp))
  rw [e1,e2]
  refine (h w).mono ?_
  rintro e w' ⟨rfl,hb⟩
  exact ⟨_,rfl,ret_int _ _,hb⟩
theorem fcall_atoi{f:FuncId}{s:ByteArray}{n:Int}(hf:∃ fn,P.funcs[f]?=some fn∧fn.body.isSome=true∧(fn.name== "runtime.NumGoroutine")=false) 
  (h:∀ w,Calls P f #[.string s] w fun e w'=>e=.returned (.tuple #[.int .i64 n,.nilIface])∧Below w.heap.size w w'):FCall P f [.c (.str s)] (.tup [vI n,.c (.lit .nilIface)]):=
 fcall_below hf fun K w vs _ _ hs hr=>by
  rw [one_arg hs]
  obtain ⟨e1,_⟩:=relk_str (hr 0 (by simp))
  rw [e1]
  refine (h w).mono ?_
  rintro e w' ⟨rfl,hb⟩
  refine ⟨_,rfl,⟨_,rfl,rfl,fun j hj=>?_⟩,hb⟩
  match j,hj with
  | 0,_=>exact ⟨.int _ _,rfl⟩
  | 1,_=>exact ⟨.lit _ rfl,rfl⟩
theorem fcall_itoa{f:FuncId}{s:ByteArray}{n:Int}(hs0:s.size≤maxLen)(hf:∃ fn,P.funcs[f]?=some fn∧fn.body.isSome=true∧(fn.name== "runtime.NumGoroutine")=false) 
  (h:∀ w,Lib.TabIs P w tabName .u64 Lib.pow10Tab→Calls P f #[.int .i64 n] w fun e w'=>e=.returned (.string s)∧Below w.heap.size w w') (hg:(P.globalNamed tabName).isSome=true):FCall P f [vI n] (.v (.c (.str s))):=
 fcall_below hf fun K w vs hl hK hs hr=>by
  rw [one_arg hs]
  have e1:=relk_int (hr 0 (by simp))
  rw [e1]
  refine (h w ?_).mono ?_
  ·obtain ⟨g,hg⟩:=Option.isSome_iff_exists.1 hg
   obtain ⟨T,fz,h1⟩:=hl g hg
   have h2:=hK _ _ h1
   unfold Lib.TabIs World.var?
   rw [hg]
   simp only [Option.bind_some,h2]
   rfl
  ·rintro e w' ⟨rfl,hb⟩
   exact ⟨_,rfl,⟨.str _ hs0,rfl⟩,hb⟩
end Go.Sym
namespace Go.Sym
theorem runW_mu{σ ρ:Type}{bd:σ→Fl σ ρ}(I:σ→Prop)(μ:σ→Nat)(post:Fl σ ρ→Prop)(hn:∀ x y,I x→bd x=.nx y→I y∧μ y<μ x)(hb:∀ x y,I x→bd x=.br y→post (.br y))(hr:∀ x r,I x→bd x=.rt r→post (.rt r)):
  ∀ k x,I x→μ x<k→post (runW bd k x)
 | 0,x,h,hk=>absurd hk (Nat.not_lt_zero _)
 | k+1,x,h,hk=>by
  rw [runW]
  cases e:bd x with
  | nx y=>obtain ⟨h1,h2⟩:=hn x y h e;exact runW_mu I μ post hn hb hr k y h1 (by omega)
  | br y=>exact hb x y h e
  | rt r=>exact hr x r h e
end Go.Sym
namespace Go.Proofs.YtidbmbpeblmliaaGreatDoor.Shc
open Go.Sym Go.Proofs.YtidbmbpeblmliaaGreatDoor
theorem libf{f:FuncId}{fn:Func}(h:Tryz.prog.funcs[f]?=some fn)(h2:(fn.body.isSome&&!(fn.name== "runtime.NumGoroutine"))=true):∃ fn,Tryz.prog.funcs[f]?=some fn∧fn.body.isSome=true∧(fn.name== "runtime.NumGoroutine")=false:=by
 rw [Bool.and_eq_true,Bool.not_eq_true'] at h2
 exact ⟨fn,h,h2.1,h2.2⟩
def idxB(s:BA)(c:Int):Int:=Lib.indexByte s.data.toList c.toNat.toUInt8
theorem idxB_c(s:BA)(c:Int):FCall Tryz.prog 292 [.c (.str s),.c (.int .u8 c)] (.v (vI (idxB s c))):=
 fcall_str_int (libf Tryz.func292 kr) (fun w=>Tryz.strings_IndexByte s c w)
theorem data_get(s:BA)(i:Nat):s.data.toList[i]?=s[i]?:=by
 by_cases h:i<s.size
 ·rw [getElem?_pos s i h,List.getElem?_eq_getElem (by simpa using h)];rfl
 ·rw [getElem?_neg s i h,List.getElem?_eq_none (by simpa using Nat.le_of_not_lt h)]
theorem byte_of{s:BA}{i:Nat}{x:UInt8}(h:s.data.toList[i]?=some x):byteAt s i=x.toNat:=by
 rw [data_get] at h
 simp [byteAt,h]
theorem ext_list(s:BA)(a b:Nat):(s.extract a b).data.toList=(s.data.toList.drop a).take (b - a):=by
 rw [ByteArray.data_extract,Array.toList_extract]
 try rfl
theorem idx_at:∀ {l:List UInt8} {c:UInt8},0≤Lib.indexByte l c→l[(Lib.indexByte l c).toNat]?=some c∧∀ j:Nat,(j:Int)<Lib.indexByte l c→l[j]?≠some c
 | [],c,h=>by simp [Lib.indexByte] at h
 | b :: l,c,h=>by
  rw [Lib.indexByte] at h ⊢
  cases hb:(b==c) with
  | true =>
   rw [if_pos rfl]
   exact ⟨by simpa using hb,fun j hj=>by omega⟩
  | false =>
   rw [hb,if_neg Bool.false_ne_true] at h
   rw [if_neg Bool.false_ne_true]
   have hg:=Lib.indexByte_ge l c
   cases h2:(Lib.indexByte l c==-1) with
   | true=>rw [h2,if_pos rfl] at h;omega
   | false =>
    rw [if_neg Bool.false_ne_true]
    have h3:Lib.indexByte l c≠-1:=by simpa using h2
    have h4:0≤Lib.indexByte l c:=by omega
    obtain ⟨h5,h6⟩:=idx_at h4
    refine ⟨by rw [show (Lib.indexByte l c+1).toNat=(Lib.indexByte l c).toNat+1 by omega];simpa using h5,fun j hj=>?_⟩
    cases j with
    | zero=>simp only [List.getElem?_cons_zero,ne_eq,Option.some.injEq];simpa using hb
    | succ j=>simpa using h6 j om
theorem idxB_lt{s:BA}{c:Int}(h:0≤idxB s c):idxB s c<s.size:=by
 have h1:=(idx_at h).1
 have h2:=(List.getElem?_eq_some_iff.1 h1).1
 simp only [Array.length_toList,ByteArray.size_data] at h2
 have:(idxB s c).toNat=(Lib.indexByte s.data.toList c.toNat.toUInt8).toNat:=rfl
 omega
theorem idxB_byte{s:BA}{c:Int}(hc:0≤c∧c<256)(h:0≤idxB s c):byteAt s (idxB s c).toNat=c:=by
 have h1:=byte_of (idx_at h).1
 rw [show (idxB s c).toNat=(Lib.indexByte s.data.toList c.toNat.toUInt8).toNat from rfl,h1]
 simp only [Nat.toUInt8,UInt8.toNat_ofNat']
 omega
theorem byte_ext{s:BA}{a b i:Nat}(h:a+i<b)(hb:b≤s.size):byteAt (s.extract a b) i=byteAt s (a+i):=by
 have h1:(s.extract a b).data.toList[i]?=s.data.toList[a+i]?:=by
  rw [ext_list,List.getElem?_take,if_pos om,List.getElem?_drop]
 rw [data_get,data_get] at h1
 simp only [byteAt,h1]
theorem bytes_below(w:World)(e:TypeId)(s:BA):RowKit.Below w.heap.size w (Lib.bytesWorld w e s):=
 ⟨rfl,rfl,rfl,by simp [Lib.bytesWorld,World.freeze],fun k hk=>Lib.bytesWorld_at_old w e s k hk⟩
def numOf(s:BA):Int:=(Lib.atoi s.data.toList).getD 0
theorem atoi_c(s:BA)(hl:s.size≤18)(h:(Lib.atoi s.data.toList).isSome=true):FCall Tryz.prog 293 [.c (.str s)] (.tup [vI (numOf s),.c (.lit .nilIface)]):=
 fcall_atoi (libf Tryz.func293 kr) (fun w=>(Tryz.strconv_Atoi s (numOf s) hl (by obtain ⟨n,hn⟩:=Option.isSome_iff_exists.1 h;rw [numOf,hn];rfl) w).mono (fun e w' ⟨h1,t,h2⟩=>⟨h1,by rw [h2];exact bytes_below _ _ _⟩))
theorem digits_num:∀ (l:List UInt8) (acc:Nat),(∀ (j:Nat) (x:UInt8),l[j]?=some x→48≤x.toNat∧x.toNat≤57)→(Lib.decFrom acc l).isSome=true
 | [],acc,h=>rfl
 | b :: l,acc,h=>by
  have hb:=h 0 b rfl
  have hd:Lib.digitVal b=some (b.toNat - 48):=by simp [Lib.digitVal,hb.1,hb.2]
  rw [Lib.decFrom,hd]
  exact digits_num l _ (fun j x hx=>h (j+1) x hx)
theorem digits_atoi{s:BA}(h1:1≤s.size)(h:∀ j:Nat,j<s.size→48≤byteAt s j∧byteAt s j≤57):(Lib.atoi s.data.toList).isSome=true:=by
 have hx:∀ (j:Nat) (x:UInt8),s.data.toList[j]?=some x→48≤x.toNat∧x.toNat≤57:=fun j x hx=>by
  have hj:=(List.getElem?_eq_some_iff.1 hx).1
  simp only [Array.length_toList,ByteArray.size_data] at hj
  have:=h j hj
  rw [byte_of hx] at this
  omega
 cases hl:s.data.toList with
 | nil =>
  have:s.data.toList.length=s.size:=by simp
  rw [hl] at this;simp at this;omega
 | cons b l =>
  rw [hl] at hx
  have hb:=hx 0 b rfl
  have h45:(b==45)=false:=by
   rw [beq_eq_false_iff_ne];intro e;rw [e] at hb;exact absurd hb (by decide)
  have h43:(b==43)=false:=by
   rw [beq_eq_false_iff_ne];intro e;rw [e] at hb;exact absurd hb (by decide)
  rw [Lib.atoi,h45,h43,if_neg Bool.false_ne_true,if_neg Bool.false_ne_true,Option.isSome_map]
  have:=digits_num (b :: l) 0 hx
  rw [Lib.decNat]
  exact this
def idxAny(s c:BA):Int:=Lib.indexAny s.data.toList c.data.toList
theorem idxAny_c(s c:BA)(hs:s.size≤1000000)(hc:c=⟨#[34,10]⟩):FCall Tryz.prog 294 [.c (.str s),.c (.str c)] (.v (vI (idxAny s c))):=by
 subst hc
 exact fcall_str_str (libf Tryz.func294 kr) (fun w=>Idx.iany s w hs)
theorem idxAny_ge(s c:BA): -1≤idxAny s c:=Lib.indexAny_ge _ _
theorem indexAny_lt:∀ {l c:List UInt8},Lib.indexAny l c<0∨Lib.indexAny l c<l.length
 | [],c=>.inl (by simp [Lib.indexAny])
 | b :: l,c=>by
  have ih:=indexAny_lt (l:=l) (c:=c)
  have hg:=Lib.indexAny_ge c l
  rw [Lib.indexAny]
  simp only [List.length_cons]
  split
  ·exact .inr om
  ·split
   ·exact .inl om
   ·rename_i h1 h2
    have:Lib.indexAny l c≠-1:=by simpa using h2
    rcases ih with h | h
    ·omega
    ·exact .inr om
theorem idxAny_lt{s c:BA}(h:0≤idxAny s c):idxAny s c<s.size:=by
 rcases indexAny_lt (l:=s.data.toList) (c:=c.data.toList) with g | g
 ·simp only [idxAny] at h;omega
 ·simpa [idxAny] using g
end Go.Proofs.YtidbmbpeblmliaaGreatDoor.Shc
namespace Go.Proofs.YtidbmbpeblmliaaGreatDoor.Lex
open Go.Sym Go.Proofs.YtidbmbpeblmliaaGreatDoor
theorem while_sp(s:Scn)(i:Int)(l:List Int)(h0:0≤i)(hs:s.text.size≤1000000):i≤while_ s i l∧(while_ s i l≤s.text.size∨while_ s i l=i)∧(∀ j,i≤j→j<while_ s i l→contains l (cls s j)=true∧j<s.text.size)∧(while_ s i l<s.text.size→contains l (cls s (while_ s i l))=false):=by
 rw [while_]
 refine runW_mu (bd:=while__b1 s i l) (fun x=>i≤x∧(x≤s.text.size∨x=i)∧∀ j,i≤j→j<x→contains l (cls s j)=true∧j<s.text.size) (fun x=>((s.text.size:Int) - x).toNat) (fun q=>i≤q.fin (fun _=>0)∧(q.fin (fun _=>0)≤s.text.size∨q.fin (fun _=>0)=i)∧(∀ j,i≤j→j<q.fin (fun _=>0)→contains l (cls s j)=true∧j<s.text.size)∧(q.fin (fun _=>0)<s.text.size→contains l (cls s (q.fin (fun _=>0)))=false)) ?_ ?_ ?_ _ _ ⟨om,.inr rfl,fun j h1 h2=>by omega⟩ om
 ·rintro x y ⟨h1,h2,h3⟩ hb
  rw [while__b1] at hb
  cases hc:(decide (x<(s.text.size:Int))&&contains l (cls s x)) with
  | false=>rw [hc] at hb;cases hb
  | true =>
   rw [hc] at hb
   rw [Bool.and_eq_true,decide_eq_true_eq] at hc
   cases hb
   rw [w64 (x+1) om om]
   refine ⟨⟨om,om,fun j g1 g2=>?_⟩,om⟩
   rcases (by omega:j<x∨j=x) with g | rfl
   ·exact h3 j g1 g
   ·exact ⟨hc.2,hc.1⟩
 ·rintro x y _ hb
  rw [while__b1] at hb
  cases hc:(decide (x<(s.text.size:Int))&&contains l (cls s x))<;>rw [hc] at hb<;>cases hb
 ·rintro x r ⟨h1,h2,h3⟩ hb
  rw [while__b1] at hb
  cases hc:(decide (x<(s.text.size:Int))&&contains l (cls s x)) with
  | true=>rw [hc] at hb;cases hb
  | false =>
   rw [hc] at hb
   cases hb
   refine ⟨h1,h2,h3,fun hx=>?_⟩
   rw [decide_eq_true (show x<(s.text.size:Int) from hx),Bool.true_and] at hc
   exact hc
theorem cls_lt{s:Scn}{i:Int}(h:cls s i≠0):i<s.text.size:=by
 rcases (by omega:i<s.text.size∨¬ i<s.text.size) with g | g
 ·exact g
 ·exact absurd (by rw [cls,show decide (i≥(s.text.size:Int))=true from decide_eq_true om];rfl) h
theorem cls_at{s:Scn}{i:Int}(h:cls s i≠0):cls s i=s.cls.at (byteAt s.text i.toNat).toNat:=by
 have:=cls_lt h
 rw [cls,show decide (i≥(s.text.size:Int))=false from decide_eq_false om];rfl
theorem cl_chk:((List.range 256).all fun b=>(!(classes.at b==4)||(Nat.ble 48 b&&Nat.ble b 57))&&((!(classes.at b==2)||Nat.beq b 35)&&(!(classes.at b==0)||!contains [1] 0)))=true:=by kernel_rfl
theorem cl_at{b:Nat}(hb:b<256):(classes.at b=4→48≤b∧b≤57)∧(classes.at b=2→b=35):=by
 have h:=List.all_eq_true.1 cl_chk b (List.mem_range.2 hb)
 simp only [Bool.and_eq_true,Bool.or_eq_true,Bool.not_eq_true',beq_eq_false_iff_ne,ne_eq,Nat.ble_eq] at h
 refine ⟨fun e=>?_,fun e=>?_⟩
 ·rcases h.1 with g | g
  ·exact absurd e g
  ·exact g
 ·rcases h.2.1 with g | g
  ·exact absurd e g
  ·exact Nat.eq_of_beq_eq_true g
theorem contains_one{c v:Int}(h:contains [c] v=true):v=c:=by
 simp only [contains,index,List.length_singleton,runL,index_b1,List.getD_cons_zero] at h
 cases hc:(v==c) with
 | true=>simpa using hc
 | false=>rw [hc] at h;simp [Fl.fin,index_b1_r] at h
theorem contains_hd{c v:Int}{l:List Int}(h:v=c):contains (c :: l) v=true:=by
 simp only [contains,index,List.length_cons,runL,index_b1,List.getD_cons_zero,h,BEq.rfl,cond_true,Fl.fin]
 decide
theorem hash_at{s:Scn}{i:Int}(hc:s.cls=classes)(h:cls s i=2):i<s.text.size∧byteAt s.text i.toNat=35:=by
 have h1:=cls_lt (s:=s) (i:=i) om
 have h2:=cls_at (s:=s) (i:=i) om
 rw [h,hc] at h2
 have h3:=(cl_at (byteAt_lt s.text i.toNat)).2 h2.symm
 have h4:=byteAt_bd s.text i.toNat
 exact ⟨h1,om⟩
theorem digit_at{s:Scn}{i:Int}(hc:s.cls=classes)(h:cls s i=4):i<s.text.size∧48≤byteAt s.text i.toNat∧byteAt s.text i.toNat≤57:=by
 have h1:=cls_lt (s:=s) (i:=i) om
 have h2:=cls_at (s:=s) (i:=i) om
 rw [h,hc] at h2
 have h3:=(cl_at (byteAt_lt s.text i.toNat)).1 h2.symm
 have h4:=byteAt_bd s.text i.toNat
 exact ⟨h1,om⟩
theorem hash_line{s:Scn}{i:Int}(h0:0≤i)(hc:s.cls=classes)(h:cls s i=2)(hn:0≤Shc.idxB (s.text.extract i.toNat s.text.size) 10):1≤Shc.idxB (s.text.extract i.toNat s.text.size) 10∧i+Shc.idxB (s.text.extract i.toNat s.text.size) 10<s.text.size:=by
 obtain ⟨h1,h2⟩:=hash_at hc h
 have h3:=Shc.idxB_lt hn
 rw [ByteArray.size_extract] at h3
 have h4:=Shc.idxB_byte (c:=10) om hn
 rw [Shc.byte_ext om (Nat.le_refl _)] at h4
 refine ⟨?_,om⟩
 rcases (by omega:Shc.idxB (s.text.extract i.toNat s.text.size) 10=0∨1≤Shc.idxB (s.text.extract i.toNat s.text.size) 10) with g | g
 ·rw [g,show i.toNat+Int.toNat 0=i.toNat from rfl,h2] at h4
  exact absurd h4 (by decide)
 ·exact g
theorem while_gt{s:Scn}{i c:Int}{l:List Int}(h0:0≤i)(hz:s.text.size≤1000000)(hc:cls s i=c)(hn:c≠0):i<while_ s i (c :: l)∧while_ s i (c :: l)≤s.text.size:=by
 obtain ⟨h1,h2,h3,h4⟩:=while_sp s i (c :: l) h0 hz
 have h5:=cls_lt (s:=s) (i:=i) om
 refine ⟨?_,om⟩
 rcases (by omega:while_ s i (c :: l)=i∨i<while_ s i (c :: l)) with g | g
 ·rw [g] at h4
  have:=h4 h5
  rw [contains_hd hc] at this;cases this
 ·exact g
theorem num_ok{s:Scn}{i:Int}(h0:0≤i)(hz:s.text.size≤1000000)(hcl:s.cls=classes)(hk:cls s i=4)(he:while_ s i [4] - i≤13):
  (s.text.extract i.toNat (while_ s i [4]).toNat).size≤18∧(Lib.atoi (s.text.extract i.toNat (while_ s i [4]).toNat).data.toList).isSome=true:=by
 obtain ⟨h1,h2⟩:=while_gt (l:=[]) h0 hz hk om
 obtain ⟨_,_,h3,_⟩:=while_sp s i [4] h0 hz
 refine ⟨by rw [ByteArray.size_extract];omega,Shc.digits_atoi (by rw [ByteArray.size_extract];omega) (fun j hj=>?_)⟩
 rw [ByteArray.size_extract] at hj
 rw [Shc.byte_ext om om]
 obtain ⟨g1,g2⟩:=h3 (i+j) om om
 have g3:=(digit_at hcl (contains_one g1)).2
 rwa [show (i+(j:Int)).toNat=i.toNat+j by omega] at g3
theorem hasP_one{s p:BA}(h:hasP s p=true):p.size≤s.size:=by
 rw [hasP,hasP0,Bool.and_eq_true,decide_eq_true_eq] at h
 omega
def gap_b1(s:Scn)(at':Int)(lx1:Int):Fl Int Int:=
 (bif ((cls s lx1)==2) then (bif (decide ((Shc.idxB (s.text.extract lx1.toNat s.text.size) 10)<0)) then .rt (s.text.size:Int) else .nx (while_ s (IntKind.i64.wrap (lx1+(Shc.idxB (s.text.extract lx1.toNat s.text.size) 10))) [1])) else .rt lx1)
def gap_b1_s(s:Scn)(at':Int)(lx1:Int):S:=mkS 36 [(0,.b (.v (.c (.kptr (encScn s) 0)))),(1,.b (.v (vI lx1)))] []
def gap(s:Scn)(at':Int):Int:=
 (runW (gap_b1 s at') ((((s.text.size:Int) - (while_ s at' [1])).toNat)+1) (while_ s at' [1])).fin (fun _=>0)
theorem gap_c(s:Scn)(at':Int)(hp0:0≤at')(hp1:at'≤s.text.size)(hz:s.text.size≤1000000)(hcl:s.cls=classes):FCall Tryz.prog 237 [.c (.kptr (encScn s) 0),vI at'] (.v (vI (gap s at'))):=by
 have ee0:=gap.eq_1 s at'
 refine ul Tryz.func237 rfl (fun B hB=>?_)
 refine u0 ?_
 have cc1:=while__c s at' [1] vo
 refine uq [(2,.frz 1 (elM Sym.encI 0 [1])),(3,hcon cc1)] [@pu (1=1∧∀ i,i<1→(elM Sym.encI 0 [1]) i=[[cI 1]].getD i []) (⟨rfl,fun i hi=>match i,hi with | 0,_=>rfl⟩),pu cc1] ?_
 refine uR 0 (.c (.kptr (encScn s) 0)) (fun hR=>?_)
 have hL1:s.text.size≤9223372036854775807:=Real.size (Real.at hR 0 (Nat.le_of_ble_eq_true rfl))
 have hw:=while_sp s at' [1] hp0 hz
 refine rWhile ((((s.text.size:Int) - (while_ s at' [1])).toNat)+1) (gap_b1_s s at') (gap_b1 s at') (fun lx1=>0≤lx1∧lx1≤(s.text.size:Int)) (fun lx1=>((s.text.size:Int) - lx1).toNat) (while_ s at' [1]) (wkTo [0,1] [] kr) om (Nat.lt_succ_self _) (fun k1 lx1 hJ1 hr1=>?_)
 have ee1:=gap_b1.eq_1 s at' lx1
 have cc3:=cls_c s lx1 vo
 refine us 2 cc3 ?_
 refine ud ee1 (fun hh1 ee2=>?_) (fun hh1 ee6=>?_)
 ·refine rBlock ?_
  have cc4:=Shc.idxB_c (s.text.extract lx1.toNat s.text.size) 10
  refine uq [(6,hcon cc4)] [uo (0≤lx1∧lx1≤(s.text.size:Int)),pu cc4] ?_
  refine u0 ?_
  refine ud ee2 (fun hh2 ee3=>?_) (fun hh2 ee5=>?_)
  ·refine u0 ?_
   have ee4:=finw_rt ee0 hr1 ee3
   exact run_ret (blockR_ret (ut _ (by rw [ee4]<;>rfl)))
  ·refine u0 ?_
   refine run_nil (blockR_normal ?_)
   have hq:=hash_line (s:=s) (i:=lx1) om hcl (by simpa using hh1) (by simpa using hh2)
   have hw64:IntKind.i64.wrap (lx1+(Shc.idxB (s.text.extract lx1.toNat s.text.size) 10))=lx1+(Shc.idxB (s.text.extract lx1.toNat s.text.size) 10):=w64 _ om om
   have hw2:=while_sp s (IntKind.i64.wrap (lx1+(Shc.idxB (s.text.extract lx1.toNat s.text.size) 10))) [1] om hz
   have cc5:=while__c s (IntKind.i64.wrap (lx1+(Shc.idxB (s.text.extract lx1.toNat s.text.size) 10))) [1] vo
   refine uq [(2,.frz 1 (elM Sym.encI 0 [1])),(3,hcon cc5)] [@pu (1=1∧∀ i,i<1→(elM Sym.encI 0 [1]) i=[[cI 1]].getD i []) (⟨rfl,fun i hi=>match i,hi with | 0,_=>rfl⟩),pu cc5] ?_
   exact run_nil (⟨(while_ s (IntKind.i64.wrap (lx1+(Shc.idxB (s.text.extract lx1.toNat s.text.size) 10))) [1]),wkTo [0,1] [] kr,om,ee5,om⟩)
 ·refine run_exit ?_
  have ee7:=finw_rt ee0 hr1 ee6
  refine u0 ?_
  exact run_ret (ut _ (by rw [ee7]<;>rfl))
def next_k1(s:Scn)(at':Int)(jx1:Unit):Tok×Int×Int:=
 ((⟨4,(s.text.extract at'.toNat ((IntKind.i64.wrap (at'+1)).toNat)),0,at'⟩:Tok),(IntKind.i64.wrap (at'+1)),0)
def next_k1_s(s:Scn)(at':Int)(jx1:Unit):S:=mkS 157 [(0,.b (.v (.c (.kptr (encScn s) 0)))),(1,.b (.v (vI at'))),(4,.b (.v (.c (.ptr 4 0))))] [(4,.cells [cI 0,.str ByteArray.empty,cI 0,cI 0])]
def next_k2(s:Scn)(at':Int)(jx2:Bool):Tok×Int×Int:=
 (bif jx2 then (bif (hasP (s.text.extract ((IntKind.i64.wrap (at'+1)).toNat) s.text.size) (⟨#[61]⟩:BA)) then ((⟨4,(s.text.extract at'.toNat ((IntKind.i64.wrap (at'+2)).toNat)),0,at'⟩:Tok),(IntKind.i64.wrap (at'+2)),0) else (bif ((cls s at')==7) then ((⟨0,ByteArray.empty,0,0⟩:Tok),0,3) else next_k1 s at' ())) else (bif ((cls s at')==9) then next_k1 s at' () else ((⟨0,ByteArray.empty,0,0⟩:Tok),0,3)))
def next_k2_s(s:Scn)(at':Int)(jx2:Bool):S:=mkS 157 [(0,.b (.v (.c (.kptr (encScn s) 0)))),(1,.b (.v (vI at'))),(4,.b (.v (.c (.ptr 4 0)))),(7,.b (.v (vI (cls s at')))),(18,.b (.v (vI (cls s at')))),(25,.b (.v (vB jx2)))] [(4,.cells [cI 0,.str ByteArray.empty,cI 0,cI 0])]
def next(s:Scn)(at':Int):Tok×Int×Int:=
 (bif ((cls s at')==3) then (bif (decide ((IntKind.i64.wrap ((while_ s at' [3,4,5]) - at'))>24)) then ((⟨0,ByteArray.empty,0,0⟩:Tok),0,2) else ((⟨1,(s.text.extract at'.toNat ((while_ s at' [3,4,5]).toNat)),0,at'⟩:Tok),(while_ s at' [3,4,5]),0)) else (bif ((cls s at')==4) then (bif (((decide ((IntKind.i64.wrap ((while_ s at' [4]) - at'))>13))||((cls s (while_ s at' [4]))==3))||((cls s (while_ s at' [4]))==5)) then ((⟨0,ByteArray.empty,0,0⟩:Tok),0,4) else ((⟨2,(s.text.extract at'.toNat ((while_ s at' [4]).toNat)),(Shc.numOf (s.text.extract at'.toNat ((while_ s at' [4]).toNat))),at'⟩:Tok),(while_ s at' [4]),0)) else (bif ((cls s at')==6) then (bif ((decide ((Shc.idxAny (s.text.extract ((IntKind.i64.wrap (at'+1)).toNat) s.text.size) (⟨#[34,10]⟩:BA))<0))||((byteAt (s.text.extract ((IntKind.i64.wrap (at'+1)).toNat) s.text.size) ((Shc.idxAny (s.text.extract ((IntKind.i64.wrap (at'+1)).toNat) s.text.size) (⟨#[34,10]⟩:BA)).toNat))==10)) then ((⟨0,ByteArray.empty,0,0⟩:Tok),0,6) else (bif (decide ((Shc.idxAny (s.text.extract ((IntKind.i64.wrap (at'+1)).toNat) s.text.size) (⟨#[34,10]⟩:BA))>400)) then ((⟨0,ByteArray.empty,0,0⟩:Tok),0,2) else ((⟨3,((s.text.extract ((IntKind.i64.wrap (at'+1)).toNat) s.text.size).extract 0 ((Shc.idxAny (s.text.extract ((IntKind.i64.wrap (at'+1)).toNat) s.text.size) (⟨#[34,10]⟩:BA)).toNat)),0,at'⟩:Tok),(IntKind.i64.wrap ((IntKind.i64.wrap (at'+(Shc.idxAny (s.text.extract ((IntKind.i64.wrap (at'+1)).toNat) s.text.size) (⟨#[34,10]⟩:BA))))+2)),0))) else (bif ((cls s at')==7) then next_k2 s at' ((cls s at')==7) else next_k2 s at' ((cls s at')==8)))))
theorem next_c(s:Scn)(at':Int)(hp0:0≤at')(hp1:at'≤s.text.size)(hz:s.text.size≤1000000)(hcl:s.cls=classes):FCall Tryz.prog 238 [.c (.kptr (encScn s) 0),vI at'] (.tup [.agg (encTok ((next s at').1)),vI ((next s at').2.1),vI ((next s at').2.2)]):=by
 have ee0:=next.eq_1 s at'
 refine ul Tryz.func238 rfl (fun B hB=>?_)
 refine u0 ?_
 have cc1:=cls_c s at' vo
 refine us 2 cc1 ?_
 refine u0 ?_
 refine rBlock ?_
 refine rJoin (next_k1_s s at') (fun jx1=>next s at'=next_k1 s at' jx1∧(at'<(s.text.size:Int))) nofun ?_ (fun jx1 ⟨ee1,hK1⟩=>?_)
 ·refine rBlock ?_
  refine rBlock ?_
  refine rBlock ?_
  refine rBlock ?_
  refine rBlock ?_
  refine u0 ?_
  refine ud ee0 (fun hh1 ee2=>?_) (fun hh1 ee5=>?_)
  ·refine run_exit (blockR_exit ?_)
   have hk:cls s at'=3:=by simpa using hh1
   have hl:=cls_lt (s:=s) (i:=at') om
   have hw:=while_sp s at' [3,4,5] hp0 hz
   have cc2:=while__c s at' [3,4,5] vo
   refine uq [(2,.frz 3 (elM Sym.encI 0 [3,4,5])),(3,hcon cc2)] [@pu (3=3∧∀ i,i<3→(elM Sym.encI 0 [3,4,5]) i=[[cI 3],[cI 4],[cI 5]].getD i []) (⟨rfl,fun i hi=>match i,hi with | 0,_=>rfl | 1,_=>rfl | 2,_=>rfl⟩),pu cc2] ?_
   refine u0 ?_
   refine ud ee2 (fun hh2 ee3=>?_) (fun hh2 ee4=>?_)
   ·refine u0 ?_
    exact run_ret (blockR_ret (blockR_ret (blockR_ret (blockR_ret (left_ret (blockR_ret (ut _ (by rw [ee3]<;>rfl))))))))
   ·refine uq [] [uo (0≤at'∧at'≤(while_ s at' [3,4,5])∧(while_ s at' [3,4,5])≤(s.text.size:Int))] ?_
    exact run_ret (blockR_ret (blockR_ret (blockR_ret (blockR_ret (left_ret (blockR_ret (ut _ (by rw [ee4]<;>rfl))))))))
  ·refine u0 ?_
   refine ud ee5 (fun hh3 ee6=>?_) (fun hh3 ee9=>?_)
   ·refine run_exit (blockR_out rfl (blockR_exit ?_))
    have hk4:cls s at'=4:=by simpa using hh3
    have hw4:=while_gt (l:=[]) hp0 hz hk4 om
    have hw64:IntKind.i64.wrap ((while_ s at' [4]) - at')=(while_ s at' [4]) - at':=w64 _ om om
    have cc3:=while__c s at' [4] vo
    refine uq [(2,.frz 1 (elM Sym.encI 0 [4])),(3,hcon cc3)] [@pu (1=1∧∀ i,i<1→(elM Sym.encI 0 [4]) i=[[cI 4]].getD i []) (⟨rfl,fun i hi=>match i,hi with | 0,_=>rfl⟩),pu cc3] ?_
    have cc4:=cls_c s (while_ s at' [4]) vo
    refine us 2 cc4 ?_
    refine u0 ?_
    refine ud ee6 (fun hh4 ee7=>?_) (fun hh4 ee8=>?_)
    ·refine u0 ?_
     exact run_ret (blockR_ret (blockR_ret (blockR_ret (left_ret (blockR_ret (ut _ (by rw [ee7]<;>rfl)))))))
    ·have hn4:=num_ok hp0 hz hcl hk4 (by simp only [Bool.or_eq_false_iff,decide_eq_false_iff_not] at *;omega)
     have ccA:=Shc.atoi_c (s.text.extract at'.toNat (while_ s at' [4]).toNat) hn4.1 hn4.2
     refine uq [(7,hcon ccA)] [uo (0≤at'∧at'≤(while_ s at' [4])∧(while_ s at' [4])≤(s.text.size:Int)),pu ccA] ?_
     refine uq [] [uo (0≤at'∧at'≤(while_ s at' [4])∧(while_ s at' [4])≤(s.text.size:Int))] ?_
     exact run_ret (blockR_ret (blockR_ret (blockR_ret (left_ret (blockR_ret (ut _ (by rw [ee8]<;>rfl)))))))
   ·refine u0 ?_
    refine ud ee9 (fun hh5 ee10=>?_) (fun hh5 ee15=>?_)
    ·refine run_exit (blockR_out rfl (blockR_out rfl (blockR_exit ?_)))
     have hk6:cls s at'=6:=by simpa using hh5
     have hl6:=cls_lt (s:=s) (i:=at') om
     have hw61:IntKind.i64.wrap (at'+1)=at'+1:=w64 _ om om
     refine uq [] [uo (0≤(IntKind.i64.wrap (at'+1))∧(IntKind.i64.wrap (at'+1))≤(s.text.size:Int))] ?_
     have hx6:=Shc.idxAny_ge (s.text.extract ((IntKind.i64.wrap (at'+1)).toNat) s.text.size) (⟨#[34,10]⟩:BA)
     have hy6:0≤Shc.idxAny (s.text.extract ((IntKind.i64.wrap (at'+1)).toNat) s.text.size) (⟨#[34,10]⟩:BA)→_:=Shc.idxAny_lt
     have hz6:(s.text.extract ((IntKind.i64.wrap (at'+1)).toNat) s.text.size).size=s.text.size - (at'+1).toNat:=by rw [ByteArray.size_extract,hw61];omega
     have cc5:=Shc.idxAny_c (s.text.extract ((IntKind.i64.wrap (at'+1)).toNat) s.text.size) (⟨#[34,10]⟩:BA) vo (by rfl)
     refine us 1 cc5 ?_
     refine uq [] [uh (!(decide ((Shc.idxAny (s.text.extract ((IntKind.i64.wrap (at'+1)).toNat) s.text.size) (⟨#[34,10]⟩:BA))<0))) (Shc.idxAny (s.text.extract ((IntKind.i64.wrap (at'+1)).toNat) s.text.size) (⟨#[34,10]⟩:BA)) (s.text.extract ((IntKind.i64.wrap (at'+1)).toNat) s.text.size).size] ?_
     refine ud ee10 (fun hh6 ee11=>?_) (fun hh6 ee12=>?_)
     ·refine u0 ?_
      exact run_ret (blockR_ret (blockR_ret (left_ret (blockR_ret (ut _ (by rw [ee11]<;>rfl))))))
     ·refine u0 ?_
      refine ud ee12 (fun hh7 ee13=>?_) (fun hh7 ee14=>?_)
      ·refine u0 ?_
       exact run_ret (blockR_ret (blockR_ret (left_ret (blockR_ret (ut _ (by rw [ee13]<;>rfl))))))
      ·refine uq [] [uo (0≤(Shc.idxAny (s.text.extract ((IntKind.i64.wrap (at'+1)).toNat) s.text.size) (⟨#[34,10]⟩:BA))∧(Shc.idxAny (s.text.extract ((IntKind.i64.wrap (at'+1)).toNat) s.text.size) (⟨#[34,10]⟩:BA))≤(((s.text.extract ((IntKind.i64.wrap (at'+1)).toNat) s.text.size).size:Nat):Int))] ?_
       exact run_ret (blockR_ret (blockR_ret (left_ret (blockR_ret (ut _ (by rw [ee14]<;>rfl))))))
    ·refine u0 ?_
     refine rJoin (next_k2_s s at') (fun jx2=>next s at'=next_k2 s at' jx2∧(jx2=true→at'<(s.text.size:Int))) nofun ?_ (fun jx2 ⟨ee16,hK2⟩=>?_)
     ·refine ud ee15 (fun hh12 ee25=>?_) (fun hh12 ee26=>?_)
      ·exact run_nil (joined ((cls s at')==7) ⟨ee25,fun hq=>cls_lt (by simp only [beq_iff_eq,Bool.false_eq_true] at *;omega)⟩ (wkTo [0,1,4,7,18,25] [] kr))
      ·refine u0 ?_
       exact run_nil (joined ((cls s at')==8) ⟨ee26,fun hq=>cls_lt (by simp only [beq_iff_eq,Bool.false_eq_true] at *;omega)⟩ (wkTo [0,1,4,7,18,25] [] kr))
     ·replace ee16:=ee16.trans (next_k2.eq_1 s at' jx2)
      refine ud ee16 (fun hh8 ee17=>?_) (fun hh8 ee22=>?_)
      ·refine run_exit (blockR_out rfl (blockR_out rfl (blockR_out rfl (blockR_exit ?_))))
       have hl2:=hK2 (by assumption)
       have hw61:IntKind.i64.wrap (at'+1)=at'+1:=w64 _ om om
       have hw62:IntKind.i64.wrap (at'+2)=at'+2:=w64 _ om om
       have cc6:=hasP_c (s.text.extract ((IntKind.i64.wrap (at'+1)).toNat) s.text.size) (⟨#[61]⟩:BA)
       refine uq [(7,hcon cc6)] [uo (0≤(IntKind.i64.wrap (at'+1))∧(IntKind.i64.wrap (at'+1))≤(s.text.size:Int)),pu cc6] ?_
       refine ud ee17 (fun hh9 ee18=>?_) (fun hh9 ee19=>?_)
       ·have hp7:1≤(s.text.extract ((IntKind.i64.wrap (at'+1)).toNat) s.text.size).size:=hasP_one (p:=⟨#[61]⟩) (by assumption)
        rw [ByteArray.size_extract,hw61] at hp7
        refine uq [] [uo (0≤at'∧at'≤(IntKind.i64.wrap (at'+2))∧(IntKind.i64.wrap (at'+2))≤(s.text.size:Int))] ?_
        exact run_ret (blockR_ret (left_ret (blockR_ret (ut _ (by rw [ee18]<;>rfl)))))
       ·refine u0 ?_
        refine ud ee19 (fun hh10 ee20=>?_) (fun hh10 ee21=>?_)
        ·refine u0 ?_
         exact run_ret (blockR_ret (left_ret (blockR_ret (ut _ (by rw [ee20]<;>rfl)))))
        ·refine run_nil (blockR_normal ?_)
         exact run_nil (joined () ⟨ee21,by first | omega | exact cls_lt (by simp only [beq_iff_eq] at *;omega)⟩ (wkTo [0,1,4] [] kr))
      ·refine u0 ?_
       refine ud ee22 (fun hh11 ee23=>?_) (fun hh11 ee24=>?_)
       ·refine run_exit (blockR_out rfl (blockR_out rfl (blockR_out rfl (blockR_out rfl (blockR_exit ?_)))))
        exact run_nil (joined () ⟨ee23,by first | omega | exact cls_lt (by simp only [beq_iff_eq] at *;omega)⟩ (wkTo [0,1,4] [] kr))
       ·refine run_exit (blockR_out rfl (blockR_out rfl (blockR_out rfl (blockR_out rfl (blockR_out rfl (left_exit (blockR_exit ?_)))))))
        refine u0 ?_
        exact run_ret (ut _ (by rw [ee24]<;>rfl))
 ·replace ee1:=ee1.trans (next_k1.eq_1 s at' jx1)
  have hw61:IntKind.i64.wrap (at'+1)=at'+1:=w64 _ om om
  refine uq [] [uo (0≤at'∧at'≤(IntKind.i64.wrap (at'+1))∧(IntKind.i64.wrap (at'+1))≤(s.text.size:Int))] ?_
  exact run_ret (blockR_ret (ut _ (by rw [ee1]<;>rfl)))
theorem gap_sp{s:Scn}{i:Int}(h0:0≤i)(hi:i≤s.text.size)(hz:s.text.size≤1000000)(hcl:s.cls=classes):i≤gap s i∧gap s i≤s.text.size:=by
 have hw:=while_sp s i [1] h0 hz
 rw [gap]
 refine runW_mu (bd:=gap_b1 s i) (fun x=>i≤x∧x≤s.text.size) (fun x=>((s.text.size:Int) - x).toNat) (fun q=>i≤q.fin (fun _=>0)∧q.fin (fun _=>0)≤s.text.size) ?_ ?_ ?_ _ _ ⟨om,om⟩ om
 ·rintro x y ⟨h1,h2⟩ hb
  rw [gap_b1] at hb
  cases hc:(cls s x==2) with
  | false=>rw [hc] at hb;cases hb
  | true =>
   rw [hc,cond_true] at hb
   cases hd:decide (Shc.idxB (s.text.extract x.toNat s.text.size) 10<0) with
   | true=>rw [hd] at hb;cases hb
   | false =>
    rw [hd] at hb
    cases hb
    have hq:=hash_line (s:=s) (i:=x) om hcl (by simpa using hc) (by simpa using hd)
    have hw64:IntKind.i64.wrap (x+Shc.idxB (s.text.extract x.toNat s.text.size) 10)=x+Shc.idxB (s.text.extract x.toNat s.text.size) 10:=w64 _ om om
    have hw2:=while_sp s (IntKind.i64.wrap (x+Shc.idxB (s.text.extract x.toNat s.text.size) 10)) [1] om hz
    exact ⟨⟨om,om⟩,om⟩
 ·rintro x y _ hb
  rw [gap_b1] at hb
  cases hc:(cls s x==2) with
  | false=>rw [hc] at hb;cases hb
  | true =>
   rw [hc,cond_true] at hb
   cases hd:decide (Shc.idxB (s.text.extract x.toNat s.text.size) 10<0)<;>rw [hd] at hb<;>cases hb
 ·rintro x r ⟨h1,h2⟩ hb
  rw [gap_b1] at hb
  cases hc:(cls s x==2) with
  | false=>rw [hc] at hb;cases hb;exact ⟨h1,h2⟩
  | true =>
   rw [hc,cond_true] at hb
   cases hd:decide (Shc.idxB (s.text.extract x.toNat s.text.size) 10<0) with
   | false=>rw [hd] at hb;cases hb
   | true=>rw [hd] at hb;cases hb;exact ⟨hi,Int.le_refl _⟩
theorem next_sp{s:Scn}{i:Int}(h0:0≤i)(hz:s.text.size≤1000000)(hcl:s.cls=classes)(he:((next s i).2.2==0)=true):i<(next s i).2.1∧(next s i).2.1≤s.text.size:=by
 have ex:∀ {a:Tok} {b c:Int} {p:Prop},(((a,b,c):Tok×Int×Int).2.2==0)=true→c≠0→p:=fun h h2=>absurd (by simpa using h) h2
 have w1:i<s.text.size→IntKind.i64.wrap (i+1)=i+1:=fun h=>w64 _ om om
 have w2:i<s.text.size→IntKind.i64.wrap (i+2)=i+2:=fun h=>w64 _ om om
 revert he
 rw [next]
 cases h3:(cls s i==3) with
 | true =>
  have hk:cls s i=3:=by simpa using h3
  have:=while_gt (l:=[4,5]) h0 hz hk om
  rw [cond_true]
  cases decide (IntKind.i64.wrap (while_ s i [3,4,5] - i)>24) with
  | true=>exact fun he=>ex he (by decide)
  | false=>exact fun _=>this
 | false =>
 rw [cond_false]
 cases h4:(cls s i==4) with
 | true =>
  have hk:cls s i=4:=by simpa using h4
  have:=while_gt (l:=[]) h0 hz hk om
  rw [cond_true]
  cases (decide (IntKind.i64.wrap (while_ s i [4] - i)>13)||cls s (while_ s i [4])==3||cls s (while_ s i [4])==5) with
  | true=>exact fun he=>ex he (by decide)
  | false=>exact fun _=>this
 | false =>
 rw [cond_false]
 cases h6:(cls s i==6) with
 | true =>
  have hk:cls s i=6:=by simpa using h6
  have hl:=cls_lt (s:=s) (i:=i) om
  rw [cond_true,w1 hl]
  have hx:=Shc.idxAny_ge (s.text.extract (i+1).toNat s.text.size) ⟨#[34,10]⟩
  have hy:0≤Shc.idxAny (s.text.extract (i+1).toNat s.text.size) ⟨#[34,10]⟩→_:=Shc.idxAny_lt
  rw [ByteArray.size_extract] at hy
  generalize Shc.idxAny (s.text.extract (i+1).toNat s.text.size) ⟨#[34,10]⟩=n at hx hy
  cases hd:(decide (n<0)||byteAt (s.text.extract (i+1).toNat s.text.size) n.toNat==10) with
  | true=>exact fun he=>ex he (by decide)
  | false =>
   rw [cond_false]
   simp only [Bool.or_eq_false_iff,decide_eq_false_iff_not] at hd
   cases decide (n>400) with
   | true=>exact fun he=>ex he (by decide)
   | false =>
    intro _
    rw [cond_false]
    simp only
    rw [w64 (i+n) om om,w64 (i+n+2) om om]
    omega
 | false =>
 rw [cond_false]
 have k1:cls s i≠0→i<(next_k1 s i ()).2.1∧(next_k1 s i ()).2.1≤s.text.size:=fun h=>by
  have hl:=cls_lt h
  rw [next_k1]
  simp only [w1 hl]
  omega
 have k2:∀ x,(x=true→cls s i≠0)→((next_k2 s i x).2.2==0)=true→i<(next_k2 s i x).2.1∧(next_k2 s i x).2.1≤s.text.size:=fun x hx=>by
  rw [next_k2]
  cases x with
  | true =>
   have hl:=cls_lt (hx rfl)
   rw [cond_true,w1 hl,w2 hl]
   cases hp:hasP (s.text.extract (i+1).toNat s.text.size) ⟨#[61]⟩ with
   | true =>
    intro _
    have:=hasP_one hp
    rw [ByteArray.size_extract] at this
    have h1:(⟨#[61]⟩:BA).size=1:=rfl
    rw [cond_true]
    simp only
    omega
   | false =>
    rw [cond_false]
    cases (cls s i==7) with
    | true=>exact fun he=>ex he (by decide)
    | false=>exact fun _=>k1 (hx rfl)
  | false =>
   rw [cond_false]
   cases h9:(cls s i==9) with
   | true=>exact fun _=>k1 (by simp only [beq_iff_eq] at h9;omega)
   | false=>exact fun he=>ex he (by decide)
 cases h7:(cls s i==7) with
 | true =>
  rw [cond_true]
  exact k2 true (fun _=>by simp only [beq_iff_eq] at h7;omega)
 | false =>
  rw [cond_false]
  cases h8:(cls s i==8) with
  | true=>exact k2 true (fun _=>by simp only [beq_iff_eq] at h8;omega)
  | false=>exact k2 false (fun h=>by cases h)
end Go.Proofs.YtidbmbpeblmliaaGreatDoor.Lex
namespace Go.Proofs.YtidbmbpeblmliaaGreatDoor.LexS
open Go.Sym Go.Proofs.YtidbmbpeblmliaaGreatDoor
def lex_k1(text:BA)(lx1:Int×(List Tok))(jx1:Int):Fl (Int×(List Tok)) ((List Tok)×Int×Int):=
 (bif (jx1 != 0) then .rt ([],jx1,lx1.1) else .nx ((Lex.gap (⟨text,Lex.classes⟩:Scn) ((Lex.next (⟨text,Lex.classes⟩:Scn) lx1.1).2.1)),lx1.2++[(Lex.next (⟨text,Lex.classes⟩:Scn) lx1.1).1]))
def lex_k1_s(text:BA)(lx1:Int×(List Tok))(jx1:Int):S:=mkS 47 [(0,.b (.v (.c (.str text)))),(5,.b (.v (.c (.kptr (encScn (⟨text,Lex.classes⟩:Scn)) 0)))),(6,.b (.v (.c (.row 6 lx1.2.length)))),(7,.b (.v (vI lx1.1))),(8,.b (.v (.c (.ptr 8 0)))),(9,.b (.v (vI ((Lex.next (⟨text,Lex.classes⟩:Scn) lx1.1).2.1)))),(10,.b (.v (vI jx1)))] [(6,.row 228 4 (lx1.2.map encTok)),(8,.cells (encTok ((Lex.next (⟨text,Lex.classes⟩:Scn) lx1.1).1)))]
def lex_b1(text:BA)(lx1:Int×(List Tok)):Fl (Int×(List Tok)) ((List Tok)×Int×Int):=
 (bif (decide (lx1.1<(text.size:Int))) then (bif ((((Lex.next (⟨text,Lex.classes⟩:Scn) lx1.1).2.2)==0)&&((lx1.2.length:Int)==5000)) then lex_k1 text lx1 2 else lex_k1 text lx1 ((Lex.next (⟨text,Lex.classes⟩:Scn) lx1.1).2.2)) else .rt (lx1.2,0,0))
def lex_b1_s(text:BA)(lx1:Int×(List Tok))(n6:Nat)(r6:List (List C)):S:=mkS 47 [(0,.b (.v (.c (.str text)))),(5,.b (.v (.c (.kptr (encScn (⟨text,Lex.classes⟩:Scn)) 0)))),(6,.b (.v (.c (.row 6 n6)))),(7,.b (.v (vI lx1.1)))] [(6,.row 228 4 r6)]
def lex(text:BA):(List Tok)×Int×Int:=
 (bif (decide ((text.size:Int)>20000)) then ([],2,(-1)) else (runW (lex_b1 text) ((((text.size:Int) - ((Lex.gap (⟨text,Lex.classes⟩:Scn) 0),([]:List Tok)).1).toNat)+1) ((Lex.gap (⟨text,Lex.classes⟩:Scn) 0),([]:List Tok))).fin (fun _=>([],0,0)))
theorem lex_c(text:BA):FCall Tryz.prog 149 [.c (.str text)] (.tup [.c (.lst 4 (((lex text).1).length) (elM encTok zTok ((lex text).1))),vI ((lex text).2.1),vI ((lex text).2.2)]):=by
 have ee0:=lex.eq_1 text
 refine ul Tryz.func149 rfl (fun B hB=>?_)
 refine u0 (u0 ?_)
 refine ud ee0 (fun hh1 ee1=>?_) (fun hh1 ee2=>?_)
 ·refine u0 ?_
  refine run_weaken (wk_nilLst 2 4 (elM encTok zTok []) kr) ?_ nofun
  exact run_ret (ut _ (by rw [ee1]<;>rfl))
 ·have cc1:=Lex.classes_c
  refine us 1 cc1 ?_
  refine u0 ?_
  refine frzBox hB 5 5 0 (encScn (⟨text,Lex.classes⟩:Scn)) [0,6] [] kr kr kr ?_ nofun
  have cc2:=Lex.gap_c (⟨text,Lex.classes⟩:Scn) 0 vo vo vo (by first | exact hcl | rfl)
  refine us 0 cc2 ?_
  refine run_weaken (wk_nilRow 6 6 228 4 kr kr om) ?_ nofun
  refine uR 0 (.c (.str text)) (fun hR=>?_)
  have hL1:text.size≤9223372036854775807:=Real.size hR
  have hg0:=Lex.gap_sp (s:=(⟨text,Lex.classes⟩:Scn)) (i:=0) om om (by simp at hh1 ⊢;omega) rfl
  refine rWhile ((((text.size:Int) - ((Lex.gap (⟨text,Lex.classes⟩:Scn) 0),([]:List Tok)).1).toNat)+1) (fun qz=>lex_b1_s text qz qz.2.length (qz.2.map encTok)) (lex_b1 text) (fun lx1=>(0≤lx1.1∧lx1.1≤(text.size:Int))∧lx1.2.length≤5000) (fun lx1=>((text.size:Int) - lx1.1).toNat) ((Lex.gap (⟨text,Lex.classes⟩:Scn) 0),([]:List Tok)) (rowW (fun qn qr=>lex_b1_s text ((Lex.gap (⟨text,Lex.classes⟩:Scn) 0),([]:List Tok)) qn qr) 0 [] ([]:List Tok) (rfl) (rfl) (wkTo [0,5,6,7] [] kr)) ⟨hg0,Nat.zero_le _⟩ (Nat.lt_succ_self _) (fun k1 lx1 hJ1 hr1=>?_)
  have ee3:=lex_b1.eq_1 text lx1
  refine u0 ?_
  refine ud ee3 (fun hh2 ee4=>?_) (fun hh2 ee11=>?_)
  ·refine rBlock ?_
   have hz:text.size≤1000000:=by simp at hh1;omega
   have cc3:=Lex.next_c (⟨text,Lex.classes⟩:Scn) lx1.1 vo vo vo (by first | exact hcl | rfl)
   refine us 1 cc3 ?_
   refine uq [] [@pg (((Lex.next (⟨text,Lex.classes⟩:Scn) lx1.1).2.2)==0) (lx1.2.length=(lx1.2.map encTok).length) (fun hg=>rowN rfl rfl)] ?_
   refine rJoin (lex_k1_s text lx1) (fun jx1=>lex_b1 text lx1=lex_k1 text lx1 jx1∧((jx1==0)=true→((Lex.next (⟨text,Lex.classes⟩:Scn) lx1.1).2.2==0)=true∧lx1.2.length<5000)) nofun ?_ (fun jx1 ⟨ee5,hK1⟩=>?_)
   ·refine ud ee4 (fun hh4 ee9=>?_) (fun hh4 ee10=>?_)
    ·refine u0 ?_
     exact run_nil (joined 2 ⟨ee9,by first | exact fun h=>absurd h (by decide) | (intro h;refine ⟨h,?_⟩;rw [h] at hh4;simp at hh4;omega)⟩ (wkTo [0,5,6,7,8,9,10] [] kr))
    ·exact run_nil (joined ((Lex.next (⟨text,Lex.classes⟩:Scn) lx1.1).2.2) ⟨ee10,by first | exact fun h=>absurd h (by decide) | (intro h;refine ⟨h,?_⟩;rw [h] at hh4;simp at hh4;omega)⟩ (wkTo [0,5,6,7,8,9,10] [] kr))
   ·replace ee5:=ee5.trans (lex_k1.eq_1 text lx1 jx1)
    refine u0 ?_
    refine ud ee5 (fun hh3 ee6=>?_) (fun hh3 ee8=>?_)
    ·refine u0 ?_
     have ee7:=finw_rt ee2 hr1 ee6
     refine run_weaken (wk_nilLst 2 4 (elM encTok zTok []) kr) ?_ nofun
     exact run_ret (blockR_ret (ut _ (by rw [ee7]<;>rfl)))
    ·refine uq [(2,.frz 1 (elM encTok zTok [(Lex.next (⟨text,Lex.classes⟩:Scn) lx1.1).1]))] [@pu (1=1∧∀ i,i<1→(elM encTok zTok [(Lex.next (⟨text,Lex.classes⟩:Scn) lx1.1).1]) i=[(encTok ((Lex.next (⟨text,Lex.classes⟩:Scn) lx1.1).1))].getD i []) (⟨rfl,fun i hi=>match i,hi with | 0,_=>rfl⟩),@pu (lx1.2.length=(lx1.2.map encTok).length) (rowN rfl rfl),uo ((lx1.2.length+1)*(40+1)≤140737488355328)] ?_
     refine u0 ?_
     refine run_nil (blockR_normal ?_)
     have hj:=hK1 (by simpa using hh3)
     have hs:=Lex.next_sp (s:=(⟨text,Lex.classes⟩:Scn)) (i:=lx1.1) hJ1.1.1 hz rfl hj.1
     have hs2:=Lex.gap_sp (s:=(⟨text,Lex.classes⟩:Scn)) (i:=(Lex.next (⟨text,Lex.classes⟩:Scn) lx1.1).2.1) om hs.2 hz rfl
     simp only at hs hs2
     have cc4:=Lex.gap_c (⟨text,Lex.classes⟩:Scn) ((Lex.next (⟨text,Lex.classes⟩:Scn) lx1.1).2.1) vo vo vo (by first | exact hcl | rfl)
     refine us 1 cc4 ?_
     exact run_nil (⟨((Lex.gap (⟨text,Lex.classes⟩:Scn) ((Lex.next (⟨text,Lex.classes⟩:Scn) lx1.1).2.1)),lx1.2++[(Lex.next (⟨text,Lex.classes⟩:Scn) lx1.1).1]),rowW (fun qn qr=>lex_b1_s text ((Lex.gap (⟨text,Lex.classes⟩:Scn) ((Lex.next (⟨text,Lex.classes⟩:Scn) lx1.1).2.1)),lx1.2++[(Lex.next (⟨text,Lex.classes⟩:Scn) lx1.1).1]) qn qr) (lx1.2.length+1) ((lx1.2.map encTok)++((List.range 1).map (elM encTok zTok [(Lex.next (⟨text,Lex.classes⟩:Scn) lx1.1).1]))) (lx1.2++[(Lex.next (⟨text,Lex.classes⟩:Scn) lx1.1).1]) (rowAn rfl [(Lex.next (⟨text,Lex.classes⟩:Scn) lx1.1).1]) (rowA rfl [(Lex.next (⟨text,Lex.classes⟩:Scn) lx1.1).1]) (wkTo [0,5,6,7] [8] kr),⟨om,by simp only [List.length_append,List.length_singleton];omega⟩,ee8,by simp only;omega⟩)
  ·refine run_exit ?_
   have ee12:=finw_rt ee2 hr1 ee11
   refine u0 ?_
   refine frzRow hB 2 6 lx1.2.length 228 4 (lx1.2.map encTok) (elM encTok zTok lx1.2) [3,4] [] kr kr (len_row _ _) (elM_row _ _ _) kr ?_ nofun
   exact run_ret (ut _ (by rw [ee12]<;>rfl))
end Go.Proofs.YtidbmbpeblmliaaGreatDoor.LexS
