/- Part of the proof of the statement that the claim's last text names: contracts of functions and laws of the symbolic layer. -/
import Derived.Sort.OwnSorted
import Derived.Test.YtidbmbpeblmliaaGreatDoorU12
import Derived.Test.YtidbmbpeblmliaaGreatDoorU14
import Derived.Test.YtidbmbpeblmliaaGreatDoorU17
set_option linter.unusedVariables false
set_option linter.unusedSimpArgs false
namespace Go.Sym
open Go.RowKit Go.Proofs
variable {P:Program}
def toS(z:List UInt8):ByteArray:=⟨z.toArray⟩
def ofS(s:ByteArray):List UInt8:=s.data.toList
theorem toS_ofS(s:ByteArray):toS (ofS s)=s:=rfl
theorem ofS_toS(z:List UInt8):ofS (toS z)=z:=by simp [toS,ofS]
def rowStr(zs:List (List UInt8)):List (List C):=zs.map fun z=>[.str (toS z)]
theorem rowStr_len(zs:List (List UInt8)):(rowStr zs).length=zs.length:=by simp [rowStr]
theorem rowStr_mem{zs:List (List UInt8)}:∀ c,c∈rowStr zs→c.length=1:=by
 intro c hc
 simp only [rowStr,List.mem_map] at hc
 obtain ⟨z,_,rfl⟩:=hc
 rfl
theorem rowStr_flat(zs:List (List UInt8)):(rowStr zs).flatten=zs.map fun z=>C.str (toS z):=by
 induction zs with
 | nil=>rfl
 | cons z zs ih=>simp only [rowStr,List.map_cons,List.flatten_cons] at ih ⊢;rw [ih];rfl
theorem rowStr_vals{K:Know}{zs:List (List UInt8)}{xs:List Value}(h:RelLK K (rowStr zs).flatten xs.toArray):xs=zs.map encStr∧∀ z,z∈zs→(toS z).size≤maxLen:=by
 rw [rowStr_flat] at h
 have key:∀ (j:Nat) (hj:j<zs.length) (hx:j<xs.length),xs[j]=.string (toS zs[j])∧(toS zs[j]).size≤maxLen:=fun j hj hx=>by
  have:=(h.2 j (by simpa using hj)).1
  have e1:(zs.map fun z=>C.str (toS z)).getD j .junk=.str (toS zs[j]):=by simp [gE,hj]
  have e2:xs.toArray.getD j undef=xs[j]:=by simp [hx]
  rw [e1,e2] at this
  generalize xs[j]=v at this
  cases this with
  | str _ hs=>exact ⟨rfl,hs⟩
 have hl:xs.length=zs.length:=by simpa using h.1
 refine ⟨List.ext_getElem (by simpa using hl) fun j h1 h2=>?_,fun z hz=>?_⟩
 ·rw [(key j (by simpa using h2) h1).1];simp [encStr,toS]
 ·obtain ⟨j,hj,rfl⟩:=List.mem_iff_getElem.1 hz
  exact (key j hj (by omega)).2
theorem rowStr_rel(K:Know)(zs:List (List UInt8))(h:∀ z,z∈zs→(toS z).size≤maxLen):RelLK K (rowStr zs).flatten (zs.map encStr).toArray:=by
 rw [rowStr_flat]
 refine ⟨by simp,fun j hj=>?_⟩
 have hj:j<zs.length:=by simpa using hj
 have e1:(zs.map fun z=>C.str (toS z)).getD j .junk=.str (toS zs[j]):=by simp [gE,hj]
 have e2:(zs.map encStr).toArray.getD j undef=.string (toS zs[j]):=by simp [hj,encStr,toS]
 rw [e1,e2]
 exact ⟨RelK.str _ (h _ (List.getElem_mem hj)),rfl⟩
def sortS(zs:List (List UInt8)):List (List UInt8):=zs.mergeSort fun x y=>decide (x≤y)
theorem sortS_len(zs:List (List UInt8)):(sortS zs).length=zs.length:=by simp [sortS]
theorem mem_sortS(zs:List (List UInt8))(z:List UInt8):z∈sortS zs↔z∈zs:=(List.mergeSort_perm zs _).mem_iff
theorem arr_getS{zs:List (List UInt8)}{j:Nat}(h:j<zs.length):zs.toArray[j]! = zs[j]:=by simp [h]
theorem mem_upToS(d:Array (List UInt8))(x:List UInt8):∀ m,x∈Lib.compactUpTo d m↔∃ j,j<m∧d[j]! = x:=by
 intro m
 induction m with
 | zero=>simp [Lib.compactUpTo]
 | succ m ih =>
  rw [Lib.compactUpTo_succ,List.mem_append,ih]
  constructor
  ·rintro (⟨j,h1,h2⟩ | h)
   ·exact ⟨j,by omega,h2⟩
   ·split at h
    ·simp only [List.mem_singleton] at h
     exact ⟨m,by omega,h.symm⟩
    ·cases h
  ·rintro ⟨j,h1,h2⟩
   by_cases hj:j<m
   ·exact .inl ⟨j,hj,h2⟩
   ·have:j=m:=by omega
    subst this
    by_cases hk:Lib.keeps d j=true
    ·right;rw [if_pos hk];simp [h2]
    ·left
     by_cases h0:j=0
     ·subst h0;exact absurd (Lib.keeps_lt_one d 0 (by omega)) hk
     ·by_cases he:d[j]! = d[j - 1]!
      ·exact ⟨j - 1,by omega,by rw [← he];exact h2⟩
      ·exact absurd (Lib.keeps_pos he) hk
theorem mem_compactS(zs:List (List UInt8))(x:List UInt8):x∈Lib.compact zs↔x∈zs:=by
 rw [Lib.compact,mem_upToS,List.mem_iff_getElem]
 constructor
 ·rintro ⟨j,h1,h2⟩;exact ⟨j,h1,by rw [← arr_getS h1];exact h2⟩
 ·rintro ⟨j,h1,h2⟩;exact ⟨j,h1,by rw [arr_getS h1];exact h2⟩
theorem arr_one{vs:Array Value}(h:vs.size=1):∃ u,vs=#[u]:=by
 refine ⟨vs[0],Array.ext (by simp [h]) fun i hi h2=>?_⟩
 obtain rfl:i=0:=by omega
 rfl
theorem fown_sortS{f:FuncId}{r e:Nat}{zs:List (List UInt8)}(hf:∃ fn,P.funcs[f]?=some fn∧fn.body.isSome=true∧(fn.name== "runtime.NumGoroutine")=false)(hlen:zs.length<4611686018427387904) 
  (h:∀ (blk off cap:Nat) (w:World),Sort.Holds encStr w blk off zs.toArray→blk<w.heap.size →
   Calls P f #[.slice (some ⟨blk,off,none⟩) zs.length cap] w fun e w'=>e=.returned (.tuple #[])∧∃ n os,w'=Sort.grow (Sort.putRow encStr (Sort.ahead w n) blk off (zs.mergeSort fun x y=>decide (x≤y)).toArray) os)
  (h0:∀ (p:Option Addr) (cap:Nat) (w:World),Calls P f #[.slice p 0 cap] w fun e w'=>e=.returned (.tuple #[])∧w'=w) :
  FOwn P f [] [.c (.row r zs.length)] [(r,.row e 1 (rowStr zs))] (.tup []) [(r,.row e 1 (rowStr (sortS zs)))]:=by
 refine ⟨hf,fun E w vs hKl hK hat hsz hrel=>?_⟩
 have hu:Rel E (.row r zs.length) (vs.getD 0 undef):=(hrel 0 (by simp)).1
 obtain ⟨u,rfl⟩:=arr_one (show vs.size=1 by simpa using hsz)
 have hu:Rel E (.row r (rowStr zs).length) u:=by rw [rowStr_len];exact hu
 obtain ⟨hs1,hl,hrw,xs,hown,hrl⟩:=own_row_in hat hu
 obtain ⟨hxs,hmx⟩:=rowStr_vals hrl
 subst hxs
 have hmx':∀ z,z∈sortS zs→(toS z).size≤maxLen:=fun z hz=>hmx z ((mem_sortS zs z).1 hz)
 have tupR:∀ (K':Know) (rw':Nat→Option (Value×Nat)),RelSB (E.upd K' rw') (.tup []) (.tuple #[]):=fun _ _=>⟨#[],rfl,rfl,fun j hj=>by simp at hj⟩
 have hl':(rowStr (sortS zs)).length=(rowStr zs).length:=by rw [rowStr_len,rowStr_len,sortS_len]
 rcases hown.2 with ⟨hnil,hz⟩ | ⟨g,cap,cur,hv,hb,hg,hn,hm,hs,ht⟩
 ·subst hnil
  have hz0:zs=[]:=by rw [rowStr_len] at hz;exact List.eq_nil_of_length_eq_zero hz
  subst hz0
  refine (h0 none 0 w).mono ?_
  rintro en w' ⟨rfl,rfl⟩
  refine ⟨E.K,_,_,rfl,own_row_out (hid:=[]) (css':=rowStr (sortS [])) (u':=.slice none 0 0) hK hat hrw hs1 rowStr_mem (World.grownBy_refl _ _) ?_ (rowStr_rel _ _ hmx') rfl (.inr (by rw [hl'])),tupR _ _⟩
  have e0:sortS []=[]:=by simp [sortS]
  rw [e0];exact hown
 ·subst hv
  have hlt:g<w.heap.size:=(Array.getElem?_eq_some_iff.1 hg).1
  rw [rowStr_len,Nat.mul_one] at ht
  rw [rowStr_len] at hn
  have hH:Sort.Holds encStr w g 0 zs.toArray:=holds_of_block hg ht
  rw [rowStr_len]
  refine (h g 0 cap w hH hlt).mono ?_
  rintro en w' ⟨rfl,n,os,rfl⟩
  refine ⟨E.K,_,_,rfl,own_row_out (hid:=[]) (css':=rowStr (sortS zs)) (u':=.slice (some ⟨g,0,none⟩) (rowStr zs).length cap) hK hat hrw hs1 rowStr_mem (grownBy_sorted _) ?_ (rowStr_rel _ _ hmx') rfl (.inr (by rw [hl'])),tupR _ _⟩
  rw [hl',rowStr_len]
  exact ownsRow_sorted (ss:=zs) (ts:=sortS zs) (sortS_len zs) hb hg hn hm hs
theorem fown_compactS{f:FuncId}{r e:Nat}{zs:List (List UInt8)}(hf:∃ fn,P.funcs[f]?=some fn∧fn.body.isSome=true∧(fn.name== "runtime.NumGoroutine")=false) 
  (h:∀ (blk off cap:Nat) (w:World),Sort.Holds encStr w blk off zs.toArray→zs.length≤cap →
   Calls P f #[.slice (some ⟨blk,off,none⟩) zs.length cap] w fun e w'=>e=.returned (.slice (some ⟨blk,off,none⟩) (Lib.compact zs).length cap) ∧
    ∃ q,w'=Sort.putRow encStr (Sort.ahead w q) blk off (Lib.compact zs++List.replicate (zs.length - (Lib.compact zs).length) []).toArray)
  (h0:∀ (p:Option Addr) (cap:Nat) (w:World),Calls P f #[.slice p 0 cap] w fun e w'=>e=.returned (.slice p 0 cap)∧w'=w) (hle:(Lib.compact zs).length≤zs.length) :
  FOwn P f [r] [.c (.row r zs.length)] [(r,.row e 1 (rowStr zs))] (.v (.c (.row r (Lib.compact zs).length))) [(r,.row e 1 (rowStr (Lib.compact zs)))]:=by
 refine ⟨hf,fun E w vs hKl hK hat hsz hrel=>?_⟩
 have hu:Rel E (.row r zs.length) (vs.getD 0 undef):=(hrel 0 (by simp)).1
 obtain ⟨u,rfl⟩:=arr_one (show vs.size=1 by simpa using hsz)
 have hu:Rel E (.row r (rowStr zs).length) u:=by rw [rowStr_len];exact hu
 obtain ⟨hs1,hl,hrw,xs,hown,hrl⟩:=own_row_in hat hu
 obtain ⟨hxs,hmx⟩:=rowStr_vals hrl
 subst hxs
 have hmx':∀ z,z∈Lib.compact zs→(toS z).size≤maxLen:=fun z hz=>hmx z ((mem_compactS zs z).1 hz)
 have hhid:hasN [r] r=true:=hasN_iff.2 List.mem_cons_self
 rcases hown.2 with ⟨hnil,hz⟩ | ⟨g,cap,cur,hv,hb,hg,hn,hm,hs,ht⟩
 ·subst hnil
  have hz0:zs=[]:=by rw [rowStr_len] at hz;exact List.eq_nil_of_length_eq_zero hz
  subst hz0
  refine (h0 none 0 w).mono ?_
  rintro en w' ⟨rfl,rfl⟩
  refine ⟨E.K,_,_,rfl,own_row_out (hid:=[r]) (css':=rowStr (Lib.compact [])) (u':=.slice none 0 0) hK hat hrw hs1 rowStr_mem (World.grownBy_refl _ _) ?_ (rowStr_rel _ _ hmx') rfl (.inl hhid),?_⟩
  ·exact hown
  ·exact ⟨⟨.slice none 0 0,(rowStr (Lib.compact [])).length,if_pos rfl,by rw [rowStr_len];exact Nat.le_refl _,fun _=>rfl⟩,rfl⟩
 ·subst hv
  have hlt:g<w.heap.size:=(Array.getElem?_eq_some_iff.1 hg).1
  rw [rowStr_len,Nat.mul_one] at ht
  rw [rowStr_len] at hn
  have hH:Sort.Holds encStr w g 0 zs.toArray:=holds_of_block hg ht
  rw [rowStr_len]
  refine (h g 0 cap w hH hn).mono ?_
  rintro en w' ⟨rfl,q,rfl⟩
  refine ⟨E.K,_,_,rfl,own_row_out (hid:=[r]) (css':=rowStr (Lib.compact zs)) (u':=.slice (some ⟨g,0,none⟩) (Lib.compact zs).length cap) hK hat hrw hs1 rowStr_mem ?_ ?_ (rowStr_rel _ _ hmx') rfl (.inl hhid),?_⟩
  ·have:=grownBy_sorted (w:=w) (g:=g) (n:=q) (os:=#[]) (Lib.compact zs++List.replicate (zs.length - (Lib.compact zs).length) []).toArray
   rw [Sort.grow_empty] at this
   exact this
  ·rw [rowStr_len]
   have hown':w.ownsRow 0 e 1 (.slice (some ⟨g,0,none⟩) zs.length cap) zs.length (zs.map encStr):=by rw [← rowStr_len zs];exact hown
   have:=Lib.ownsRow_putRow (q:=q) (k:=(Lib.compact zs).length) (ys:=Lib.compact zs++List.replicate (zs.length - (Lib.compact zs).length) []) hown' (by simp;omega) hle
   rwa [List.take_append_of_le_length (Nat.le_refl _),List.take_length] at this
  ·exact ⟨⟨.slice (some ⟨g,0,none⟩) (Lib.compact zs).length cap,(rowStr (Lib.compact zs)).length,if_pos rfl,by rw [rowStr_len];exact Nat.le_refl _,fun _=>rfl⟩,rfl⟩
end Go.Sym
namespace Go.Proofs.YtidbmbpeblmliaaGreatDoor.Nms
open Go.Sym Go.Proofs.YtidbmbpeblmliaaGreatDoor
def bsS(l:List BA):List (List UInt8):=l.map ofS
def sorted(l:List BA):List BA:=(sortS (bsS l)).map toS
def compact(l:List BA):List BA:=(Lib.compact (bsS l)).map toS
theorem bsS_map(zs:List (List UInt8)):bsS (zs.map toS)=zs:=by
 rw [bsS,List.map_map];exact (List.map_congr_left fun z _=>ofS_toS z).trans (List.map_id _)
theorem row_eq(l:List BA):l.map Sym.encS=rowStr (bsS l):=by
 rw [rowStr,bsS,List.map_map];rfl
theorem mem_bsS{l:List BA}{s:BA}:ofS s∈bsS l↔s∈l:=by
 rw [bsS,List.mem_map]
 constructor
 ·rintro ⟨t,h,e⟩
  have:t=s:=by rw [← toS_ofS t,← toS_ofS s,e]
  exact this▸h
 ·exact fun h=>⟨s,h,rfl⟩
theorem mem_toS{zs:List (List UInt8)}{s:BA}:s∈zs.map toS↔ofS s∈zs:=by
 rw [List.mem_map]
 constructor
 ·rintro ⟨z,h,rfl⟩;rw [ofS_toS];exact h
 ·exact fun h=>⟨_,h,toS_ofS s⟩
theorem mem_sorted{l:List BA}{s:BA}:s∈sorted l↔s∈l:=by
 rw [sorted,mem_toS,mem_sortS,mem_bsS]
theorem mem_compact{l:List BA}{s:BA}:s∈compact l↔s∈l:=by
 rw [compact,mem_toS,mem_compactS,mem_bsS]
theorem sorted_len(l:List BA):(sorted l).length=l.length:=by rw [sorted,List.length_map,sortS_len,bsS,List.length_map]
theorem sort_o(l:List BA)(h:l.length≤1000000):FOwn Tryz.prog 106 [] [.c (.row 0 l.length)] [(0,.row 9 1 (l.map Sym.encS))] (.tup []) [(0,.row 9 1 ((sorted l).map Sym.encS))]:=by
 have hb:(bsS l).length=l.length:=by rw [bsS,List.length_map]
 rw [row_eq,row_eq,sorted,bsS_map,← hb]
 exact fown_sortS ⟨_,Tryz.func106,kr,kr⟩ om (fun blk off cap w h1 h2=>Tryz.slices_Sort_string blk off cap _ w h1 h2 om) (fun p cap w=>Tryz.slices_Sort_string_none p cap w)
def names(l:List BA):List BA:=compact (sorted l)
theorem mem_names{l:List BA}{s:BA}:s∈names l↔s∈l:=by rw [names,mem_compact,mem_sorted]
theorem compact_o(l:List BA)(h:l.length≤1000000):FOwn Tryz.prog 107 [0] [.c (.row 0 l.length)] [(0,.row 9 1 ((sorted l).map Sym.encS))] (.v (.c (.row 0 (names l).length))) [(0,.row 9 1 ((names l).map Sym.encS))]:=by
 have hb:(bsS (sorted l)).length=l.length:=by rw [bsS,List.length_map,sorted_len]
 have hc:(names l).length=(Lib.compact (bsS (sorted l))).length:=by rw [names,compact,List.length_map]
 rw [row_eq,row_eq,hc,names,compact,bsS_map,← hb]
 exact fown_compactS ⟨_,Tryz.func107,kr,kr⟩ (fun blk off cap w h1 h2=>Tryz.slices_Compact_string blk off cap _ w h1 om h2) (fun p cap w=>Tryz.slices_Compact_string_empty p cap w) (Lib.compact_length_le _)
def Names_b1_r(e':List Nd)(lx1:(List BA)):(List BA)×Int:=
 ((names lx1),0)
def Names_b1(e':List Nd)(li1:Nat)(lx1:(List BA)):Fl (List BA) ((List BA)×Int):=
 (bif (((e'.getD li1 zNd).op)==2) then .nx (lx1++[(e'.getD li1 zNd).name]) else .nx lx1)
def Names_b1_s(e':List Nd)(li1:Nat)(qv:Int)(lx1:(List BA))(n4:Nat)(r4:List (List C)):S:=mkS 29 [(4,.b (.v (.c (.row 4 n4)))),(10,.b (.v (.c (.lst 4 e'.length (elM encNd zNd e'))))),(11,.b (.v (vI (e'.length:Int)))),(12,.b (.v (vI qv)))] [(4,.row 9 1 r4)]
def Names(e':List Nd):(List BA)×Int:=
 (bif (!(Exp.Valid e')) then ([],1) else (runL (Names_b1 e') e'.length 0 ([]:List BA)).fin (Names_b1_r e'))
theorem Names_c(e':List Nd):FCall Tryz.prog 32 [.c (.lst 4 e'.length (elM encNd zNd e'))] (.tup [.c (.lst 1 (((Names e').1).length) (elM Sym.encS ByteArray.empty ((Names e').1))),vI ((Names e').2)]):=by
 have ee0:=Names.eq_1 e'
 refine ul Tryz.func32 rfl (fun B hB=>?_)
 refine u0 ?_
 have cc1:=Exp.Valid_c e'
 refine us 1 cc1 ?_
 refine ud ee0 (fun hh1 ee1=>?_) (fun hh1 ee2=>?_)
 ·refine u0 ?_
  refine run_weaken (wk_nilLst 2 1 (elM Sym.encS ByteArray.empty []) kr) ?_ nofun
  exact run_ret (ut _ (by rw [ee1]<;>rfl))
 ·have hg9:=(Exp.Valid_good (e:=e') (by simpa using hh1)).1.2
  refine u0 (u0 ?_)
  refine run_weaken (wk_nilRow 4 4 9 1 kr kr om) ?_ nofun
  refine uS 0 4 e'.length (elM encNd zNd e') (fun hL1=>?_)
  refine rForX e'.length (fun qi qv qz=>Names_b1_s e' qi qv qz qz.length (qz.map Sym.encS)) (Names_b1 e') (fun li1 lx1=>lx1.length≤li1) ([]:List BA) rfl mix (rowW (fun qn qr=>Names_b1_s e' 0 0 ([]:List BA) qn qr) 0 [] ([]:List BA) (rfl) (rfl) (wkTo [4,10,11,12] [] kr)) (by simp) (fun qi qz=>⟨kr,kr⟩) (fun li1 lx1 hi1 hJ1 hr1=>?_) (fun lx1 hJ1 hr1=>?_)
  ·have ee4:=Names_b1.eq_1 e' li1 lx1
   refine uq [] [ub (li1:Int) e'.length] ?_
   refine u0 ?_
   refine ud ee4 (fun hh2 ee5=>?_) (fun hh2 ee6=>?_)
   ·refine uq [(3,.frz 1 (elM Sym.encS ByteArray.empty [(e'.getD li1 zNd).name]))] [@pu (1=1∧∀ i,i<1→(elM Sym.encS ByteArray.empty [(e'.getD li1 zNd).name]) i=[[.str ((e'.getD li1 zNd).name)]].getD i []) (⟨rfl,fun i hi=>match i,hi with | 0,_=>rfl⟩),@pu (lx1.length=(lx1.map Sym.encS).length) (rowN rfl rfl),uo ((lx1.length+1)*(16+1)≤140737488355328)] ?_
    exact run_nil (forX_nx (fun qi qv qz=>Names_b1_s e' qi qv qz qz.length (qz.map Sym.encS)) (lx1++[(e'.getD li1 zNd).name]) hi1 om kr (rowW (fun qn qr=>Names_b1_s e' (li1+1) (IntKind.i64.wrap ((li1:Int)+1)) (lx1++[(e'.getD li1 zNd).name]) qn qr) (lx1.length+1) ((lx1.map Sym.encS)++((List.range 1).map (elM Sym.encS ByteArray.empty [(e'.getD li1 zNd).name]))) (lx1++[(e'.getD li1 zNd).name]) (rowAn rfl [(e'.getD li1 zNd).name]) (rowA rfl [(e'.getD li1 zNd).name]) (wkTo [4,10,11,12] [6] kr)) ((by first | omega | (simp;omega) | (simp only [List.length_append,List.length_cons,List.length_nil] at *;omega))) ee5)
   ·exact run_nil (forX_nx (fun qi qv qz=>Names_b1_s e' qi qv qz qz.length (qz.map Sym.encS)) lx1 hi1 om kr (rowW (fun qn qr=>Names_b1_s e' (li1+1) (IntKind.i64.wrap ((li1:Int)+1)) lx1 qn qr) lx1.length (lx1.map Sym.encS) lx1 (rfl) (rfl) (wkTo [4,10,11,12] [6] kr)) ((by first | omega | (simp;omega) | (simp only [List.length_append,List.length_cons,List.length_nil] at *;omega))) ee6)
  ·have ee3:=(fin_nx ee2 hr1).trans (Names_b1_r.eq_1 e' lx1)
   have hl9:lx1.length≤1000000:=by omega
   refine uq [(1,.own [4] [] (.tup []) [(4,.row 9 1 ((sorted lx1).map Sym.encS))])] [pu ((sort_o lx1 hl9).ren (fun | 0=>4 | n=>n) ⟨kr,kr,kr,kr,kr,kr,kr⟩)] ?_
   refine uq [(1,.own [4] [4] (.v (.c (.row 4 ((names lx1).length)))) [(4,.row 9 1 ((names lx1).map Sym.encS))])] [pu ((compact_o lx1 hl9).ren (fun | 0=>4 | n=>n) ⟨kr,kr,kr,kr,kr,kr,kr⟩)] ?_
   refine frzRow hB 2 4 ((names lx1).length) 9 1 ((names lx1).map Sym.encS) (elM Sym.encS ByteArray.empty (names lx1)) [3] [] kr kr (len_row _ _) (elM_row _ _ _) kr ?_ nofun
   exact run_ret (ut _ (by rw [ee3]<;>rfl))
end Go.Proofs.YtidbmbpeblmliaaGreatDoor.Nms
