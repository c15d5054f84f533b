/- Part of the proof of the statement that the claim's last text names: contracts of functions and laws of the symbolic layer. -/
import Derived.Laws.StructEq
import Derived.ChangeKeysEq
import Derived.Test.YtidbmbpeblmliaaGreatDoorO11
import Derived.Sort.OwnSortedInts
import Derived.Lib.OwnBridge
import Derived.Lib.SlicesCompact
set_option linter.unusedVariables false
set_option linter.unusedSimpArgs false
namespace Go.Sym
open Go.RowKit
section
variable {P:Program}
def flatFields(g:TypeId→Option (List Flat))(sz:TypeId→Nat):Nat→List Field→Option (List Flat)
 | _,[]=>some []
 | off,f :: fs=>if f.name≠ "_" ∧ f.offset=off then (match g f.type with
  | some l=>if sz f.type=l.length then (flatFields g sz (off+l.length) fs).map (l++·) else none
  | none=>none)
  else none
def repL{α:Type}(l:List α):Nat→List α
 | 0=>[]
 | n+1=>l++repL l n
def flatTy(P:Program):Nat→TypeId→Option (List Flat)
 | 0,_=>none
 | d+1,t=>match P.underlying t with
  | some .bool=>some [.bool]
  | some (.int k)=>some [.int k]
  | some .string=>some [.str]
  | some (.struct fs)=>if P.stoodInHeld t=false then flatFields (flatTy P d) P.cellsOf 0 fs.toList else none
  | some (.array n e)=>match flatTy P d e with
   | some l=>if P.cellsOf e=l.length then some (repL l n) else none
   | none=>none
  | _=>none
def MatchF(fs:List Flat)(us:List Value):Prop:=us.length=fs.length∧∀ (j:Nat) (f:Flat) (u:Value),fs[j]?=some f→us[j]?=some u→Flat.val f u
def wrapV(P:Program)(t:TypeId)(us:List Value):Value:=if isAggT P t then .agg us.toArray else us.getD 0 undef
theorem MatchF.left{a b:List Flat}{us:List Value}(h:MatchF (a++b) us):MatchF a (us.take a.length):=by
 obtain ⟨h1,h2⟩:=h
 rw [List.length_append] at h1
 refine ⟨by rw [List.length_take];omega,fun j f u hf hu=>?_⟩
 have hj:=(List.getElem?_eq_some_iff.1 hf).1
 rw [List.getElem?_take,if_pos hj] at hu
 exact h2 j f u (by rw [List.getElem?_append_left hj];exact hf) hu
theorem MatchF.right{a b:List Flat}{us:List Value}(h:MatchF (a++b) us):MatchF b (us.drop a.length):=by
 obtain ⟨h1,h2⟩:=h
 rw [List.length_append] at h1
 refine ⟨by rw [List.length_drop];omega,fun j f u hf hu=>?_⟩
 rw [List.getElem?_drop] at hu
 exact h2 (a.length+j) f u (by rw [List.getElem?_append_right (by omega),Nat.add_sub_cancel_left];exact hf) hu
def eq1:Value→Value→Bool
 | .int _ a,.int _ b=>a==b
 | .bool a,.bool b=>a==b
 | .string a,.string b=>a.toList==b.toList
 | _,_=>false
theorem eqVals_cons(x y:Value)(us vs:List Value):eqVals (x :: us) (y :: vs)=(eq1 x y&&eqVals us vs):=by
 cases x<;>cases y<;>simp [eqVals,eq1]
theorem eqVals_append:∀ {a c b d:List Value},a.length=c.length→eqVals (a++b) (c++d)=(eqVals a c&&eqVals b d):=by
 intro a
 induction a with
 | nil=>intro c b d h;cases c with
  | nil=>simp [eqVals]
  | cons=>simp at h
 | cons x a ih=>intro c b d h;cases c with
  | nil=>simp at h
  | cons y c =>
   rw [List.cons_append,List.cons_append,eqVals_cons,eqVals_cons,ih (by simpa using h),Bool.and_assoc]
theorem eqVals_split{us vs:List Value}(n:Nat)(hl:us.length=vs.length):eqVals us vs=(eqVals (us.take n) (vs.take n)&&eqVals (us.drop n) (vs.drop n)):=by
 have h:=@eqVals_append (us.take n) (vs.take n) (us.drop n) (vs.drop n) (by simp [hl])
 rwa [List.take_append_drop,List.take_append_drop] at h
theorem flatTy_info{d:Nat}{e:TypeId}{l:List Flat}(h:flatTy P d e=some l):∃ i,P.info? e=some i:=by
 cases d with
 | zero=>simp [flatTy] at h
 | succ d =>
  unfold flatTy at h
  cases hu:P.underlying e with
  | none=>simp [hu] at h
  | some k=>exact info_of_underlying hu
theorem run_part_flat(w:World){d:Nat}{e:TypeId}{l:List Flat}{xs:Array Value}{off:Nat}(he:flatTy P d e=some l)(hsz:P.cellsOf e=l.length)(hm:MatchF l ((xs.toList.drop off).take l.length)):
  (Go.part e xs off).run P w=.ok (wrapV P e ((xs.toList.drop off).take l.length)) w:=by
 obtain ⟨i,hi⟩:=flatTy_info he
 cases d with
 | zero=>simp [flatTy] at he
 | succ d =>
  unfold flatTy at he
  have one:∀ x,l=[x]→xs[off]?=some (((xs.toList.drop off).take l.length).getD 0 undef):=by
   intro x hx
   subst hx
   have:=hm.1
   have h0:off<xs.size:=by simp at this;omega
   simp [h0,gE]
  have aggs:isAggT P e=true→(∃ fs,P.underlying e=some (.struct fs))∨(∃ n t,P.underlying e=some (.array n t))→(Go.part e xs off).run P w=.ok (wrapV P e ((xs.toList.drop off).take l.length)) w:=by
   intro ha hk
   have hex:xs.extract off (off+l.length)=((xs.toList.drop off).take l.length).toArray:=by
    apply Array.ext'
    simp [List.extract]
   rcases hk with ⟨fs,hu⟩ | ⟨n,t,hu⟩<;>simp [Go.part,isAgg,run_underlying hu,Go.run_sizeOf w hi,wrapV,ha,hsz,hex]
  split at he
  ·rename_i hu
   cases he
   have h0:=one _ rfl
   simp only [wrapV,isAggT,hu,Bool.false_eq_true,if_false]
   revert h0
   generalize (List.take _ (List.drop off xs.toList)).getD 0 undef=v
   intro h0
   simp [Go.part,isAgg,run_underlying hu,h0]
  ·rename_i hu
   cases he
   have h0:=one _ rfl
   simp only [wrapV,isAggT,hu,Bool.false_eq_true,if_false]
   revert h0
   generalize (List.take _ (List.drop off xs.toList)).getD 0 undef=v
   intro h0
   simp [Go.part,isAgg,run_underlying hu,h0]
  ·rename_i hu
   cases he
   have h0:=one _ rfl
   simp only [wrapV,isAggT,hu,Bool.false_eq_true,if_false]
   revert h0
   generalize (List.take _ (List.drop off xs.toList)).getD 0 undef=v
   intro h0
   simp [Go.part,isAgg,run_underlying hu,h0]
  ·rename_i fs hu
   exact aggs (by simp [isAggT,hu]) (.inl ⟨fs,hu⟩)
  ·rename_i n t hu
   exact aggs (by simp [isAggT,hu]) (.inr ⟨n,t,hu⟩)
  ·cases he
def EqFl(P:Program)(d:Nat)(t:TypeId)(l:List Flat):Prop:=
 ∀ (w:World) (us vs:List Value),MatchF l us→MatchF l vs→(Op.equalIn d t (wrapV P t us) (wrapV P t vs)).run P w=.ok (eqVals us vs) w
theorem run_eqFields_flat{d0 d:Nat}(ih:∀ t l,flatTy P d0 t=some l→EqFl P d t l)(w:World)(xs ys:Array Value):∀ (fs:List Field) (off:Nat) (l:List Flat),flatFields (flatTy P d0) P.cellsOf off fs=some l →
  MatchF l (xs.toList.drop off)→MatchF l (ys.toList.drop off)→(Op.eqFields d xs ys fs).run P w=.ok (eqVals (xs.toList.drop off) (ys.toList.drop off)) w:=by
 intro fs
 induction fs with
 | nil =>
  intro off l h h1 h2
  simp only [flatFields,Option.some.injEq] at h
  subst h
  have e1:=List.eq_nil_of_length_eq_zero h1.1
  have e2:=List.eq_nil_of_length_eq_zero h2.1
  rw [e1,e2]
  simp [Op.eqFields,eqVals]
 | cons f fs ihf =>
  intro off l h h1 h2
  simp only [flatFields] at h
  split at h
  case isFalse=>cases h
  rename_i hn
  split at h
  case h_2=>cases h
  rename_i lf hlf
  split at h
  case isFalse=>cases h
  rename_i hsz
  simp only [Option.map_eq_some_iff] at h
  obtain ⟨lr,hlr,rfl⟩:=h
  have hxl:=h1.left
  have hyl:=h2.left
  have hxr:=h1.right
  have hyr:=h2.right
  rw [List.drop_drop] at hxr hyr
  have hrec:=ihf (off+lf.length) lr hlr hxr hyr
  have p1:=run_part_flat (P:=P) w (xs:=xs) (off:=off) hlf hsz hxl
  have p2:=run_part_flat (P:=P) w (xs:=ys) (off:=off) hlf hsz hyl
  have p3:=ih _ _ hlf w _ _ hxl hyl
  have hl:(xs.toList.drop off).length=(ys.toList.drop off).length:=h1.1.trans h2.1.symm
  rw [eqVals_split lf.length hl,List.drop_drop,List.drop_drop]
  simp only [Op.eqFields,hn.1,ne_eq,not_false_eq_true,if_true,Sem.run_bind,hn.2,p1,p2,p3,Result.andThen_ok]
  cases eqVals ((xs.toList.drop off).take lf.length) ((ys.toList.drop off).take lf.length)
  ·simp
  ·simpa using hrec
theorem run_eqItems_flat{d0 d:Nat}{e:TypeId}{l:List Flat}(hl:flatTy P d0 e=some l)(hsz:P.cellsOf e=l.length)(ih:EqFl P d e l)(w:World)(xs ys:Array Value):∀ (n i:Nat),
  MatchF (repL l n) (xs.toList.drop (i*l.length))→MatchF (repL l n) (ys.toList.drop (i*l.length))→(Op.eqItems d e (P.cellsOf e) xs ys (List.range' i n)).run P w=.ok (eqVals (xs.toList.drop (i*l.length)) (ys.toList.drop (i*l.length))) w:=by
 intro n
 induction n with
 | zero =>
  intro i h1 h2
  have e1:=List.eq_nil_of_length_eq_zero h1.1
  have e2:=List.eq_nil_of_length_eq_zero h2.1
  rw [e1,e2]
  simp [Op.eqItems,eqVals]
 | succ n ihn =>
  intro i h1 h2
  simp only [repL] at h1 h2
  have hxl:=h1.left
  have hyl:=h2.left
  have hxr:=h1.right
  have hyr:=h2.right
  have e:i*l.length+l.length=(i+1)*l.length:=by rw [Nat.add_mul,Nat.one_mul]
  rw [List.drop_drop,e] at hxr hyr
  have hrec:=ihn (i+1) hxr hyr
  have p1:=run_part_flat (P:=P) w (xs:=xs) (off:=i*l.length) hl hsz hxl
  have p2:=run_part_flat (P:=P) w (xs:=ys) (off:=i*l.length) hl hsz hyl
  have p3:=ih w _ _ hxl hyl
  have hll:(xs.toList.drop (i*l.length)).length=(ys.toList.drop (i*l.length)).length:=h1.1.trans h2.1.symm
  rw [eqVals_split l.length hll,List.drop_drop,List.drop_drop,e]
  simp only [List.range'_succ,Op.eqItems,Sem.run_bind,hsz,p1,p2,p3,Result.andThen_ok]
  rw [hsz] at hrec
  cases eqVals ((xs.toList.drop (i*l.length)).take l.length) ((ys.toList.drop (i*l.length)).take l.length)
  ·simp
  ·simpa using hrec
theorem eqFl_of(k:Nat):∀ (d:Nat) (t:TypeId) (l:List Flat),flatTy P d t=some l→EqFl P (k+d) t l
 | 0,t,l,h=>by simp [flatTy] at h
 | d+1,t,l,h=>by
  intro w us vs h1 h2
  unfold flatTy at h
  have one:∀ f,l=[f]→∃ u v,us=[u]∧vs=[v]∧Flat.val f u∧Flat.val f v:=by
   intro f hf
   subst hf
   match us,h1.1,vs,h2.1 with
   | [u],_,[v],_=>exact ⟨u,v,rfl,rfl,h1.2 0 f u rfl rfl,h2.2 0 f v rfl rfl⟩
  split at h
  ·rename_i hu
   obtain ⟨u,v,rfl,rfl,⟨a,rfl⟩,⟨b,rfl⟩⟩:=one _ (Option.some.inj h).symm
   rw [show k+(d+1)=(k+d)+1 from rfl]
   simpa [wrapV,isAggT,hu,eqVals] using run_equalIn_bool' (P:=P) w (k+d) t a b hu
  ·rename_i q hu
   obtain ⟨u,v,rfl,rfl,⟨a,rfl⟩,⟨b,rfl⟩⟩:=one _ (Option.some.inj h).symm
   rw [show k+(d+1)=(k+d)+1 from rfl]
   simpa [wrapV,isAggT,hu,eqVals] using run_equalIn_int (P:=P) w (k+d) t q q a b hu
  ·rename_i hu
   obtain ⟨u,v,rfl,rfl,⟨a,rfl⟩,⟨b,rfl⟩⟩:=one _ (Option.some.inj h).symm
   rw [show k+(d+1)=(k+d)+1 from rfl]
   simpa [wrapV,isAggT,hu,eqVals] using run_equalIn_string (P:=P) w (k+d) t a b hu
  ·rename_i fs hu
   split at h
   case isFalse=>cases h
   rename_i hp
   have hfs:P.fieldsOf t=fs:=by simp [Program.fieldsOf,hu]
   have hag:isAggT P t=true:=by simp [isAggT,hu]
   simp only [wrapV,hag,if_true]
   rw [show k+(d+1)=(k+d)+1 from rfl,run_equalIn_struct w (k+d) t _ _ (by rw [hfs];exact hu) hp,hfs]
   have:=run_eqFields_flat (P:=P) (fun t l h=>eqFl_of k d t l h) w us.toArray vs.toArray fs.toList 0 l h (by simpa using h1) (by simpa using h2)
   simpa using this
  ·rename_i n e hu
   split at h
   case h_2=>cases h
   rename_i le hle
   split at h
   case isFalse=>cases h
   rename_i hsz
   cases h
   obtain ⟨i,hi⟩:=flatTy_info hle
   have hag:isAggT P t=true:=by simp [isAggT,hu]
   simp only [wrapV,hag,if_true]
   rw [show k+(d+1)=(k+d)+1 from rfl,run_equalIn_array w (k+d) _ _ hu hi,List.range_eq_range']
   have:=run_eqItems_flat (P:=P) hle hsz (eqFl_of k d e le hle) w us.toArray vs.toArray n 0 (by simpa using h1) (by simpa using h2)
   simpa using this
  ·cases h
theorem eqTy_of(d:Nat){t:TypeId}{fs:List Flat}(h:flatTy P d t=some fs)(hd:d≤10000)(ha:isAggT P t=true)(hg:P.eqGuardType P.depth t=false):EqTy P t fs:=by
 intro w us vs x y hu hv h1 h2
 refine ⟨run_eqGuard_agg w .eql t x y _ _ hg,run_eqGuard_agg w .neq t x y _ _ hg,?_⟩
 have:=eqFl_of (P:=P) (10000 - d) d t fs h w us vs ⟨hu,h1⟩ ⟨hv,h2⟩
 rw [show 10000 - d+d=10000 by omega] at this
 simpa [wrapV,ha,Op.equal,Op.maxDepth] using this
end
variable {P:Program} {B:Base P}
structure Pf where
 p:Prop
 h:p
abbrev pf{p:Prop}(h:p):Pf:=⟨p,h⟩
abbrev hcon{f:FuncId}{args:List CV}{r:SB}(_:FCall P f args r):Hint:=.call r
theorem asked_pf{x:Option (S×List Ask)}(l:List Pf)(e:(asks x).map Ask.p=l.map Pf.p):Asked x:=by
 refine asks_of _ e ?_
 clear e
 induction l with
 | nil=>trivial
 | cons y l ih=>rw [List.map_cons,allP_cons];exact ⟨y.h,ih⟩
theorem asked_if{x:Option (S×List Ask)}(l:List Pf)(e:(asks x).map Ask.whole=l.map Pf.p):Asked x:=by
 refine asks_if _ e ?_
 clear e
 induction l with
 | nil=>trivial
 | cons y l ih=>rw [List.map_cons,allP_cons];exact ⟨y.h,ih⟩
theorem regI{s:S}{id:Nat}{ops:Array Oper}{draw:Bool}{cs:List Code}{Q:Exit→S→Prop}(hmix:P.follows .mixedOrders=true)(hs:List (Nat×Hint))(l:List Pf)(e:(asks (evalRegion P ops draw hs s)).map Ask.whole=l.map Pf.p) 
  (h:Run P B (nextS (evalRegion P ops draw hs s)) cs Q) (hn:elderAny hs=false:=by rfl):Run P B s (.region id ops draw :: cs) Q:=run_reg hs hmix (asked_if l e) h hn
theorem reg{s:S}{id:Nat}{ops:Array Oper}{draw:Bool}{cs:List Code}{Q:Exit→S→Prop}(hmix:P.follows .mixedOrders=true)(hs:List (Nat×Hint))(l:List Pf)(e:(asks (evalRegion P ops draw hs s)).map Ask.p=l.map Pf.p) 
  (h:Run P B (nextS (evalRegion P ops draw hs s)) cs Q) (hn:elderAny hs=false:=by rfl):Run P B s (.region id ops draw :: cs) Q:=run_reg hs hmix (asked_pf l e) h hn
theorem reg0{s:S}{id:Nat}{ops:Array Oper}{draw:Bool}{cs:List Code}{Q:Exit→S→Prop}(hmix:P.follows .mixedOrders=true)(e:asks (evalRegion P ops draw [] s)=[]) 
  (h:Run P B (nextS (evalRegion P ops draw [] s)) cs Q):Run P B s (.region id ops draw :: cs) Q:=run_reg [] hmix (asks_nil e) h
theorem rJoin{ι:Type}{s:S}{c:Code}{cs:List Code}{Q:Exit→S→Prop}(told:ι→S)(R:ι→Prop)(hne:cs≠[]) 
  (h1:Run P B s (flatC c []) (fun e s'=>(e=.normal∧∃ x,R x∧Wk P s' (told x))∨(e≠.normal∧Q e s'))) (h2:∀ x,R x→Run P B (told x) cs Q):Run P B s (c :: cs) Q:=by
 refine tri_mono (run_tri (run_flat h1)) fun e s' hq=>?_
 have hq':(e=.normal∧∃ x,R x∧Wk P s' (told x))∨(e≠.normal∧Q e s'):=by cases e<;>exact hq
 rcases hq' with ⟨rfl,x,hR,hw⟩ | ⟨hne',hQ⟩
 ·exact run_weaken hw (h2 x hR) hne
 ·cases e<;>first | exact absurd rfl hne' | exact hQ
theorem joined{ι:Type}{s':S}{told:ι→S}{R:ι→Prop}{Q:Exit→S→Prop}(x:ι)(hR:R x)(hw:Wk P s' (told x)):(Exit.normal=.normal∧∃ x,R x∧Wk P s' (told x))∨(Exit.normal≠.normal∧Q .normal s'):=.inl ⟨rfl,x,hR,hw⟩
theorem left_ret{ι:Type}{s':S}{told:ι→S}{R:ι→Prop}{Q:Exit→S→Prop}(h:Q .ret s'):(Exit.ret=.normal∧∃ x,R x∧Wk P s' (told x))∨(Exit.ret≠.normal∧Q .ret s'):=.inr ⟨by simp,h⟩
theorem left_exit{ι:Type}{s':S}{told:ι→S}{R:ι→Prop}{Q:Exit→S→Prop}{k:Nat}(h:Q (.exit k) s'):(Exit.exit k=.normal∧∃ x,R x∧Wk P s' (told x))∨(Exit.exit k≠.normal∧Q (.exit k) s'):=.inr ⟨by simp,h⟩
def mkI(n:Nat)(t:List (Nat×SV))(m:List (Nat×MO)):S:=⟨tabT t n 0,tabM m (n+1) 0,[]⟩
theorem rTold{s:S}{cs:List Code}{Q:Exit→S→Prop}(s':S)(ks ns:List Nat)(h:s.slim ks ns=some s')(ht:Run P B s' cs Q)(hne:cs≠[]):Run P B s cs Q:=run_weaken (wk_slim h) ht hne
end Go.Sym
namespace Go.Sym
open Go.RowKit
variable {P:Program} {B:Base P} {E:Env} {w:World}
def pinArgs:List CV→Nat→List SV
 | [],_=>[]
 | x :: xs,j=>.pin j (.v x) :: pinArgs xs (j+1)
def ownS(n:Nat)(args:List CV)(m0:List (Nat×MO))(M:Nat):S:={ t:=pinArgs args 0++List.replicate (n - args.length) .junk,m:=tabM m0 M 0,g:=[] }
theorem pinArgs_length:∀ {l:List CV} {j:Nat},(pinArgs l j).length=l.length:=by
 intro l
 induction l with
 | nil=>intro j;rfl
 | cons x l ih=>intro j;simp [pinArgs,ih]
theorem pinArgs_get:∀ {l:List CV} {i k:Nat} {y:SV},(pinArgs l i)[k]?=some y→∃ x,l[k]?=some x∧y=.pin (i+k) (.v x):=by
 intro l
 induction l with
 | nil=>intro i k y h;simp [pinArgs] at h
 | cons x l ih =>
  intro i k y h
  cases k with
  | zero=>simp only [pinArgs,List.getElem?_cons_zero,Option.some.injEq] at h;exact ⟨x,rfl,h.symm⟩
  | succ k =>
   simp only [pinArgs,List.getElem?_cons_succ] at h
   obtain ⟨x',h1,h2⟩:=ih h
   exact ⟨x',by simpa using h1,by rw [h2];congr 1;omega⟩
theorem tabM_get{m0:List (Nat×MO)}:∀ {M i k:Nat},(tabM m0 M i)[k]?=if k<M then some (lookM m0 (i+k)) else none:=by
 intro M
 induction M with
 | zero=>intro i k;simp [tabM]
 | succ M ih =>
  intro i k
  cases k with
  | zero=>simp [tabM]
  | succ k =>
   simp only [tabM,List.getElem?_cons_succ]
   rw [ih,show i+1+k=i+(k+1) by omega]
   simp
theorem lookM_mem:∀ {m0:List (Nat×MO)} {n:Nat} {o:MO},lookM m0 n=some o→(n,o)∈m0:=by
 intro m0
 induction m0 with
 | nil=>intro n o h;simp [lookM] at h
 | cons x m0 ih =>
  intro n o h
  obtain ⟨k,y⟩:=x
  simp only [lookM] at h
  split at h
  ·rename_i hb
   cases h
   rw [Nat.eq_of_beq_eq_true hb];exact List.mem_cons_self
  ·exact List.mem_cons_of_mem _ (ih h)
theorem lookM_of:∀ {m0:List (Nat×MO)} {n:Nat} {o:MO},(m0.map (·.1)).Nodup→(n,o)∈m0→lookM m0 n=some o:=by
 intro m0
 induction m0 with
 | nil=>intro n o _ h;cases h
 | cons x m0 ih =>
  intro n o hnd h
  obtain ⟨k,y⟩:=x
  simp only [List.map_cons,List.nodup_cons] at hnd
  simp only [lookM]
  rcases List.mem_cons.1 h with h | h
  ·cases h
   rw [Nat.beq_refl]
  ·have hne:Nat.beq k n=false:=by
    cases hb:Nat.beq k n with
    | false=>rfl
    | true =>
     have:=Nat.eq_of_beq_eq_true hb
     exact absurd (by rw [this];exact List.mem_map_of_mem (f:=(·.1)) h) hnd.1
   rw [hne]
   exact ih hnd.2 h
theorem C.inN_noY{ns:List Nat}{c:C}(h:c.inN ns=true):c.noY=true:=by
 cases c<;>first | rfl | cases h
theorem all_inN_noY{ns:List Nat}{cs:List C}(h:cs.all (C.inN ns)=true):cs.all C.noY=true:=
 List.all_eq_true.2 fun c hc=>C.inN_noY ((List.all_eq_true.1 h) c hc)
theorem CV.inN_noY{ns:List Nat}{x:CV}(h:x.inN ns=true):x.noY=true:=by
 cases x with
 | c x=>exact C.inN_noY h
 | agg cs=>rfl
 | pagg cs=>exact all_inN_noY h
theorem MO.inN_noY{ns:List Nat}{o:MO}(h:o.inN ns=true):o.noY=true:=by
 cases o<;>first | rfl | cases h | exact all_inN_noY h
def WitP(s:S)(args:List CV)(m0:List (Nat×MO))(n:Nat)(o:MO)(k:Nat):Prop:=
 (∃ off off',s.t[k]?=some (.pin k (.v (.c (.ptr n off))))∧args[k]?=some (.c (.ptr n off'))∧o.kind=0) ∨
 (∃ e sz css e' sz' css',s.t[k]?=some (.pin k (.v (.c (.row n css.length))))∧args[k]?=some (.c (.row n css.length))∧o=.row e sz css∧(n,.row e' sz' css')∈m0∧css'.length=css.length) ∨
 (s.t[k]?=some (.pin k (.v (.c (.omap n))))∧args[k]?=some (.c (.omap n))∧o.kind=2)
theorem wit_box{s:S}{args:List CV}{m0:List (Nat×MO)}{n:Nat}{o:MO}(k off off':Nat)(h1:s.t[k]?=some (.pin k (.v (.c (.ptr n off)))))(h2:args[k]?=some (.c (.ptr n off')))(h3:o.kind=0):WitP s args m0 n o k:=.inl ⟨off,off',h1,h2,h3⟩
def EndM(s:S)(args:List CV)(m0:List (Nat×MO))(hid:List Nat):List (Nat×MO)→Prop
 | []=>True
 | (n,o) :: l=>s.m[n]?=some (some o)∧(hasN hid n=true∨∃ k,WitP s args m0 n o k)∧EndM s args m0 hid l
theorem EndM.get{s:S}{args:List CV}{m0:List (Nat×MO)}{hid:List Nat}:∀ {l:List (Nat×MO)} {n:Nat} {o:MO},EndM s args m0 hid l→(n,o)∈l→s.m[n]?=some (some o)∧(hasN hid n=true∨∃ k,WitP s args m0 n o k):=by
 intro l
 induction l with
 | nil=>intro n o _ h;cases h
 | cons x l ih =>
  intro n o h hm
  obtain ⟨n1,o1⟩:=x
  rcases List.mem_cons.1 hm with hm | hm
  ·cases hm;exact ⟨h.1,h.2.1⟩
  ·exact ih h.2.2 hm
def OwnEnds(P:Program)(rs:List ResultVar)(args:List CV)(m0:List (Nat×MO))(hid:List Nat)(r:SB)(m1:List (Nat×MO))(e:Exit)(s:S):Prop:=
 (e=.ret∨e=.normal)∧(resOf P s rs=some r∨∃ k x,rs=[.tmp k]∧s.t[k]?=some (.b (.v x))∧r=.v x)∧EndM s args m0 hid m1
theorem ownEnds{P:Program}{rs:List ResultVar}{args:List CV}{m0:List (Nat×MO)}{hid:List Nat}{r:SB}{m1:List (Nat×MO)}{e:Exit}{s:S}(he:e=.ret∨e=.normal)(h:resOf P s rs=some r)(hm:EndM s args m0 hid m1):OwnEnds P rs args m0 hid r m1 e s:=⟨he,.inl h,hm⟩
theorem ownEndsO{P:Program}{rs:List ResultVar}{args:List CV}{m0:List (Nat×MO)}{hid:List Nat}{m1:List (Nat×MO)}{e:Exit}{s:S}(k:Nat)(x:CV)(he:e=.ret∨e=.normal)(h1:rs=[.tmp k])(h2:s.t[k]?=some (.b (.v x)))(hm:EndM s args m0 hid m1):
  OwnEnds P rs args m0 hid (.v x) m1 e s:=⟨he,.inr ⟨k,x,h1,h2,rfl⟩,hm⟩
def ownBase(P:Program)(E:Env)(w:World)(vs:Array Value):Base P:=
 {r:=none,fn:=true,N:=w.heap.size,W:=fun b=>∃ n,E.holds n b,l:=0,xs:=[],k:=0,fix:=fun j=>vs.getD j undef,J:=fun _ K0 w0=>K0=E.K∧w0=w,fnN:=fun _ _ _ w' h=>by rw [h.2];exact Nat.le_refl _,
  yields:=fun _ _ _ _ _ _ _ _ _ _ _ h=>by simp at h }
theorem RelL.but{E:Env}{ds:List Nat}(hd:∀ D,D∈ds→E.K D=some (.deferred (some []))){cs:List C}{arr:Array Value}(h:RelL E cs arr):RelL { E with K:=E.K.but ds } cs arr:=by
 refine ⟨h.1,fun j hj=>⟨?_,(h.2 j hj).2⟩⟩
 have:=(h.2 j hj).1
 generalize cs.getD j .junk=c at this ⊢
 cases c<;>first | exact this | exact RelK.but hd this
theorem MapRel.but{K:Know}{ds:List Nat}(hd:∀ D,D∈ds→K D=some (.deferred (some []))){kagg agg:Bool}{ents:List (List C×List C)}{es:Array MapEntry}(h:MapRel K kagg agg ents es):MapRel (K.but ds) kagg agg ents es:=
 ⟨h.1,fun j e he=>let ⟨⟨h1,h2⟩,⟨h3,h4⟩,h5⟩:=h.2 j e he;⟨⟨h1.but hd,h2⟩,⟨h3.but hd,h4⟩,h5⟩⟩
theorem own_leave{fn:Func}{hid:List Nat}{args:List CV}{m0 m1:List (Nat×MO)}{r:SB}{vs:Array Value}{e:Exit}{E':Env}{s':S}{a':Act}{w':World}(hK:Knows E.K w)(hat:OwnAt E m0 w)(hrel:∀ j,j<args.length→RelCV E (args.getD j (.c .junk)) (vs.getD j undef)) 
  (hok:RenOk hid args m0 r m1 (fun n=>n)) (hrowk:∀ n o,hasN hid n=true→(n,o)∈m0→o.kind=1)
  (hs':Sim B E' s' a' w') (hJK:E'.c.K0=E.K) (hJw:E'.c.w0=w) (hN:w.heap.size≤B.N) (hW:∀ b,B.W b→∃ n,E.holds n b) (hfix:∀ k,k<args.length→E'.c.fix k=vs.getD k undef)
  (hend:OwnEnds P fn.results.toList args m0 hid r m1 e s') :
  LeavesInM (FB none) 0 P fn a'.tmps (fun e w'=>∃ K' rw' v,e=.returned v∧OwnOut hid E m1 w K' rw' w'∧RelSB (E.upd K' rw') r v) (E'.c.ds.map markOf) .returning w':=by
 obtain ⟨he,hres,hend⟩:=hend
 have hc:=hs'.core
 have hnd:(m0.map (·.1)).Nodup:=by have:=dupFree_nodup hok.dup;rwa [map_id_hid] at this
 have hnames:=kindsEq_names hok.kinds
 have hm1:∀ n,n∈m0.map (·.1)→∃ o o',(n,o)∈m0∧(n,o')∈m1∧o.kind=o'.kind:=fun n h=>by
  obtain ⟨⟨n1,o⟩,h1,h2⟩:=List.mem_map.1 h
  simp only at h2
  subst h2
  have h3:n1∈m1.map (·.1):=by rw [hnames];exact h
  obtain ⟨⟨n2,o'⟩,h4,h5⟩:=List.mem_map.1 h3
  simp only at h5
  subst h5
  exact ⟨o,o',h1,h4,kindsEq_get hok.kinds hnd h1 h4⟩
 have hpin:∀ k x,k<args.length→s'.t[k]?=some (.pin k (.v (.c x)))→Rel E' x (vs.getD k undef):=fun k x hka h=>by
  have:=hs'.slot k _ h
  obtain ⟨h1,h2⟩:=this
  have h3:a'.tmps.getD k undef=vs.getD k undef:=by rw [h2,hfix k hka]
  rw [← h3];exact h1.1
 have hini:∀ k x,args[k]?=some (.c x)→Rel E x (vs.getD k undef):=fun k x h=>by
  have hk:k<args.length:=(List.getElem?_eq_some_iff.1 h).1
  have:=hrel k hk
  have e:args.getD k (.c .junk)=.c x:=by simp [gE,h]
  rw [e] at this
  exact this.1
 have uniq:∀ n o oo,(n,o)∈m0→(n,oo)∈m0→oo=o:=fun n o oo h h'=>by
  have p1:=lookM_of hnd h
  have p2:=lookM_of hnd h'
  rw [p1] at p2;exact (Option.some.inj p2).symm
 have kE:∀ n o,(n,o)∈m0→(∀ b,E.cel n=some b→o.kind=0)∧(∀ x,E.rw n=some x→o.kind=1)∧(∀ b,E.mp n=some b→o.kind=2):=fun n o h=>by
  refine ⟨fun b hb=>?_,fun x hx=>?_,fun b hb=>?_⟩
  ·obtain ⟨o1,h1,h2⟩:=hat.cel n b hb;rw [← uniq n o _ h h1];exact boxy_kind h2
  ·obtain ⟨o1,h1,h2⟩:=hat.rw n x hx
   rw [← uniq n o _ h h1];exact rowy_kind h2
  ·obtain ⟨kagg,agg,ents,h1⟩:=hat.mp n b hb
   rw [← uniq n o _ h h1];rfl
 have kE':∀ n o,s'.m[n]?=some (some o)→(∀ b,E'.cel n=some b→o.kind=0)∧(∀ x,E'.rw n=some x→o.kind=1)∧(∀ b,E'.mp n=some b→o.kind=2):=fun n o h=>by
  refine ⟨fun b hb=>?_,fun x hx=>?_,fun b hb=>?_⟩
  ·obtain ⟨o1,h1,h2⟩:=hc.cel n b hb;rw [h] at h1;rw [Option.some.inj (Option.some.inj h1)];exact boxy_kind h2
  ·obtain ⟨o1,h1,h2⟩:=hc.rw n x hx
   rw [h] at h1;rw [Option.some.inj (Option.some.inj h1)];exact rowy_kind h2
  ·obtain ⟨kagg,agg,ents,h1⟩:=hc.mp n b hb
   rw [h] at h1;rw [Option.some.inj (Option.some.inj h1)];rfl
 have non:∀ {α:Type} (x y:Option α) (k k':Nat),k≠k'→(∀ b,x=some b→k=k')→(∀ b,y=some b→k=k')→x=y:=fun x y k k' hne hx hy=>by
  have h1:x=none:=by
   cases x with
   | none=>rfl
   | some b=>exact absurd (hx b rfl) hne
  have h2:y=none:=by
   cases y with
   | none=>rfl
   | some b=>exact absurd (hy b rfl) hne
  rw [h1,h2]
 have same:∀ n,n∈m0.map (·.1)→hasN hid n=false→E'.cel n=E.cel n∧E'.rw n=E.rw n∧E'.mp n=E.mp n:=fun n hn hh=>by
  obtain ⟨o,o',h1,h2,h3⟩:=hm1 n hn
  obtain ⟨h4,h5⟩:=hend.get h2
  obtain ⟨a1,a2,a3⟩:=kE n o h1
  obtain ⟨b1,b2,b3⟩:=kE' n o' h4
  rw [← h3] at b1 b2 b3
  rw [hh] at h5
  rcases h5 with h5 | ⟨k,h5⟩
  ·cases h5
  rcases h5 with ⟨off,off',g1,g2,g3⟩ | ⟨e,sz,css,e',sz',css',g1,g2,g3,g4,g5⟩ | ⟨g1,g2,g3⟩
  ·have hk:o.kind=0:=h3.trans g3
   refine ⟨?_,non _ _ o.kind 1 (by omega) b2 a2,non _ _ o.kind 2 (by omega) b3 a3⟩
   obtain ⟨b,q1,q2⟩:RelP E' n off _:=hpin k _ (List.getElem?_eq_some_iff.1 g2).1 g1
   obtain ⟨b',q3,q4⟩:RelP E n off' _:=hini k _ g2
   rw [q2] at q4
   cases q4
   rw [q1,q3]
  ·have hk:o.kind=1:=by rw [h3,g3];rfl
   refine ⟨non _ _ o.kind 0 (by omega) b1 a1,?_,non _ _ o.kind 2 (by omega) b3 a3⟩
   obtain ⟨hd,l,q1,q2,q3⟩:∃ hd len,E'.rw n=some (hd,len)∧css.length≤len∧(css.length=len→vs.getD k undef=hd):=hpin k _ (List.getElem?_eq_some_iff.1 g2).1 g1
   obtain ⟨hd0,l0,p1,p2,p3⟩:∃ hd len,E.rw n=some (hd,len)∧css.length≤len∧(css.length=len→vs.getD k undef=hd):=hini k _ g2
   rw [g3] at h4
   obtain ⟨_,_,hd1,_,r1,_⟩:=hc.row h4
   obtain ⟨_,_,hd2,_,r2,_⟩:MRel E w n (.row e' sz' css'):=hat.mem n _ g4
   rw [q1] at r1
   rw [p1] at r2
   cases r1
   cases r2
   rw [q1,p1,← q3 rfl,← p3 g5.symm,g5]
  ·have hk:o.kind=2:=h3.trans g3
   refine ⟨non _ _ o.kind 0 (by omega) b1 a1,non _ _ o.kind 1 (by omega) b2 a2,?_⟩
   obtain ⟨b,q1,q2⟩:∃ b,E'.mp n=some b∧vs.getD k undef=.map (some b):=hpin k _ (List.getElem?_eq_some_iff.1 g2).1 g1
   obtain ⟨b',q3,q4⟩:∃ b,E.mp n=some b∧vs.getD k undef=.map (some b):=hini k _ g2
   rw [q2] at q4
   cases q4
   rw [q1,q3]
 let rw':Nat→Option (Value×Nat):=fun n=>if hasN hid n then E'.rw n else E.rw n
 have hidrow:∀ n,hasN hid n=true→n∈m0.map (·.1):=fun n h=>hasN_iff.1 ((List.all_eq_true.1 hok.sub) n (hasN_iff.1 h))
 have hrw:∀ n,n∈m0.map (·.1)→rw' n=E'.rw n:=fun n hn=>by
  show (if hasN hid n then E'.rw n else E.rw n)=_
  cases hh:hasN hid n with
  | true=>rfl
  | false=>exact ((same n hn hh).2.1).symm
 have hcm:∀ n,n∈m0.map (·.1)→E'.cel n=E.cel n∧E'.mp n=E.mp n:=fun n hn=>by
  cases hh:hasN hid n with
  | false=>exact ⟨(same n hn hh).1,(same n hn hh).2.2⟩
  | true =>
   obtain ⟨o,o',h1,h2,h3⟩:=hm1 n hn
   have h4:=(hend.get h2).1
   obtain ⟨a1,a2,a3⟩:=kE n o h1
   obtain ⟨b1,b2,b3⟩:=kE' n o' h4
   rw [← h3] at b1 b3
   have hk:o.kind=1:=hrowk n o hh h1
   exact ⟨non _ _ o.kind 0 (by omega) b1 a1,non _ _ o.kind 2 (by omega) b3 a3⟩
 have own_in:∀ n b,(E.upd (E'.K.but E'.c.ds) rw').holds n b→n∈m0.map (·.1):=fun n b h=>by
  rcases h with h | h | ⟨hd,len,h,_⟩
  ·obtain ⟨o1,h1,_⟩:=hat.cel n b h;exact List.mem_map_of_mem (f:=(·.1)) h1
  ·obtain ⟨kagg,agg,ents,h1⟩:=hat.mp n b h;exact List.mem_map_of_mem (f:=(·.1)) h1
  ·change (if hasN hid n then E'.rw n else E.rw n)=_ at h
   cases hh:hasN hid n with
   | true=>exact hidrow n hh
   | false =>
    rw [hh] at h
    obtain ⟨o,h1,_⟩:=hat.rw n _ h
    exact List.mem_map_of_mem (f:=(·.1)) h1
 have out_holds:∀ n b,(E.upd (E'.K.but E'.c.ds) rw').holds n b→E'.holds n b:=fun n b h=>by
  have hn:=own_in n b h
  obtain ⟨h1,h2⟩:=hcm n hn
  have h3:=hrw n hn
  unfold Env.holds at h ⊢
  simp only [Env.upd] at h
  rw [h1,h2,← h3];exact h
 have out_rel:∀ c u,c.inN (m0.map (·.1))=true→Rel { E' with K:=E'.K.but E'.c.ds } c u→Rel (E.upd (E'.K.but E'.c.ds) rw') c u:=fun c u hcn h=>by
  cases c with
  | ptr n off =>
   obtain ⟨b,h1,h2⟩:=h
   exact ⟨b,((hcm n (hasN_iff.1 hcn)).1).symm.trans h1,h2⟩
  | row n l =>
   obtain ⟨hd,len,h1,h2⟩:=h
   exact ⟨hd,len,(hrw n (hasN_iff.1 hcn)).trans h1,h2⟩
  | rel n l sz i off =>
   obtain ⟨hd,len,h1,h2⟩:=h
   exact ⟨hd,len,(hrw n (hasN_iff.1 hcn)).trans h1,h2⟩
  | oclo bd fn caps =>
   obtain ⟨vs,hu,hs,hp⟩:=h
   refine ⟨vs,hu,hs,fun j hj=>?_⟩
   obtain ⟨b,h1,h2⟩:=hp j hj
   have hn:=hasN_iff.1 ((List.all_eq_true.1 hcn) (caps.getD j (0,0)) (by simp [gE,hj]))
   exact ⟨b,((hcm _ hn).1).symm.trans h1,h2⟩
  | omap n =>
   obtain ⟨b,h1,h2⟩:=h
   exact ⟨b,((hcm n (hasN_iff.1 hcn)).2).symm.trans h1,h2⟩
  | yld n=>cases hcn
  | _=>exact h
 have hdk:∀ D,D∈E'.c.ds→E'.K D=some (.deferred (some [])):=fun D hD=>(hc.dsk D hD).1
 refine leaves_marks E'.c.ds w' hc.dsn (fun D hD=>hc.know _ _ (hc.dsk D hD).1) (fun w2 h1 h2 h3 h4 h5=>?_)
 have hheld:∀ n b,E'.holds n b→w2.heap[b]?=w'.heap[b]?:=fun n b h=>h5 b (fun hm=>by
  have:=hc.apart n b h
  rw [(hc.dsk b hm).1] at this;cases this)
 obtain ⟨v,hrun,hv⟩:∃ v,(results fn a'.tmps).run P w2=.ok v w2∧RelSB (E.upd (E'.K.but E'.c.ds) rw') r v:=by
  rcases hres with hres | ⟨k,x,h6,h7,rfl⟩
  ·obtain ⟨v,hrun,hv⟩:=results_run hs' hheld hres
   exact ⟨v,hrun,RelSBK.rel (E:=E.upd (E'.K.but E'.c.ds) rw') (hv.but hdk)⟩
  ·refine ⟨a'.tmps.getD k undef,?_,?_⟩
   ·have h8:fn.results=#[.tmp k]:=by
     apply Array.ext'
     simpa using h6
    unfold results
    rw [h8]
    simp
   ·have h8:RelCV E' x (a'.tmps.getD k undef):=hs'.slot k _ h7
    have hin:x.inN (m0.map (·.1))=true:=hok.inr
    show RelCV _ x _
    cases x with
    | c x =>
     refine ⟨out_rel _ _ hin ?_,h8.2⟩
     have h9:=h8.1
     generalize a'.tmps.getD k undef=u at h9
     cases x<;>first | exact h9 | exact RelK.but hdk h9
    | agg cs=>obtain ⟨arr,hu,hl⟩:=h8;exact ⟨arr,hu,hl.but hdk⟩
    | pagg cs =>
     obtain ⟨arr,hu,hl⟩:=h8
     refine ⟨arr,hu,hl.1,fun j hj=>⟨out_rel _ _ ?_ ((hl.but hdk).2 j hj).1,(hl.2 j hj).2⟩⟩
     exact (List.all_eq_true.1 hin) _ (by simp [gE,hj])
 refine ⟨v,hrun,E'.K.but E'.c.ds,rw',v,rfl,?_,hv⟩
 exact
 {le:=fun b o hb=>by
   rw [Know.but_other]
   ·exact hc.base _ _ (by rw [hJK];exact hb)
   ·intro hm
    have h6:w.heap.size≤b:=(Nat.le_trans hN (hc.dsk b hm).2.1)
    have:=(Array.getElem?_eq_some_iff.1 (hK b o hb)).1
    omega
  nk:=fun b hb hn=>by
   by_cases hm:b∈E'.c.ds
   ·exact Know.but_none hm
   ·rw [Know.but_other hm]
    exact hc.nk b (by rw [hJw];exact hb) (by rw [hJK];exact hn)
  know:=fun b o hb=>by
   by_cases hm:b∈E'.c.ds
   ·rw [Know.but_none hm] at hb;cases hb
   ·rw [Know.but_other hm] at hb
    rw [h5 b hm];exact hc.know b o hb
  same:=fun n hn=>by
   show (if hasN hid n then E'.rw n else E.rw n)=_
   rw [hn];rfl
  mem:=fun n o hno=>by
   have hn:n∈m0.map (·.1):=by rw [← hnames];exact List.mem_map_of_mem (f:=(·.1)) hno
   have h7:=(hc.mem n o (hend.get hno).1).other (w':=w2) fun b hb=>hheld n b hb
   have hino:=(List.all_eq_true.1 hok.in1) _ hno
   cases o with
   | cells cs=>obtain ⟨b,arr,T,q1,q2,q3⟩:=h7;exact ⟨b,arr,T,((hcm n hn).1).symm.trans q1,q2,q3.but hdk⟩
   | pcells cs =>
    obtain ⟨b,arr,T,q1,q2,q3⟩:=h7
    refine ⟨b,arr,T,((hcm n hn).1).symm.trans q1,q2,q3.1,fun j hj=>⟨out_rel _ _ ?_ ((q3.but hdk).2 j hj).1,(q3.2 j hj).2⟩⟩
    exact (List.all_eq_true.1 hino) _ (by simp [gE,hj])
   | tcells T cs =>
    obtain ⟨b,arr,q1,q2,q0,q3⟩:=h7
    refine ⟨b,arr,((hcm n hn).1).symm.trans q1,q2,q0,q3.1,fun j hj=>⟨out_rel _ _ ?_ ((q3.but hdk).2 j hj).1,(q3.2 j hj).2⟩⟩
    exact (List.all_eq_true.1 hino) _ (by simp [gE,hj])
   | row e sz css=>obtain ⟨q1,q2,hd,xs,q3,q4,q5⟩:=h7;exact ⟨q1,q2,hd,xs,(hrw n hn).trans q3,q4,q5.but hdk⟩
   | omap kagg agg ents=>obtain ⟨b,es,q1,q2,q3⟩:=h7;exact ⟨b,es,((hcm n hn).2).symm.trans q1,q2,q3.but hdk⟩
   | gone=>obtain ⟨hd,len,q1,q2⟩:=h7;exact ⟨hd,len,(hrw n hn).trans q1,q2⟩
   | cnt i xs k=>cases hino
   | bag e sz css=>obtain ⟨css',hp,q1,q2,hd,xs,q3,q4,q5⟩:=h7;exact ⟨css',hp,q1,q2,hd,xs,(hrw n hn).trans q3,q4,q5.but hdk⟩
  inj:=fun n n' b h h'=>hc.inj n n' b (out_holds n b h) (out_holds n' b h')
  place:=fun n b h=>by
   have h7:=out_holds n b h
   refine ⟨?_,by rw [h1];exact hc.lt n b h7,?_⟩
   ·by_cases hm:b∈E'.c.ds
    ·exact Know.but_none hm
    ·rw [Know.but_other hm];exact hc.apart n b h7
   ·rcases hc.new n b h7 with h8 | h8
    ·left;rw [hJw] at h8;exact h8
    ·exact .inr (hW b h8)
  os:=h2.trans (hc.os.trans (by rw [hJw]))
  tape:=h3.trans (hc.tape.trans (by rw [hJw]))
  output:=h4.trans (hc.output.trans (by rw [hJw]))
  size:=by rw [h1];have:=hc.size;rw [hJw] at this;exact this
  old:=fun b hb hno=>by
   rw [h5 b (fun hm=>by have h6:w.heap.size≤b:=(Nat.le_trans hN (hc.dsk b hm).2.1);omega)]
   have:=hc.old b (by rw [hJw];exact hb) (fun h=>by obtain ⟨n,hn⟩:=hW b h;exact hno n hn)
   rw [this,hJw] }
def ownCst(E:Env)(w:World)(vs:Array Value):Cst:={ w0:=w,K0:=E.K,ds:=[],l:=0,i:=0,xs:=[],k:=0,fix:=fun j=>vs.getD j undef }
theorem own_start{hid:List Nat}{args:List CV}{m0 m1:List (Nat×MO)}{r:SB}{vs:Array Value}(b:Bool)(nt M:Nat)(hKl:Laid P E.K)(hK:Knows E.K w)(hat:OwnAt E m0 w)(hsz:vs.size=args.length)(hrel:∀ j,j<args.length→RelCV E (args.getD j (.c .junk)) (vs.getD j undef)) 
  (hok:RenOk hid args m0 r m1 (fun n=>n)) (hM:(m0.map (·.1)).all (fun n=>Nat.blt n M)=true) :
  Sim { ownBase P E w vs with fn:=b,fnN:=fun _ _ _ w' h=>by rw [h.2];exact Nat.le_refl _ } (E.re E.K (ownCst E w vs)) (ownS nt args m0 M) { tmps:=vs++Array.replicate (nt - vs.size) undef,defers:=[] } w:=by
 have hnd:(m0.map (·.1)).Nodup:=by have:=dupFree_nodup hok.dup;rwa [map_id_hid] at this
 have hnames:=kindsEq_names hok.kinds
 have hin0:∀ n o,(n,o)∈m0→o.noY=true:=fun n o h=>MO.inN_noY ((List.all_eq_true.1 hok.in0) _ h)
 have hlt:∀ n o,(n,o)∈m0→n<M:=fun n o h=>by
  have:=(List.all_eq_true.1 hM) n (List.mem_map_of_mem (f:=(·.1)) h)
  simpa using this
 have hget:∀ n o,(n,o)∈m0→(tabM m0 M 0)[n]?=some (some o):=fun n o h=>by
  rw [tabM_get,if_pos (hlt n o h),Nat.zero_add,lookM_of hnd h]
 refine ⟨?_,?_,rfl,fun k x hk=>?_⟩
 ·exact
  {know:=hK
   laid:=hKl
   base:=Know.le_refl _
   nk:=fun _ _ h=>h
   mem:=fun n o h=>by
    have h':(tabM m0 M 0)[n]?=some (some o):=h
    rw [tabM_get] at h'
    split at h'
    ·have h2:=Option.some.inj h'
     rw [Nat.zero_add] at h2
     have:=lookM_mem h2
     exact mrel_re (Know.le_refl _) (hin0 n o this) (hat.mem n o this)
    ·cases h'
   cel:=fun n b h=>by
    obtain ⟨o1,h1,h2⟩:=hat.cel n b h
    exact ⟨o1,hget n _ h1,h2⟩
   rw:=fun n x h=>by obtain ⟨o,h1,h2⟩:=hat.rw n x h;exact ⟨o,hget n o h1,h2⟩
   mp:=fun n b h=>by obtain ⟨kagg,agg,ents,h1⟩:=hat.mp n b h;exact ⟨kagg,agg,ents,hget n _ h1⟩
   inj:=fun n n' b h h'=>hat.inj n n' b h h'
   apart:=fun n b h=>(hat.place n b h).1
   new:=fun n b h=>.inr ⟨n,h⟩
   lt:=fun n b h=>(hat.place n b h).2
   os:=rfl
   tape:=rfl
   output:=rfl
   size:=Nat.le_refl _
   old:=fun _ _ _=>rfl
   j:=⟨rfl,rfl⟩
   y:=⟨rfl,rfl,rfl,rfl⟩
   dsk:=fun D hD=>by cases hD
   dsn:=List.nodup_nil }
 ·simp [ownS,pinArgs_length,hsz]
 ·have hk':(pinArgs args 0++List.replicate (nt - args.length) SV.junk)[k]?=some x:=hk
  by_cases hka:k<args.length
  ·rw [List.getElem?_append_left (by rw [pinArgs_length];exact hka)] at hk'
   obtain ⟨y,hy,rfl⟩:=pinArgs_get hk'
   have e:(vs++Array.replicate (nt - vs.size) undef).getD k undef=vs.getD k undef:=by
    have:k<vs.size:=by omega
    simp [Array.getElem?_append,this]
   show RelCV _ y _∧_
   rw [e,Nat.zero_add]
   have hr:=hrel k hka
   have ey:args.getD k (.c .junk)=y:=by simp [gE,hy]
   rw [ey] at hr
   exact ⟨relCV_re (Know.le_refl _) (CV.inN_noY ((List.all_eq_true.1 hok.ina) y (List.mem_of_getElem? hy))) hr,rfl⟩
  ·rw [List.getElem?_append_right (by rw [pinArgs_length];omega),List.getElem?_replicate] at hk'
   split at hk'
   ·rw [← Option.some.inj hk'];trivial
   ·cases hk'
theorem fown_of{f:FuncId}{fn:Func}{c:Code}{hid:List Nat}{args:List CV}{m0 m1:List (Nat×MO)}{r:SB}(M:Nat)(hf:P.funcs[f]?=some fn)(hb:fn.body=some c)(hname:(fn.name== "runtime.NumGoroutine")=false) 
  (hok:RenOk hid args m0 r m1 (fun n=>n)) (hrowk:∀ n o,hasN hid n=true→(n,o)∈m0→o.kind=1) (hM:(m0.map (·.1)).all (fun n=>Nat.blt n M)=true)
  (ht:∀ B:Base P,B.r=none→B.fn=true→Run P B (ownS fn.ntmps args m0 M) (flatC c []) (OwnEnds P fn.results.toList args m0 hid r m1)):FOwn P f hid args m0 r m1:=by
 refine ⟨⟨fn,hf,by rw [hb];rfl,hname⟩,fun E w vs hKl hK hat hsz hrel=>?_⟩
 have hsim:=own_start (P:=P) (vs:=vs) true fn.ntmps M hKl hK hat hsz hrel hok hM
 refine (callsIn_wide (n:=0)).1 (callsIn_of_wp_marks hf hb trivial ?_ rfl)
 refine wpIn_mono ((run_tri (run_flat (ht _ rfl rfl))) _ _ _ hsim) ?_
 rintro e a' w' ⟨E',s',hends,hs'⟩
 have he:=hends.1
 have hj:E'.c.K0=E.K∧E'.c.w0=w:=hs'.core.j
 have hfix:E'.c.fix=fun j=>vs.getD j undef:=hs'.core.y.2.2.2
 have hleave:=own_leave (fn:=fn) hK hat hrel hok hrowk hs' hj.1 hj.2 (Nat.le_refl _) (fun _ h=>h) (fun k _=>by rw [hfix]) hends
 rw [← List.append_nil (E'.c.ds.map markOf),← show a'.defers=E'.c.ds.map markOf++[] from hs'.defers] at hleave
 rcases he with rfl | rfl
 ·exact hleave
 ·exact hleave
end Go.Sym
namespace Go.Sym
open Go.RowKit
variable {P:Program}
theorem World.grownBy_refl(w:World)(r:Option Nat):w.grownBy w r:=⟨rfl,rfl,rfl,Nat.le_refl _,fun _ _ _=>rfl⟩
theorem own_row_in{E:Env}{w:World}{r e sz:Nat}{css:List (List C)}{u:Value}(hat:OwnAt E [(r,.row e sz css)] w)(hu:Rel E (.row r css.length) u):
  0<sz∧(∀ c,c∈css→c.length=sz)∧E.rw r=some (u,css.length)∧∃ xs,w.ownsRow 0 e sz u css.length xs∧RelLK E.K css.flatten xs.toArray:=by
 obtain ⟨h1,h2,hd,xs,h3,h4,h5⟩:MRel E w r (.row e sz css):=hat.mem r _ List.mem_cons_self
 obtain ⟨hd',len,g1,g2,g3⟩:=hu
 rw [h3] at g1
 cases g1
 have:=g3 rfl
 subst this
 exact ⟨h1,h2,h3,xs,h4,h5⟩
theorem own_row_out{hid:List Nat}{E:Env}{w w':World}{r e sz:Nat}{css css':List (List C)}{u u':Value}{xs':List Value}(hK:Knows E.K w)(hat:OwnAt E [(r,.row e sz css)] w)(hrw:E.rw r=some (u,css.length))(hsz:0<sz)(hl:∀ c,c∈css'→c.length=sz) 
  (hg:w.grownBy w' u.ownBlock) (hown:w'.ownsRow 0 e sz u' css'.length xs') (hrel:RelLK E.K css'.flatten xs'.toArray) (hb:u'.ownBlock=u.ownBlock) (hh:hasN hid r=true∨(u',css'.length)=(u,css.length)) :
  OwnOut hid E [(r,.row e sz css')] w E.K (fun n=>if n=r then some (u',css'.length) else E.rw n) w':=by
 have hblk:∀ b,u.ownBlock=some b→E.holds r b:=fun b h=>.inr (.inr ⟨u,_,hrw,h⟩)
 have hne:∀ b,b<w.heap.size→(∀ n,¬ E.holds n b)→w'.heap[b]?=w.heap[b]?:=fun b h1 h2=>hg.block b h1 fun e=>h2 r (hblk b e.symm)
 have hholds:∀ n b,(E.upd E.K (fun n=>if n=r then some (u',css'.length) else E.rw n)).holds n b→E.holds n b:=fun n b h=>by
  rcases h with h | h | ⟨hd,len,h,h'⟩
  ·exact .inl h
  ·exact .inr (.inl h)
  ·simp only [Env.upd] at h
   by_cases hn:n=r
   ·subst hn
    rw [if_pos rfl] at h
    cases h
    exact hblk b (by rw [← hb];exact h')
   ·rw [if_neg hn] at h
    exact .inr (.inr ⟨hd,len,h,h'⟩)
 refine
 {le:=Know.le_refl _
  nk:=fun b _ h=>h
  know:=fun b o h=>by
   have h1:=hK b o h
   rw [hne b (Array.getElem?_eq_some_iff.1 h1).1 fun n hn=>by have:=(hat.place n b hn).1;rw [h] at this;cases this]
   exact h1
  same:=fun n hn=>?_
  mem:=fun n o h=>?_
  inj:=fun n n' b h h'=>hat.inj n n' b (hholds n b h) (hholds n' b h')
  place:=fun n b h=>by
   have h1:=hholds n b h
   have h2:=hat.place n b h1
   exact ⟨h2.1,Nat.lt_of_lt_of_le h2.2 hg.size,.inr ⟨n,h1⟩⟩
  os:=hg.os
  tape:=hg.tape
  output:=hg.output
  size:=hg.size
  old:=hne }
 ·by_cases hr:n=r
  ·subst hr
   rcases hh with hh | hh
   ·rw [hn] at hh;cases hh
   ·rw [if_pos rfl,hrw,hh]
  ·rw [if_neg hr]
 ·simp only [List.mem_singleton,Prod.mk.injEq] at h
  obtain ⟨rfl,rfl⟩:=h
  exact ⟨hsz,hl,u',xs',by simp [Env.upd],hown,hrel⟩
def rowI(zs:List Int):List (List C):=zs.map fun z=>[cI z]
theorem rowI_len(zs:List Int):(rowI zs).length=zs.length:=by simp [rowI]
theorem rowI_mem{zs:List Int}:∀ c,c∈rowI zs→c.length=1:=by
 intro c hc
 simp only [rowI,List.mem_map] at hc
 obtain ⟨z,_,rfl⟩:=hc
 rfl
theorem rowI_flat(zs:List Int):(rowI zs).flatten=zs.map cI:=by
 induction zs with
 | nil=>rfl
 | cons z zs ih=>simp only [rowI,List.map_cons,List.flatten_cons] at ih ⊢;rw [ih];rfl
theorem rowI_vals{K:Know}{zs:List Int}{xs:List Value}(h:RelLK K (rowI zs).flatten xs.toArray):xs=zs.map (Value.int .i64):=by
 rw [rowI_flat] at h
 refine List.ext_getElem (by simpa using h.1) fun j h1 h2=>?_
 have hj:j<zs.length:=by simpa using h2
 have:=(h.2 j (by simpa using hj)).1
 have e1:(zs.map cI).getD j .junk=cI zs[j]:=by simp [gE,hj]
 have e2:xs.toArray.getD j undef=xs[j]:=by simp [h1]
 rw [e1,e2] at this
 generalize xs[j]=v at this
 cases this
 simp
theorem rowI_rel(K:Know)(zs:List Int):RelLK K (rowI zs).flatten (zs.map (Value.int .i64)).toArray:=by
 rw [rowI_flat]
 refine ⟨by simp,fun j hj=>?_⟩
 have hj:j<zs.length:=by simpa using hj
 have e1:(zs.map cI).getD j .junk=cI zs[j]:=by simp [gE,hj]
 have e2:(zs.map (Value.int .i64)).toArray.getD j undef=.int .i64 zs[j]:=by simp [hj]
 rw [e1,e2]
 exact ⟨RelK.int _ _,rfl⟩
def sortI(zs:List Int):List Int:=zs.mergeSort fun x y=>decide (x≤y)
theorem sortI_len(zs:List Int):(sortI zs).length=zs.length:=by simp [sortI]
theorem fown_sortI {f : FuncId} {r e : Nat} {zs : List Int} (hf : ∃ fn, P.funcs[f]? = some fn ∧ fn.body.isSome = true ∧ (fn.name == "runtime.NumGoroutine") = false) (hlen : zs.length < 4611686018427387904)
    (h : ∀ (blk off cap : Nat) (w : World), Sort.Holds (Value.int .i64) w blk off zs.toArray → blk < w.heap.size →
      Calls P f #[.slice (some ⟨blk, off, none⟩) zs.length cap] w fun e w' => e = .returned (.tuple #[]) ∧ ∃ n os, w' = Sort.grow (Sort.putRow (Value.int .i64) (Sort.ahead w n) blk off (zs.mergeSort fun x y => decide (x ≤ y)).toArray) os)
    (h0 : ∀ (p : Option Addr) (cap : Nat) (w : World), Calls P f #[.slice p 0 cap] w fun e w' => e = .returned (.tuple #[]) ∧ w' = w) :
    FOwn P f [] [.c (.row r zs.length)] [(r, .row e 1 (rowI zs))] (.tup []) [(r, .row e 1 (rowI (sortI zs)))] := by
  refine ⟨hf, fun E w vs hKl hK hat hsz hrel => ?_⟩
  have hu : Rel E (.row r zs.length) (vs.getD 0 undef) := (hrel 0 (by simp)).1
  obtain ⟨u, rfl⟩ : ∃ u, vs = #[u] := by
    have : vs.size = 1 := by simpa using hsz
    exact ⟨vs[0], by apply Array.ext <;> simp [this]; intro i hi; have : i = 0 := by omega
                     subst this; rfl⟩
  have hu : Rel E (.row r (rowI zs).length) u := by rw [rowI_len]; exact hu
  obtain ⟨hs1, hl, hrw, xs, hown, hrl⟩ := own_row_in hat hu
  have hxs := rowI_vals hrl
  subst hxs
  have tupR : ∀ (K' : Know) (rw' : Nat → Option (Value × Nat)), RelSB (E.upd K' rw') (.tup []) (.tuple #[]) := fun _ _ => ⟨#[], rfl, rfl, fun j hj => by simp at hj⟩
  have hl' : (rowI (sortI zs)).length = (rowI zs).length := by rw [rowI_len, rowI_len, sortI_len]
  rcases hown.2 with ⟨hnil, hz⟩ | ⟨g, cap, cur, hv, hb, hg, hn, hm, hs, ht⟩
  · subst hnil
    have hz0 : zs = [] := by rw [rowI_len] at hz; exact List.eq_nil_of_length_eq_zero hz
    subst hz0
    refine (h0 none 0 w).mono ?_
    rintro en w' ⟨rfl, rfl⟩
    refine ⟨E.K, _, _, rfl, own_row_out (hid := []) (css' := rowI (sortI [])) (u' := .slice none 0 0) hK hat hrw hs1 rowI_mem (World.grownBy_refl _ _) ?_ (rowI_rel _ _) rfl (.inr (by rw [hl'])), tupR _ _⟩
    have e0 : sortI [] = [] := by simp [sortI]
    rw [e0]; exact hown
  · subst hv
    have hlt : g < w.heap.size := (Array.getElem?_eq_some_iff.1 hg).1
    rw [rowI_len, Nat.mul_one] at ht
    rw [rowI_len] at hn
    have hH : Sort.Holds (Value.int .i64) w g 0 zs.toArray := holds_of_blockI hg ht
    rw [rowI_len]
    refine (h g 0 cap w hH hlt).mono ?_
    rintro en w' ⟨rfl, n, os, rfl⟩
    refine ⟨E.K, _, _, rfl, own_row_out (hid := []) (css' := rowI (sortI zs)) (u' := .slice (some ⟨g, 0, none⟩) (rowI zs).length cap) hK hat hrw hs1 rowI_mem (grownBy_sortedI _) ?_ (rowI_rel _ _) rfl (.inr (by rw [hl'])), tupR _ _⟩
    rw [hl', rowI_len]
    exact ownsRow_sortedI (ss := zs) (ts := sortI zs) (sortI_len zs) hb hg hn hm hs
theorem fown_compactI {f : FuncId} {r e : Nat} {zs : List Int} (hf : ∃ fn, P.funcs[f]? = some fn ∧ fn.body.isSome = true ∧ (fn.name == "runtime.NumGoroutine") = false) (hlen : zs.length ≤ 9223372036854775807)
    (h : ∀ (blk off cap : Nat) (w : World), Sort.Holds (Value.int .i64) w blk off zs.toArray → zs.length ≤ cap →
      Calls P f #[.slice (some ⟨blk, off, none⟩) zs.length cap] w fun e w' => e = .returned (.slice (some ⟨blk, off, none⟩) (Lib.compact zs).length cap) ∧
        ∃ q, w' = Sort.putRow (Value.int .i64) (Sort.ahead w q) blk off (Lib.compact zs ++ List.replicate (zs.length - (Lib.compact zs).length) 0).toArray)
    (h0 : ∀ (p : Option Addr) (cap : Nat) (w : World), Calls P f #[.slice p 0 cap] w fun e w' => e = .returned (.slice p 0 cap) ∧ w' = w) (hle : (Lib.compact zs).length ≤ zs.length) :
    FOwn P f [r] [.c (.row r zs.length)] [(r, .row e 1 (rowI zs))] (.v (.c (.row r (Lib.compact zs).length))) [(r, .row e 1 (rowI (Lib.compact zs)))] := by
  refine ⟨hf, fun E w vs hKl hK hat hsz hrel => ?_⟩
  have hu : Rel E (.row r zs.length) (vs.getD 0 undef) := (hrel 0 (by simp)).1
  obtain ⟨u, rfl⟩ : ∃ u, vs = #[u] := by
    have : vs.size = 1 := by simpa using hsz
    exact ⟨vs[0], by apply Array.ext <;> simp [this]; intro i hi; have : i = 0 := by omega
                     subst this; rfl⟩
  have hu : Rel E (.row r (rowI zs).length) u := by rw [rowI_len]; exact hu
  obtain ⟨hs1, hl, hrw, xs, hown, hrl⟩ := own_row_in hat hu
  have hxs := rowI_vals hrl
  subst hxs
  have hhid : hasN [r] r = true := hasN_iff.2 List.mem_cons_self
  rcases hown.2 with ⟨hnil, hz⟩ | ⟨g, cap, cur, hv, hb, hg, hn, hm, hs, ht⟩
  · subst hnil
    have hz0 : zs = [] := by rw [rowI_len] at hz; exact List.eq_nil_of_length_eq_zero hz
    subst hz0
    refine (h0 none 0 w).mono ?_
    rintro en w' ⟨rfl, rfl⟩
    refine ⟨E.K, _, _, rfl, own_row_out (hid := [r]) (css' := rowI (Lib.compact [])) (u' := .slice none 0 0) hK hat hrw hs1 rowI_mem (World.grownBy_refl _ _) ?_ (rowI_rel _ _) rfl (.inl hhid), ?_⟩
    · exact hown
    · exact ⟨⟨.slice none 0 0, (rowI (Lib.compact [])).length, if_pos rfl, by rw [rowI_len]; exact Nat.le_refl _, fun _ => rfl⟩, rfl⟩
  · subst hv
    have hlt : g < w.heap.size := (Array.getElem?_eq_some_iff.1 hg).1
    rw [rowI_len, Nat.mul_one] at ht
    rw [rowI_len] at hn
    have hH : Sort.Holds (Value.int .i64) w g 0 zs.toArray := holds_of_blockI hg ht
    rw [rowI_len]
    refine (h g 0 cap w hH hn).mono ?_
    rintro en w' ⟨rfl, q, rfl⟩
    refine ⟨E.K, _, _, rfl, own_row_out (hid := [r]) (css' := rowI (Lib.compact zs)) (u' := .slice (some ⟨g, 0, none⟩) (Lib.compact zs).length cap) hK hat hrw hs1 rowI_mem ?_ ?_ (rowI_rel _ _) rfl (.inl hhid), ?_⟩
    · have := grownBy_sortedI (w := w) (g := g) (n := q) (os := #[]) (Lib.compact zs ++ List.replicate (zs.length - (Lib.compact zs).length) 0).toArray
      rw [Sort.grow_empty] at this
      exact this
    · rw [rowI_len]
      have hown' : w.ownsRow 0 e 1 (.slice (some ⟨g, 0, none⟩) zs.length cap) zs.length (zs.map (Value.int .i64)) := by rw [← rowI_len zs]; exact hown
      have := Lib.ownsRow_putRow (q := q) (k := (Lib.compact zs).length) (ys := Lib.compact zs ++ List.replicate (zs.length - (Lib.compact zs).length) 0) hown' (by simp; omega) hle
      rwa [List.take_append_of_le_length (Nat.le_refl _), List.take_length] at this
    · exact ⟨⟨.slice (some ⟨g, 0, none⟩) (Lib.compact zs).length cap, (rowI (Lib.compact zs)).length, if_pos rfl, by rw [rowI_len]; exact Nat.le_refl _, fun _ => rfl⟩, rfl⟩
end Go.Sym
namespace Go.Sym
def srt(zs:List Int):List Int:=Lib.compact (sortI zs)
theorem arr_get{zs:List Int}{j:Nat}(h:j<zs.length):zs.toArray[j]! = zs[j]:=by simp [h]
theorem mem_upTo(d:Array Int)(x:Int):∀ m,x∈Lib.compactUpTo d m↔∃ j,j<m∧d[j]! = x:=by
 intro m
 induction m with
 | zero=>simp [Lib.compactUpTo]
 | succ m ih =>
  rw [Lib.compactUpTo_succ,List.mem_append,ih]
  constructor
  ·rintro (⟨j,h1,h2⟩ | h)
   ·exact ⟨j,by omega,h2⟩
   ·split at h
    ·simp only [List.mem_singleton] at h
     exact ⟨m,by omega,h.symm⟩
    ·cases h
  ·rintro ⟨j,h1,h2⟩
   by_cases hj:j<m
   ·exact .inl ⟨j,hj,h2⟩
   ·have:j=m:=by omega
    subst this
    by_cases hk:Lib.keeps d j=true
    ·right;rw [if_pos hk];simp [h2]
    ·left
     by_cases h0:j=0
     ·subst h0;exact absurd (Lib.keeps_lt_one d 0 (by omega)) hk
     ·by_cases he:d[j]! = d[j - 1]!
      ·exact ⟨j - 1,by omega,by rw [← he];exact h2⟩
      ·exact absurd (Lib.keeps_pos he) hk
theorem mem_compact(zs:List Int)(x:Int):x∈Lib.compact zs↔x∈zs:=by
 rw [Lib.compact,mem_upTo,List.mem_iff_getElem]
 constructor
 ·rintro ⟨j,h1,h2⟩;exact ⟨j,h1,by rw [← arr_get h1];exact h2⟩
 ·rintro ⟨j,h1,h2⟩;exact ⟨j,h1,by rw [arr_get h1];exact h2⟩
theorem wk_mkRow{P:Program}{s:S}(r e sz:Nat)(hm:s.m[r]?=some none)(hsz:0<sz):Wk P s { s with m:=s.m.set r (some (.row e sz [])) }:=by
 intro B E a w hs
 obtain ⟨E',hle,hK,hrw,hh,hc⟩:=core_nilRow (e:=e) hs.core hm hsz
 exact ⟨E',hs.le hle hc,hK,hle.c,hh⟩
end Go.Sym
namespace Go.Sym
variable {P:Program} {B:Base P} {E:Env} {w:World}
def boxOf(cs:List C):MO:=match cs.all C.isImm with
 | true=>.cells cs
 | false=>.pcells cs
theorem boxOf_rel{cs:List C}{arr:Array Value}{n b:Nat}{T:TypeId}(hb:E.cel n=some b)(hh:w.heap[b]?=some (.cells arr T (0,0)))(hr:RelL E cs arr):MRel E w n (boxOf cs)∧∃ cs',boxOf cs=.cells cs'∨boxOf cs=.pcells cs':=by
 unfold boxOf
 cases h:cs.all C.isImm with
 | true =>
  refine ⟨⟨b,arr,T,hb,hh,hr.1,fun j hj=>⟨?_,(hr.2 j hj).2⟩⟩,cs,.inl rfl⟩
  exact Rel.imm (all_getD h j hj) (hr.2 j hj).1
 | false=>exact ⟨⟨b,arr,T,hb,hh,hr⟩,cs,.inr rfl⟩
def frzC(s:S)(n i r:Nat)(c:C)(ks ns:List Nat):Option S:=
 match s.m[n]? with
 | some (some (.pcells cs))=>match ({ s with m:=s.m.set n (some (.pcells (cs.set i .junk))) }:S).slim ks (ns++[r]) with
  | some s1=>match s1.m[n]? with
   | some (some (.pcells cs'))=>match Nat.beq cs'.length cs.length with
    | true=>some { s1 with m:=s1.m.set n (some (boxOf (cs'.set i c))) }
    | false=>none
   | _=>none
  | none=>none
 | _=>none
theorem setCell_core{m:List (Option MO)}{n i:Nat}{cs:List C}{c:C}(hc:Core B E m w)(hn:m[n]?=some (some (.pcells cs)))(hx:∀ b arr T,E.cel n=some b→w.heap[b]?=some (.cells arr T (0,0))→i<cs.length→Rel E c (arr.getD i undef)):
  Core B E (m.set n (some (boxOf (cs.set i c)))) w:=by
 obtain ⟨b,arr,T,hb,hheap,hrel⟩:=hc.pcells hn
 obtain ⟨hrn,hmn⟩:=hc.noRow hb
 have hr2:RelL E (cs.set i c) arr:=by
  refine ⟨by rw [List.length_set];exact hrel.1,fun j hj=>?_⟩
  rw [List.length_set] at hj
  obtain ⟨g1,g2⟩:=hrel.2 j hj
  refine ⟨?_,g2⟩
  by_cases hij:i=j
  ·subst hij
   have e2:(cs.set i c).getD i .junk=c:=by simp [gE,hj]
   rw [e2]
   exact hx b arr T hb hheap hj
  ·have e2:(cs.set i c).getD j .junk=cs.getD j .junk:=by simp [gE,hij]
   rw [e2];exact g1
 obtain ⟨h1,cs',h2⟩:=boxOf_rel (w:=w) hb hheap hr2
 refine hc.step ⟨_,hn⟩ (Env.Le.refl E) rfl (fun _ _=>⟨rfl,rfl,rfl⟩) (fun b h=>?_) (fun x h=>?_) (fun b h=>?_) h1 (fun b' h=>⟨.inr h,hc.lt n b' h⟩) (Nat.le_refl _) rfl rfl rfl (fun _ _ _=>rfl)
 ·rcases h2 with h2 | h2<;>(rw [h2];rfl)
 ·rw [hrn] at h;cases h
 ·rw [hmn] at h;cases h
theorem run_frzCell{s s':S}{cs:List Code}{Q:Exit→S→Prop}(hB:B.Fn)(n i r k e sz:Nat)(bs:List C)(css:List (List C))(f:Nat→List C)(ks ns:List Nat)(hn:s.m[n]?=some (some (.pcells bs)))(hi:bs[i]?=some (.row r k))(hm:s.m[r]?=some (some (.row e sz css))) 
  (hk:k=css.length) (hf:∀ i,i<k→f i=css.getD i []) (hz:frzC s n i r (.lst sz k f) ks ns=some s') (h:Run P B s' cs Q) (hne:cs≠[]):Run P B s cs Q:=by
 cases cs with
 | nil=>exact absurd rfl hne
 | cons c cs =>
 intro E a w hs
 unfold frzC at hz
 rw [hn] at hz
 simp only at hz
 split at hz
 case h_2=>cases hz
 rename_i s1 hs1
 split at hz
 case h_2=>cases hz
 rename_i cs' hn1
 split at hz
 case h_2=>cases hz
 rename_i hlen
 cases hz
 have hlen:=Nat.eq_of_beq_eq_true hlen
 have hil:i<bs.length:=(List.getElem?_eq_some_iff.1 hi).1
 obtain ⟨bb,barr,bT,hbb,hbh,hbr⟩:=hs.core.pcells hn
 have hkc:=(hbr.2 i hil).1
 have ei:bs.getD i .junk=.row r k:=by simp [gE,hi]
 rw [ei] at hkc
 obtain ⟨hd,len,hrw,hle,hu⟩:∃ hd len,E.rw r=some (hd,len)∧k≤len∧(k=len→barr.getD i undef=hd):=hkc
 have hlen2:=row_len hs.core hm hrw
 subst hlen2
 replace hu:=hu hk
 have hc0:Core B E (s.m.set n (some (boxOf (bs.set i .junk)))) w:=setCell_core hs.core hn (fun _ _ _ _ _ _=>RelK.junk _)
 have hc0':Core B E (s.m.set n (some (.pcells (bs.set i .junk)))) w:=by
  obtain ⟨hrn,hmn⟩:=hs.core.noRow hbb
  refine hs.core.step ⟨_,hn⟩ (Env.Le.refl E) rfl (fun _ _=>⟨rfl,rfl,rfl⟩) (fun b h=>rfl) (fun x h=>?_) (fun b h=>?_) ?_ (fun b' h=>⟨.inr h,hs.core.lt n b' h⟩) (Nat.le_refl _) rfl rfl rfl (fun _ _ _=>rfl)
  ·rw [hrn] at h;cases h
  ·rw [hmn] at h;cases h
  ·refine ⟨bb,barr,bT,hbb,hbh,by rw [List.length_set];exact hbr.1,fun j hj=>?_⟩
   rw [List.length_set] at hj
   obtain ⟨g1,g2⟩:=hbr.2 j hj
   refine ⟨?_,g2⟩
   by_cases hij:i=j
   ·subst hij
    have e2:(bs.set i C.junk).getD i .junk=C.junk:=by simp [gE,hj]
    rw [e2];exact RelK.junk _
   ·have e2:(bs.set i C.junk).getD j .junk=bs.getD j .junk:=by simp [gE,hij]
    rw [e2];exact g1
 have hs0:Sim B E { s with m:=s.m.set n (some (.pcells (bs.set i .junk))) } a w:=hs.le (Env.Le.refl E) hc0'
 obtain ⟨E1,hs1',hK1,hc1,hh1⟩:=wk_slim hs1 _ _ _ _ hs0
 obtain ⟨hszp,hlens,hd',xs,hrw',hown,hrel⟩:=hs.core.row hm
 rw [hrw] at hrw'
 cases hrw'
 have hgone:∀ g,hd.ownBlock=some g→∀ j,¬ E1.holds j g:=by
  intro g hg j hj
  have hj':=hh1 j g hj
  have hjr:j=r:=hs.core.inj j r g hj' (.inr (.inr ⟨hd,_,hrw,hg⟩))
  subst hjr
  have hnj:n≠j:=fun e=>by rw [e,hm] at hn;cases hn
  have hmn:s1.m[j]?=some none:=slim_none hs1 (by simp only [List.length_set];exact (List.getElem?_eq_some_iff.1 hm).1)
  obtain ⟨h1,h2,h3⟩:=hs1'.core.nothing hmn
  rcases hj with h | h | ⟨_,_,h,_⟩
  ·rw [h1] at h;cases h
  ·rw [h3] at h;cases h
  ·rw [h2] at h;cases h
 have hbox:∀ {E':Env},Core B E' s1.m w→(∀ j g,E'.holds j g→E1.holds j g)→∀ b arr T,E'.cel n=some b→w.heap[b]?=some (.cells arr T (0,0))→arr=barr:=by
  intro E' hc' hh b arr T hb hh2
  have h1:E.holds n b:=hh1 n b (hh n b (.inl hb))
  obtain ⟨q1,q2⟩:=hs.core.noRow hbb
  have:b=bb:=holds_cel q1 q2 hbb h1
  subst this
  rw [hbh] at hh2
  cases hh2;rfl
 rcases hown.2 with ⟨h0,h1⟩ | ⟨g,cap,cur,hv,hb,hg,hnc,hcm,hcs,htake⟩
 ·have hz:k=0:=by omega
  subst hz
  have hc2:=setCell_core (i:=i) (c:=.lst sz 0 f) hs1'.core hn1 (fun b arr T hb hh2 _=>by
   rw [hbox hs1'.core (fun _ _ h=>h) b arr T hb hh2,hu,h0];exact RelK.lst0 sz f)
  exact h E1 a w (hs1'.le (Env.Le.refl E1) hc2)
 ·obtain ⟨arr,hg2,hsz2,hcap2,hcl2,hcm2,hrel2⟩:=row_cells (hs.core.row hm) hrw hv
  have hgn:E1.c.w0.heap.size≤g:=by
   rw [hc1]
   rcases hs.core.new r g (.inr (.inr ⟨hd,_,hrw,by rw [hv];rfl⟩)) with h | h
   ·exact h
   ·exact absurd h (hB.W g)
  have hcell1:E1.cel n=some bb:=by
   obtain ⟨b,arr2,T2,hb2,_,_⟩:=hs1'.core.pcells hn1
   obtain ⟨q1,q2⟩:=hs.core.noRow hbb
   rw [hb2,holds_cel q1 q2 hbb (hh1 n b (.inl hb2))]
  obtain ⟨E2,hle2,hKg,hc2⟩:=hs1'.core.learn (hgone g (by rw [hv];rfl)) hg2 hgn
  have hl:RelK E2.K (.lst sz k f) hd:=by
   rw [hv]
   rw [← hk]
   refine relK_lst_of hKg (fun i hi=>?_) (by rw [hk];exact hsz2) (by omega) (by omega) (fun i j hi hj=>?_)
   ·rw [hf i hi]
    refine hlens _ ?_
    have hi':i<css.length:=by omega
    simp only [gE,List.getElem?_eq_getElem hi',Option.getD_some]
    exact List.getElem_mem hi'
   ·rw [hf i hi]
    obtain ⟨g1,g2⟩:=hrel2 i j (by omega) hj
    have hKK:E.K.le E2.K:=by rw [← hK1];exact hle2.K
    exact ⟨g1.mono hKK,g2⟩
  have hc3:=setCell_core (i:=i) (c:=.lst sz k f) hc2 hn1 (fun b arr T hb hh2 _=>by
   have e1:=hle2.cel n bb hcell1
   rw [e1] at hb
   cases hb
   rw [hbh] at hh2
   cases hh2
   rw [hu];exact hl)
  exact h E2 a w (hs1'.le hle2 hc3)
theorem frzCell{s:S}{cs:List Code}{Q:Exit→S→Prop}(hB:B.Fn)(n i r k e sz:Nat)(bs:List C)(css:List (List C))(f:Nat→List C)(ks ns:List Nat)(hn:s.m[n]?=some (some (.pcells bs)))(hi:bs[i]?=some (.row r k))(hm:s.m[r]?=some (some (.row e sz css))) 
  (hk:k=css.length) (hf:∀ i,i<k→f i=css.getD i []) (hz:(frzC s n i r (.lst sz k f) ks ns).isSome=true) (h:Run P B (getS (frzC s n i r (.lst sz k f) ks ns)) cs Q) (hne:cs≠[]):Run P B s cs Q:=
 run_frzCell hB n i r k e sz bs css f ks ns hn hi hm hk hf (getS_eq hz) h hne
end Go.Sym
namespace Go.Sym
variable {P:Program} {B:Base P}
theorem stepR_scope{b:Frame}{a:Act}{k:List Item}{cs:List Frame}{w:World}{c:Code}:step P (lone (b.atR a (.code (.scope c) :: k)) cs w)=.next (lone (b.atR a (.code c :: .inScope c :: k)) cs w):=
 step_lone_go (by simp [stepG,stepG.exec,Frame.atR])
theorem stepR_inScope{b:Frame}{a:Act}{k:List Item}{cs:List Frame}{w:World}{c:Code}:step P (lone (b.atR a (.inScope c :: k)) cs w)=.next (lone (b.atR a k) cs w):=
 step_lone_go (by simp [stepG,stepG.exec,Frame.atR])
theorem wpIn_scope{F:Fence}{n:Nat}{Q:Exit→Act→World→Prop}{a:Act}{w:World}{c:Code}(h:c.wpIn F n P (Exit.noGoto Q) a w):(Code.scope c).wpIn F n P Q a w:=by
 intro b k cs hro hb hr
 have h0:(lone (b.atR a (.code (.scope c) :: k)) cs w).fenced P F:=fenced_calm hb hr rfl
 obtain ⟨e,a₁,w₁,hq,harr⟩:=h b (.inScope c :: k) cs hro hb hr
 cases e with
 | normal=>exact ⟨.normal,a₁,w₁,hq,.head h0 stepR_scope (StepsIn.trans harr (.one (fenced_calm hb hr rfl) stepR_inScope))⟩
 | exit id =>
  have hx:exitTo id (.inScope c :: k)=exitTo id k:=by simp [exitTo]
  exact ⟨.exit id,a₁,w₁,hq,fun k' hk=>.head h0 stepR_scope (harr.1 k' (by rw [hx];exact hk)),
   fun hr' hk=>let ⟨k₁,h1,h2⟩:=harr.2 hr' (by rw [hx];exact hk);⟨k₁,h1,.head h0 stepR_scope h2⟩⟩
 | goto l=>exact hq.elim
 | ret=>exact ⟨_,a₁,w₁,hq,.of_steps (.one h0 stepR_scope) harr⟩
 | panic ch=>exact ⟨_,a₁,w₁,hq,.of_steps (.one h0 stepR_scope) harr⟩
 | outgrown=>exact ⟨_,a₁,w₁,hq,.of_steps (.one h0 stepR_scope) harr⟩
@[reducible] def noGo(Q:Exit→S→Prop):Exit→S→Prop
 | .goto _,_=>False
 | e,s=>Q e s
theorem rScope{s:S}{c:Code}{cs:List Code}{Q:Exit→S→Prop}(h:Run P B s (flatC c []) (noGo (thenQ (fun s'=>Run P B s' cs Q) Q))):Run P B s (.scope c :: cs) Q:=by
 have h2:Tri P B s (.scope c) (thenQ (fun s'=>Run P B s' cs Q) Q):=by
  intro E a w hs
  refine wpIn_scope (wpIn_mono ((run_tri (run_flat h)) E a w hs) ?_)
  rintro e a' w' ⟨E',s',h1,h2⟩
  cases e<;>first
   | exact ⟨E',s',h1,h2⟩
   | exact h1.elim
 exact h2
end Go.Sym
