/-
  THE SYMBOLIC LAYER, PART S: '==' at types of flat cells; shorter words for the scripts.
-/
import Derived.Test.YtaaplpbjjnechaaSymR
import Derived.Laws.StructEq
import Derived.ChangeKeysEq
namespace Go.Sym
open Go.RowKit
set_option linter.unusedVariables false
set_option linter.unusedSimpArgs false

section
variable {P : Program}

def flatFields (g : TypeId → Option (List Flat)) (sz : TypeId → Nat) : Nat → List Field → Option (List Flat)
  | _, [] => some []
  | off, f :: fs => if f.name ≠ "_" ∧ f.offset = off then (match g f.type with
    | some l => if sz f.type = l.length then (flatFields g sz (off + l.length) fs).map (l ++ ·) else none
    | none => none)
    else none
def repL {α : Type} (l : List α) : Nat → List α
  | 0 => []
  | n + 1 => l ++ repL l n
/-- The flat cells of a type. -/
def flatTy (P : Program) : Nat → TypeId → Option (List Flat)
  | 0, _ => none
  | d + 1, t => match P.underlying t with
    | some .bool => some [.bool]
    | some (.int k) => some [.int k]
    | some .string => some [.str]
    | some (.struct fs) => if P.stoodInHeld t = false then flatFields (flatTy P d) P.cellsOf 0 fs.toList else none
    | some (.array n e) => match flatTy P d e with
      | some l => if P.cellsOf e = l.length then some (repL l n) else none
      | none => none
    | _ => none

def MatchF (fs : List Flat) (us : List Value) : Prop := us.length = fs.length ∧ ∀ (j : Nat) (f : Flat) (u : Value), fs[j]? = some f → us[j]? = some u → Flat.val f u
def wrapV (P : Program) (t : TypeId) (us : List Value) : Value := if isAggT P t then .agg us.toArray else us.getD 0 undef

theorem MatchF.left {a b : List Flat} {us : List Value} (h : MatchF (a ++ b) us) : MatchF a (us.take a.length) := by
  obtain ⟨h1, h2⟩ := h
  rw [List.length_append] at h1
  refine ⟨by rw [List.length_take]; omega, fun j f u hf hu => ?_⟩
  have hj := (List.getElem?_eq_some_iff.1 hf).1
  rw [List.getElem?_take, if_pos hj] at hu
  exact h2 j f u (by rw [List.getElem?_append_left hj]; exact hf) hu
theorem MatchF.right {a b : List Flat} {us : List Value} (h : MatchF (a ++ b) us) : MatchF b (us.drop a.length) := by
  obtain ⟨h1, h2⟩ := h
  rw [List.length_append] at h1
  refine ⟨by rw [List.length_drop]; omega, fun j f u hf hu => ?_⟩
  rw [List.getElem?_drop] at hu
  exact h2 (a.length + j) f u (by rw [List.getElem?_append_right (by omega), Nat.add_sub_cancel_left]; exact hf) hu

def eq1 : Value → Value → Bool
  | .int _ a, .int _ b => a == b
  | .bool a, .bool b => a == b
  | .string a, .string b => a.toList == b.toList
  | _, _ => false
theorem eqVals_cons (x y : Value) (us vs : List Value) : eqVals (x :: us) (y :: vs) = (eq1 x y && eqVals us vs) := by
  cases x <;> cases y <;> simp [eqVals, eq1]
theorem eqVals_append : ∀ {a c b d : List Value}, a.length = c.length → eqVals (a ++ b) (c ++ d) = (eqVals a c && eqVals b d) := by
  intro a
  induction a with
  | nil => intro c b d h; cases c with
    | nil => simp [eqVals]
    | cons => simp at h
  | cons x a ih => intro c b d h; cases c with
    | nil => simp at h
    | cons y c =>
      rw [List.cons_append, List.cons_append, eqVals_cons, eqVals_cons, ih (by simpa using h), Bool.and_assoc]
theorem eqVals_split {us vs : List Value} (n : Nat) (hl : us.length = vs.length) : eqVals us vs = (eqVals (us.take n) (vs.take n) && eqVals (us.drop n) (vs.drop n)) := by
  have h := @eqVals_append (us.take n) (vs.take n) (us.drop n) (vs.drop n) (by simp [hl])
  rwa [List.take_append_drop, List.take_append_drop] at h

theorem flatTy_info {d : Nat} {e : TypeId} {l : List Flat} (h : flatTy P d e = some l) : ∃ i, P.info? e = some i := by
  cases d with
  | zero => simp [flatTy] at h
  | succ d =>
    unfold flatTy at h
    cases hu : P.underlying e with
    | none => simp [hu] at h
    | some k => exact info_of_underlying hu

theorem run_part_flat (w : World) {d : Nat} {e : TypeId} {l : List Flat} {xs : Array Value} {off : Nat} (he : flatTy P d e = some l) (hsz : P.cellsOf e = l.length) (hm : MatchF l ((xs.toList.drop off).take l.length)) :
    (Go.part e xs off).run P w = .ok (wrapV P e ((xs.toList.drop off).take l.length)) w := by
  obtain ⟨i, hi⟩ := flatTy_info he
  cases d with
  | zero => simp [flatTy] at he
  | succ d =>
    unfold flatTy at he
    have one : ∀ x, l = [x] → xs[off]? = some (((xs.toList.drop off).take l.length).getD 0 undef) := by
      intro x hx
      subst hx
      have := hm.1
      have h0 : off < xs.size := by simp at this; omega
      simp [h0, List.getD_eq_getElem?_getD]
    have aggs : isAggT P e = true → (∃ fs, P.underlying e = some (.struct fs)) ∨ (∃ n t, P.underlying e = some (.array n t)) → (Go.part e xs off).run P w = .ok (wrapV P e ((xs.toList.drop off).take l.length)) w := by
      intro ha hk
      have hex : xs.extract off (off + l.length) = ((xs.toList.drop off).take l.length).toArray := by
        apply Array.ext'
        simp [List.extract]
      rcases hk with ⟨fs, hu⟩ | ⟨n, t, hu⟩ <;> simp [Go.part, isAgg, run_underlying hu, Go.run_sizeOf w hi, wrapV, ha, hsz, hex]
    split at he
    · rename_i hu
      cases he
      have h0 := one _ rfl
      simp only [wrapV, isAggT, hu, Bool.false_eq_true, if_false]
      revert h0
      generalize (List.take _ (List.drop off xs.toList)).getD 0 undef = v
      intro h0
      simp [Go.part, isAgg, run_underlying hu, h0]
    · rename_i hu
      cases he
      have h0 := one _ rfl
      simp only [wrapV, isAggT, hu, Bool.false_eq_true, if_false]
      revert h0
      generalize (List.take _ (List.drop off xs.toList)).getD 0 undef = v
      intro h0
      simp [Go.part, isAgg, run_underlying hu, h0]
    · rename_i hu
      cases he
      have h0 := one _ rfl
      simp only [wrapV, isAggT, hu, Bool.false_eq_true, if_false]
      revert h0
      generalize (List.take _ (List.drop off xs.toList)).getD 0 undef = v
      intro h0
      simp [Go.part, isAgg, run_underlying hu, h0]
    · rename_i fs hu
      exact aggs (by simp [isAggT, hu]) (.inl ⟨fs, hu⟩)
    · rename_i n t hu
      exact aggs (by simp [isAggT, hu]) (.inr ⟨n, t, hu⟩)
    · cases he

def EqFl (P : Program) (d : Nat) (t : TypeId) (l : List Flat) : Prop :=
  ∀ (w : World) (us vs : List Value), MatchF l us → MatchF l vs → (Op.equalIn d t (wrapV P t us) (wrapV P t vs)).run P w = .ok (eqVals us vs) w

theorem run_eqFields_flat {d0 d : Nat} (ih : ∀ t l, flatTy P d0 t = some l → EqFl P d t l) (w : World) (xs ys : Array Value) : ∀ (fs : List Field) (off : Nat) (l : List Flat), flatFields (flatTy P d0) P.cellsOf off fs = some l →
    MatchF l (xs.toList.drop off) → MatchF l (ys.toList.drop off) → (Op.eqFields d xs ys fs).run P w = .ok (eqVals (xs.toList.drop off) (ys.toList.drop off)) w := by
  intro fs
  induction fs with
  | nil =>
    intro off l h h1 h2
    simp only [flatFields, Option.some.injEq] at h
    subst h
    have e1 := List.eq_nil_of_length_eq_zero h1.1
    have e2 := List.eq_nil_of_length_eq_zero h2.1
    rw [e1, e2]
    simp [Op.eqFields, eqVals]
  | cons f fs ihf =>
    intro off l h h1 h2
    simp only [flatFields] at h
    split at h
    case isFalse => cases h
    rename_i hn
    split at h
    case h_2 => cases h
    rename_i lf hlf
    split at h
    case isFalse => cases h
    rename_i hsz
    simp only [Option.map_eq_some_iff] at h
    obtain ⟨lr, hlr, rfl⟩ := h
    have hxl := h1.left
    have hyl := h2.left
    have hxr := h1.right
    have hyr := h2.right
    rw [List.drop_drop] at hxr hyr
    have hrec := ihf (off + lf.length) lr hlr hxr hyr
    have p1 := run_part_flat (P := P) w (xs := xs) (off := off) hlf hsz hxl
    have p2 := run_part_flat (P := P) w (xs := ys) (off := off) hlf hsz hyl
    have p3 := ih _ _ hlf w _ _ hxl hyl
    have hl : (xs.toList.drop off).length = (ys.toList.drop off).length := h1.1.trans h2.1.symm
    rw [eqVals_split lf.length hl, List.drop_drop, List.drop_drop]
    simp only [Op.eqFields, hn.1, ne_eq, not_false_eq_true, if_true, Sem.run_bind, hn.2, p1, p2, p3, Result.andThen_ok]
    cases eqVals ((xs.toList.drop off).take lf.length) ((ys.toList.drop off).take lf.length)
    · simp
    · simpa using hrec

theorem run_eqItems_flat {d0 d : Nat} {e : TypeId} {l : List Flat} (hl : flatTy P d0 e = some l) (hsz : P.cellsOf e = l.length) (ih : EqFl P d e l) (w : World) (xs ys : Array Value) : ∀ (n i : Nat),
    MatchF (repL l n) (xs.toList.drop (i * l.length)) → MatchF (repL l n) (ys.toList.drop (i * l.length)) → (Op.eqItems d e (P.cellsOf e) xs ys (List.range' i n)).run P w = .ok (eqVals (xs.toList.drop (i * l.length)) (ys.toList.drop (i * l.length))) w := by
  intro n
  induction n with
  | zero =>
    intro i h1 h2
    have e1 := List.eq_nil_of_length_eq_zero h1.1
    have e2 := List.eq_nil_of_length_eq_zero h2.1
    rw [e1, e2]
    simp [Op.eqItems, eqVals]
  | succ n ihn =>
    intro i h1 h2
    simp only [repL] at h1 h2
    have hxl := h1.left
    have hyl := h2.left
    have hxr := h1.right
    have hyr := h2.right
    have e : i * l.length + l.length = (i + 1) * l.length := by rw [Nat.add_mul, Nat.one_mul]
    rw [List.drop_drop, e] at hxr hyr
    have hrec := ihn (i + 1) hxr hyr
    have p1 := run_part_flat (P := P) w (xs := xs) (off := i * l.length) hl hsz hxl
    have p2 := run_part_flat (P := P) w (xs := ys) (off := i * l.length) hl hsz hyl
    have p3 := ih w _ _ hxl hyl
    have hll : (xs.toList.drop (i * l.length)).length = (ys.toList.drop (i * l.length)).length := h1.1.trans h2.1.symm
    rw [eqVals_split l.length hll, List.drop_drop, List.drop_drop, e]
    simp only [List.range'_succ, Op.eqItems, Sem.run_bind, hsz, p1, p2, p3, Result.andThen_ok]
    rw [hsz] at hrec
    cases eqVals ((xs.toList.drop (i * l.length)).take l.length) ((ys.toList.drop (i * l.length)).take l.length)
    · simp
    · simpa using hrec

theorem eqFl_of (k : Nat) : ∀ (d : Nat) (t : TypeId) (l : List Flat), flatTy P d t = some l → EqFl P (k + d) t l
  | 0, t, l, h => by simp [flatTy] at h
  | d + 1, t, l, h => by
    intro w us vs h1 h2
    unfold flatTy at h
    have one : ∀ f, l = [f] → ∃ u v, us = [u] ∧ vs = [v] ∧ Flat.val f u ∧ Flat.val f v := by
      intro f hf
      subst hf
      match us, h1.1, vs, h2.1 with
      | [u], _, [v], _ => exact ⟨u, v, rfl, rfl, h1.2 0 f u rfl rfl, h2.2 0 f v rfl rfl⟩
    split at h
    · rename_i hu
      obtain ⟨u, v, rfl, rfl, ⟨a, rfl⟩, ⟨b, rfl⟩⟩ := one _ (Option.some.inj h).symm
      rw [show k + (d + 1) = (k + d) + 1 from rfl]
      simpa [wrapV, isAggT, hu, eqVals] using run_equalIn_bool' (P := P) w (k + d) t a b hu
    · rename_i q hu
      obtain ⟨u, v, rfl, rfl, ⟨a, rfl⟩, ⟨b, rfl⟩⟩ := one _ (Option.some.inj h).symm
      rw [show k + (d + 1) = (k + d) + 1 from rfl]
      simpa [wrapV, isAggT, hu, eqVals] using run_equalIn_int (P := P) w (k + d) t q q a b hu
    · rename_i hu
      obtain ⟨u, v, rfl, rfl, ⟨a, rfl⟩, ⟨b, rfl⟩⟩ := one _ (Option.some.inj h).symm
      rw [show k + (d + 1) = (k + d) + 1 from rfl]
      simpa [wrapV, isAggT, hu, eqVals] using run_equalIn_string (P := P) w (k + d) t a b hu
    · rename_i fs hu
      split at h
      case isFalse => cases h
      rename_i hp
      have hfs : P.fieldsOf t = fs := by simp [Program.fieldsOf, hu]
      have hag : isAggT P t = true := by simp [isAggT, hu]
      simp only [wrapV, hag, if_true]
      rw [show k + (d + 1) = (k + d) + 1 from rfl, run_equalIn_struct w (k + d) t _ _ (by rw [hfs]; exact hu) hp, hfs]
      have := run_eqFields_flat (P := P) (fun t l h => eqFl_of k d t l h) w us.toArray vs.toArray fs.toList 0 l h (by simpa using h1) (by simpa using h2)
      simpa using this
    · rename_i n e hu
      split at h
      case h_2 => cases h
      rename_i le hle
      split at h
      case isFalse => cases h
      rename_i hsz
      cases h
      obtain ⟨i, hi⟩ := flatTy_info hle
      have hag : isAggT P t = true := by simp [isAggT, hu]
      simp only [wrapV, hag, if_true]
      rw [show k + (d + 1) = (k + d) + 1 from rfl, run_equalIn_array w (k + d) _ _ hu hi, List.range_eq_range']
      have := run_eqItems_flat (P := P) hle hsz (eqFl_of k d e le hle) w us.toArray vs.toArray n 0 (by simpa using h1) (by simpa using h2)
      simpa using this
    · cases h

/-- '==' at a type of flat cells. -/
theorem eqTy_of (d : Nat) {t : TypeId} {fs : List Flat} (h : flatTy P d t = some fs) (hd : d ≤ 10000) (ha : isAggT P t = true) (hg : P.eqGuardType P.depth t = false) : EqTy P t fs := by
  intro w us vs x y hu hv h1 h2
  refine ⟨run_eqGuard_agg w .eql t x y _ _ hg, run_eqGuard_agg w .neq t x y _ _ hg, ?_⟩
  have := eqFl_of (P := P) (10000 - d) d t fs h w us vs ⟨hu, h1⟩ ⟨hv, h2⟩
  rw [show 10000 - d + d = 10000 by omega] at this
  simpa [wrapV, ha, Op.equal, Op.maxDepth] using this
end

variable {P : Program} {B : Base P}

/-- A proposition with its proof. -/
structure Pf where
  p : Prop
  h : p
abbrev pf {p : Prop} (h : p) : Pf := ⟨p, h⟩
/-- A function's contract. -/
structure Con (P : Program) where
  f : FuncId
  args : List CV
  r : SB
  h : FCall P f args r
abbrev con {f : FuncId} {args : List CV} {r : SB} (h : FCall P f args r) : Con P := ⟨f, args, r, h⟩
abbrev hcon {f : FuncId} {args : List CV} {r : SB} (_ : FCall P f args r) : Hint := .call r

theorem asked_pf {x : Option (S × List Ask)} (l : List Pf) (e : (asks x).map Ask.p = l.map Pf.p) : Asked x := by
  refine asks_of _ e ?_
  clear e
  induction l with
  | nil => trivial
  | cons y l ih => rw [List.map_cons, allP_cons]; exact ⟨y.h, ih⟩

theorem asked_if {x : Option (S × List Ask)} (l : List Pf) (e : (asks x).map Ask.whole = l.map Pf.p) : Asked x := by
  refine asks_if _ e ?_
  clear e
  induction l with
  | nil => trivial
  | cons y l ih => rw [List.map_cons, allP_cons]; exact ⟨y.h, ih⟩
/-- A region with hints; what it asks if the guards hold. -/
theorem regI {s : S} {id : Nat} {ops : Array Oper} {draw : Bool} {cs : List Code} {Q : Exit → S → Prop} (hmix : P.follows .mixedOrders = true) (hs : List (Nat × Hint)) (l : List Pf) (e : (asks (evalRegion P ops draw hs s)).map Ask.whole = l.map Pf.p)
    (h : Run P B (nextS (evalRegion P ops draw hs s)) cs Q) (hn : elderAny hs = false := by rfl) : Run P B s (.region id ops draw :: cs) Q := run_reg hs hmix (asked_if l e) h hn

/-- A region with hints; what it asks, with the proofs. -/
theorem reg {s : S} {id : Nat} {ops : Array Oper} {draw : Bool} {cs : List Code} {Q : Exit → S → Prop} (hmix : P.follows .mixedOrders = true) (hs : List (Nat × Hint)) (l : List Pf) (e : (asks (evalRegion P ops draw hs s)).map Ask.p = l.map Pf.p)
    (h : Run P B (nextS (evalRegion P ops draw hs s)) cs Q) (hn : elderAny hs = false := by rfl) : Run P B s (.region id ops draw :: cs) Q := run_reg hs hmix (asked_pf l e) h hn
/-- ... in a function's own activation. -/
theorem regF {s : S} {id : Nat} {ops : Array Oper} {draw : Bool} {cs : List Code} {Q : Exit → S → Prop} (hB : B.Fn) (hmix : P.follows .mixedOrders = true) (hs : List (Nat × Hint)) (l : List Pf) (e : (asks (evalRegion P ops draw hs s)).map Ask.p = l.map Pf.p)
    (h : Run P B (nextS (evalRegion P ops draw hs s)) cs Q) : Run P B s (.region id ops draw :: cs) Q := run_regF hB hs hmix (asked_pf l e) h
/-- A region that asks nothing. -/
theorem reg0 {s : S} {id : Nat} {ops : Array Oper} {draw : Bool} {cs : List Code} {Q : Exit → S → Prop} (hmix : P.follows .mixedOrders = true) (e : asks (evalRegion P ops draw [] s) = [])
    (h : Run P B (nextS (evalRegion P ops draw [] s)) cs Q) : Run P B s (.region id ops draw :: cs) Q := run_reg [] hmix (asks_nil e) h

def conHints (l : List (Nat × Con P)) : List (Nat × Hint) := l.map fun x => (x.1, .call x.2.r)
def conAsks (l : List (Nat × Con P)) : List Prop := l.map fun x => FCall P x.2.f x.2.args x.2.r
theorem conHints_elder (l : List (Nat × Con P)) : elderAny (conHints l) = false := by
  induction l with
  | nil => rfl
  | cons x l ih => simp only [conHints, List.map_cons, elderAny, List.any_cons, Hint.elder, Bool.false_or]; exact ih
theorem conAsks_all (l : List (Nat × Con P)) : allP (conAsks l) := by
  induction l with
  | nil => trivial
  | cons x l ih => simp only [conAsks, List.map_cons, allP_cons]; exact ⟨x.2.h, ih⟩
/-- A region that asks for contracts alone. -/
theorem regC {s : S} {id : Nat} {ops : Array Oper} {draw : Bool} {cs : List Code} {Q : Exit → S → Prop} (hmix : P.follows .mixedOrders = true) (l : List (Nat × Con P)) (e : (asks (evalRegion P ops draw (conHints l) s)).map Ask.p = conAsks l)
    (h : Run P B (nextS (evalRegion P ops draw (conHints l) s)) cs Q) : Run P B s (.region id ops draw :: cs) Q := run_reg (conHints l) hmix (asks_of _ e (conAsks_all l)) h (conHints_elder l)

/-- Ways that meet again: behind the next code the state is one of those that are told. -/
theorem rJoin {ι : Type} {s : S} {c : Code} {cs : List Code} {Q : Exit → S → Prop} (told : ι → S) (R : ι → Prop) (hne : cs ≠ [])
    (h1 : Run P B s (flatC c []) (fun e s' => (e = .normal ∧ ∃ x, R x ∧ Wk P s' (told x)) ∨ (e ≠ .normal ∧ Q e s'))) (h2 : ∀ x, R x → Run P B (told x) cs Q) : Run P B s (c :: cs) Q := by
  refine tri_mono (run_tri (run_flat h1)) fun e s' hq => ?_
  have hq' : (e = .normal ∧ ∃ x, R x ∧ Wk P s' (told x)) ∨ (e ≠ .normal ∧ Q e s') := by cases e <;> exact hq
  rcases hq' with ⟨rfl, x, hR, hw⟩ | ⟨hne', hQ⟩
  · exact run_weaken hw (h2 x hR) hne
  · cases e <;> first | exact absurd rfl hne' | exact hQ

theorem joined {ι : Type} {s' : S} {told : ι → S} {R : ι → Prop} {Q : Exit → S → Prop} (x : ι) (hR : R x) (hw : Wk P s' (told x)) : (Exit.normal = .normal ∧ ∃ x, R x ∧ Wk P s' (told x)) ∨ (Exit.normal ≠ .normal ∧ Q .normal s') := .inl ⟨rfl, x, hR, hw⟩
theorem left_ret {ι : Type} {s' : S} {told : ι → S} {R : ι → Prop} {Q : Exit → S → Prop} (h : Q .ret s') : (Exit.ret = .normal ∧ ∃ x, R x ∧ Wk P s' (told x)) ∨ (Exit.ret ≠ .normal ∧ Q .ret s') := .inr ⟨by simp, h⟩
theorem left_exit {ι : Type} {s' : S} {told : ι → S} {R : ι → Prop} {Q : Exit → S → Prop} {k : Nat} (h : Q (.exit k) s') : (Exit.exit k = .normal ∧ ∃ x, R x ∧ Wk P s' (told x)) ∨ (Exit.exit k ≠ .normal ∧ Q (.exit k) s') := .inr ⟨by simp, h⟩

/-! ### The first of a list -/
theorem find_hit {α : Type} {p : α → Bool} {d : α} : ∀ {l : List α} {i : Nat}, i < l.length → i ≤ l.findIdx p → p (l.getD i d) = true → i = l.findIdx p ∧ l.find? p = some (l.getD i d) := by
  intro l
  induction l with
  | nil => intro i h; simp at h
  | cons x l ih =>
    intro i hi hle hp
    cases hx : p x with
    | true =>
      have h0 : (x :: l).findIdx p = 0 := by simp [List.findIdx_cons, hx]
      have : i = 0 := by omega
      subst this
      exact ⟨h0.symm, by simp [List.find?_cons, hx]⟩
    | false =>
      have h0 : (x :: l).findIdx p = l.findIdx p + 1 := by simp [List.findIdx_cons, hx]
      cases i with
      | zero => simp [hx] at hp
      | succ i =>
        have := ih (i := i) (by simpa using hi) (by omega) (by simpa using hp)
        refine ⟨by omega, ?_⟩
        rw [List.find?_cons, hx]
        simpa using this.2
theorem find_miss {α : Type} {p : α → Bool} {d : α} : ∀ {l : List α} {i : Nat}, i < l.length → i ≤ l.findIdx p → p (l.getD i d) = false → i < l.findIdx p := by
  intro l
  induction l with
  | nil => intro i h; simp at h
  | cons x l ih =>
    intro i hi hle hp
    cases hx : p x with
    | true =>
      have h0 : (x :: l).findIdx p = 0 := by simp [List.findIdx_cons, hx]
      have : i = 0 := by omega
      subst this
      simp [hx] at hp
    | false =>
      have h0 : (x :: l).findIdx p = l.findIdx p + 1 := by simp [List.findIdx_cons, hx]
      cases i with
      | zero => omega
      | succ i =>
        have := ih (i := i) (by simpa using hi) (by omega) (by simpa using hp)
        omega
theorem find_none {α : Type} {p : α → Bool} : ∀ {l : List α}, l.findIdx p = l.length → l.find? p = none := by
  intro l
  induction l with
  | nil => intro _; rfl
  | cons x l ih =>
    intro h
    cases hx : p x with
    | true =>
      have h0 : (x :: l).findIdx p = 0 := by simp [List.findIdx_cons, hx]
      simp [h0] at h
    | false =>
      have h0 : (x :: l).findIdx p = l.findIdx p + 1 := by simp [List.findIdx_cons, hx]
      rw [List.find?_cons, hx]
      exact ih (by simp at h; omega)
theorem findIdx_le {α : Type} {p : α → Bool} : ∀ (l : List α), l.findIdx p ≤ l.length := by
  intro l
  induction l with
  | nil => exact Nat.le_refl _
  | cons x l ih => rw [List.findIdx_cons]; cases p x <;> simp; exact ih
theorem any_find {α : Type} (p : α → Bool) : ∀ (l : List α), l.any p = (l.find? p).isSome := by
  intro l
  induction l with
  | nil => rfl
  | cons x l ih => rw [List.any_cons, List.find?_cons, ih]; cases p x <;> rfl

/-- A state of a function that is ranged over. -/
def mkI (n : Nat) (t : List (Nat × SV)) (m : List (Nat × MO)) : S := ⟨tabT t n 0, tabM m (n + 1) 0, []⟩

/-- The state is told anew. -/
theorem rTold {s : S} {cs : List Code} {Q : Exit → S → Prop} (s' : S) (ks ns : List Nat) (h : s.slim ks ns = some s') (ht : Run P B s' cs Q) (hne : cs ≠ []) : Run P B s cs Q := run_weaken (wk_slim h) ht hne

end Go.Sym
