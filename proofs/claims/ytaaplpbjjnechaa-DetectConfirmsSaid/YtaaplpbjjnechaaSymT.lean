/-
  THE SYMBOLIC LAYER, PART T: what a law is called with, abstractly; a law's row out of its contract.
-/
import Derived.Test.YtaaplpbjjnechaaSymS
import Derived.Carry
import Derived.ChangeArms
import Derived.ChangeOld
import Derived.OpenShut
import Derived.ChangeSame
import Derived.ChangeShapes
import Derived.DataReads
import Derived.Handed
import Derived.Deep.Slices
namespace Go.Sym
open Go.RowKit Go.ChangeShapes Go.WideShapes
set_option linter.unusedVariables false
set_option linter.unusedSimpArgs false

/-- The shape of a plain type's cells. -/
inductive Sh where
  | bool
  | int (k : IntKind)
  | str
  | sl (sz : Nat) (s : Sh)
  | nil
  | cat (a b : Sh)

def Sh.len : Sh → Nat
  | .bool => 1
  | .int _ => 1
  | .str => 1
  | .sl _ _ => 1
  | .nil => 0
  | .cat a b => a.len + b.len

/-- Cells of a shape. -/
def Sh.ok : Sh → List C → Prop
  | .bool, cs => ∃ b, cs = [.bool b]
  | .int k, cs => ∃ n, cs = [.int k n] ∧ k.min ≤ n ∧ n ≤ k.max
  | .str, cs => ∃ s : ByteArray, cs = [.str s] ∧ s.size ≤ maxLen
  | .sl sz s, cs => ∃ n f, cs = [.lst sz n f] ∧ n ≤ maxLen ∧ ∀ i, i < n → s.ok (f i)
  | .nil, cs => cs = []
  | .cat a b, cs => ∃ x y, cs = x ++ y ∧ a.ok x ∧ b.ok y

def shFields (g : TypeId → Option Sh) (sz : TypeId → Nat) : Nat → List Field → Option Sh
  | _, [] => some .nil
  | off, f :: fs => match Nat.beq f.offset off, g f.type with
    | true, some s => match Nat.beq s.len (sz f.type), shFields g sz (off + s.len) fs with
      | true, some r => some (.cat s r)
      | _, _ => none
    | _, _ => none
def repSh (s : Sh) : Nat → Sh
  | 0 => .nil
  | n + 1 => .cat s (repSh s n)

/-- The shape of a type, if it is plain. -/
def shT (P : Program) : Nat → TypeId → Option Sh
  | 0, _ => none
  | d + 1, t => match P.underlying t with
    | some .bool => some .bool
    | some (.int k) => some (.int k)
    | some .string => some .str
    | some (.slice e) => match shT P d e with
      | some s => match Nat.blt 0 (P.cellsOf e) && Nat.beq s.len (P.cellsOf e) with
        | true => some (.sl (P.cellsOf e) s)
        | false => none
      | none => none
    | some (.struct fs) => match shFields (shT P d) P.cellsOf 0 fs.toList with
      | some s => match Nat.beq s.len (P.cellsOf t) with
        | true => some s
        | false => none
      | none => none
    | some (.array n e) => match shT P d e with
      | some s => match Nat.beq s.len (P.cellsOf e) && Nat.beq (n * s.len) (P.cellsOf t) with
        | true => some (repSh s n)
        | false => none
      | none => none
    | _ => none

/-- Cells against values, in a list. -/
def RL (K : Know) (cs : List C) (us : List Value) : Prop := us.length = cs.length ∧ ∀ j, j < cs.length → RelK K (cs.getD j .junk) (us.getD j undef) ∧ (us.getD j undef).oneCell' = true
theorem RL.nil {K : Know} : RL K [] [] := ⟨rfl, fun j hj => by simp at hj⟩
theorem RL.one {K : Know} {c : C} {u : Value} (h : RelK K c u) (h1 : u.oneCell' = true) : RL K [c] [u] := ⟨rfl, fun j hj => by
  have : j = 0 := by simpa using hj
  subst this
  exact ⟨h, h1⟩⟩
theorem RL.append {K : Know} {a b : List C} {u v : List Value} (h : RL K a u) (h' : RL K b v) : RL K (a ++ b) (u ++ v) := by
  refine ⟨by simp [h.1, h'.1], fun j hj => ?_⟩
  simp only [List.getD_eq_getElem?_getD]
  by_cases hja : j < a.length
  · rw [List.getElem?_append_left hja, List.getElem?_append_left (by rw [h.1]; exact hja)]
    simpa [List.getD_eq_getElem?_getD] using h.2 j hja
  · have hl := h.1
    rw [List.getElem?_append_right (by omega), List.getElem?_append_right (by omega), hl]
    rw [List.length_append] at hj
    simpa [List.getD_eq_getElem?_getD] using h'.2 (j - a.length) (by omega)

section
variable {H : Type} {enc : TypeId × Value → H} {P : Program} {W : World} {held : Bool}

/-- All that is there is known. -/
def allK (W : World) : Know := fun b => W.heap[b]?

def Opens (enc : TypeId × Value → H) (P : Program) (W : World) (held : Bool) (n : Nat) (t : TypeId) (s : Sh) : Prop :=
  ∀ (m : Nat) (us : List Value) (x : DataW H × List MemPlace), DataW.trod enc P W 0 (fun _ => true) held m t us = some x → ∃ cs, s.ok cs ∧ cs.length = s.len ∧ RL (allK W) cs us

theorem opens_fields {d : Nat} (ih : ∀ t s, shT P d t = some s → Opens enc P W held d t s) (us : List Value) (m : Nat) : ∀ (fs : List Field) (off : Nat) (s : Sh) (xs : List (DataW H × List MemPlace)), shFields (shT P d) P.cellsOf off fs = some s →
    xs.length = fs.length → (∀ (i : Nat) (f : Field), fs[i]? = some f → DataW.trod enc P W 0 (fun _ => true) held m f.type ((us.drop f.offset).take (P.cellsOf f.type)) = xs[i]?) → off + s.len = us.length →
    ∃ cs, s.ok cs ∧ cs.length = s.len ∧ RL (allK W) cs (us.drop off) := by
  intro fs
  induction fs with
  | nil =>
    intro off s xs h _ _ hl
    simp only [shFields, Option.some.injEq] at h
    subst h
    simp only [Sh.len] at hl
    refine ⟨[], rfl, rfl, ?_⟩
    rw [List.drop_eq_nil_of_le (by omega)]
    exact RL.nil
  | cons f fs ihf =>
    intro off s xs h hx hf hl
    simp only [shFields] at h
    split at h
    case h_2 => cases h
    rename_i sf hoff hsf
    have ho := Nat.eq_of_beq_eq_true hoff
    split at h
    case h_2 => cases h
    rename_i r hlen hr
    cases h
    have hsl := Nat.eq_of_beq_eq_true hlen
    cases xs with
    | nil => simp at hx
    | cons x xs =>
      simp only [Sh.len] at hl
      obtain ⟨c1, k1, k2, k3⟩ := ih _ _ hsf _ _ _ (hf 0 f rfl)
      obtain ⟨c2, l1, l2, l3⟩ := ihf (off + sf.len) r xs hr (by simpa using hx) (fun i g hg => hf (i + 1) g hg) (by omega)
      refine ⟨c1 ++ c2, ⟨c1, c2, rfl, k1, l1⟩, by simp [k2, l2, Sh.len], ?_⟩
      have := k3.append l3
      rw [ho, ← hsl] at this
      rwa [← List.drop_drop, List.take_append_drop] at this

theorem opens_items {d : Nat} {e : TypeId} {s : Sh} (ih : Opens enc P W held d e s) (hs : s.len = P.cellsOf e) (us : List Value) (m : Nat) : ∀ (n i : Nat) (xs : List (DataW H × List MemPlace)), i + n = xs.length →
    (∀ j, j < i + n → DataW.trod enc P W 0 (fun _ => true) held m e ((us.drop (j * P.cellsOf e)).take (P.cellsOf e)) = xs[j]?) → us.length = (i + n) * s.len →
    ∃ cs, (repSh s n).ok cs ∧ cs.length = (repSh s n).len ∧ RL (allK W) cs (us.drop (i * s.len)) := by
  intro n
  induction n with
  | zero =>
    intro i xs _ _ hl
    refine ⟨[], rfl, rfl, ?_⟩
    rw [List.drop_eq_nil_of_le (by rw [hl]; simp)]
    exact RL.nil
  | succ n ihn =>
    intro i xs hx hf hl
    have hlt : i < xs.length := by omega
    have h0 := hf i (by omega)
    rw [List.getElem?_eq_getElem hlt] at h0
    obtain ⟨c1, k1, k2, k3⟩ := ih _ _ _ h0
    obtain ⟨c2, l1, l2, l3⟩ := ihn (i + 1) xs (by omega) (fun j hj => hf j (by omega)) (by rw [hl]; congr 1; omega)
    refine ⟨c1 ++ c2, ⟨c1, c2, rfl, k1, l1⟩, by simp [k2, l2, repSh, Sh.len], ?_⟩
    have := k3.append l3
    rw [← hs, show (i + 1) * s.len = i * s.len + s.len by rw [Nat.add_mul, Nat.one_mul]] at this
    rwa [← List.drop_drop, List.take_append_drop] at this

theorem wf_range {k : IntKind} {n : Int} (h : (Lit.int k n).wf = true) : k.min ≤ n ∧ n ≤ k.max := by
  simpa [Lit.wf] using h

theorem opens_slice {d : Nat} {t e : TypeId} {s : Sh} (ht : P.underlying t = some (.slice e)) (ih : Opens enc P W held d e s) (h0 : 0 < P.cellsOf e) (hs : s.len = P.cellsOf e) : Opens enc P W held (d + 1) t (.sl (P.cellsOf e) s) := by
  intro m us x h
  rcases DataW.trod_slice ht h with ⟨rfl, rfl⟩ | ⟨a, len, cap, elems, rest, n, _, rfl, rfl, hb, hl, hm, hlen, hel, hsp, _⟩
  · exact ⟨[.lst (P.cellsOf e) 0 fun _ => []], ⟨0, _, rfl, Nat.zero_le _, fun i hi => by omega⟩, rfl, RL.one (.lst0 _ _) rfl⟩
  · have each : ∀ i, i < len → ∃ c us', s.ok c ∧ RL (allK W) c us' ∧ us'.length = P.cellsOf e ∧ ∀ j, j < P.cellsOf e → W.cell? (a.add (i * P.cellsOf e + j)) = us'[j]? := by
      intro i hi
      have h1 := hel i hi
      rw [List.getElem?_eq_getElem (by omega)] at h1
      simp only [Option.bind_eq_some_iff] at h1
      obtain ⟨us', hc, hy⟩ := h1
      obtain ⟨c, k1, k2, k3⟩ := ih _ _ _ hy
      obtain ⟨_, q1, q2⟩ := World.cells?_some hc
      refine ⟨c, us', k1, k3, q1, fun j hj => ?_⟩
      rw [← Go.Deep.add_add]; exact q2 j hj
    by_cases hcap : cap = 0
    · subst hcap
      have : len = 0 := by omega
      subst this
      exact ⟨[.lst (P.cellsOf e) 0 fun _ => []], ⟨0, _, rfl, Nat.zero_le _, fun i hi => by omega⟩, rfl, RL.one (.lst1 _ _ a) rfl⟩
    · -- the first cell is there
      have hfirst : ∃ v, W.cell? a = some v := by
        by_cases hl0 : len = 0
        · obtain ⟨hr1, hr2⟩ := hsp rfl
          have h1 := hr2 0 (by omega)
          rw [List.getElem?_eq_getElem (by omega)] at h1
          simp only [Option.bind_eq_some_iff] at h1
          obtain ⟨us', hc, _⟩ := h1
          obtain ⟨_, q1, q2⟩ := World.cells?_some hc
          have := q2 0 h0
          rw [List.getElem?_eq_getElem (by omega)] at this
          simp only [hl0, Nat.zero_add, Nat.zero_mul] at this
          exact ⟨_, by simpa [Addr.add] using this⟩
        · obtain ⟨c, us', _, _, q1, q2⟩ := each 0 (by omega)
          have := q2 0 h0
          rw [List.getElem?_eq_getElem (by omega)] at this
          exact ⟨_, by simpa [Addr.add] using this⟩
      obtain ⟨v0, hv0⟩ := hfirst
      obtain ⟨b, off, spot⟩ := a
      have hblk : spot = none ∧ ∃ arr T fz, W.heap[b]? = some (.cells arr T fz) := by
        unfold World.cell? at hv0
        split at hv0
        · rename_i c T fz hbk
          split at hv0
          · cases hv0
          · rename_i hsp
            refine ⟨?_, c, T, fz, hbk⟩
            cases spot with
            | none => rfl
            | some _ => simp at hsp
        · cases hv0
      obtain ⟨rfl, arr, T, fz, hbk⟩ := hblk
      have cellAt : ∀ k, W.cell? ((⟨b, off, none⟩ : Addr).add k) = arr[off + k]? := fun k => by
        rw [Addr.add_lit, cell_of_row W b (off + k) arr T fz hbk]
      classical
      let f : Nat → List C := fun i => if h : i < len then Classical.choose (each i h) else []
      have hf : ∀ i (h : i < len), ∃ us', s.ok (f i) ∧ RL (allK W) (f i) us' ∧ us'.length = P.cellsOf e ∧ ∀ j, j < P.cellsOf e → arr[off + (i * P.cellsOf e + j)]? = us'[j]? := fun i h => by
        have := Classical.choose_spec (each i h)
        simp only [f, dif_pos h]
        obtain ⟨us', g1, g2, g3, g4⟩ := this
        exact ⟨us', g1, g2, g3, fun j hj => by rw [← cellAt]; exact g4 j hj⟩
      have hval : ∀ i j, i < len → j < P.cellsOf e → arr[off + i * P.cellsOf e + j]? = some (arr.getD (off + i * P.cellsOf e + j) undef) ∧ RelK (allK W) ((f i).getD j .junk) (arr.getD (off + i * P.cellsOf e + j) undef) ∧ (arr.getD (off + i * P.cellsOf e + j) undef).oneCell' = true := by
        intro i j hi hj
        obtain ⟨us', g1, g2, g3, g4⟩ := hf i hi
        have h1 := g4 j hj
        rw [List.getElem?_eq_getElem (by omega), ← Nat.add_assoc] at h1
        have h2 : arr.getD (off + i * P.cellsOf e + j) undef = us'[j] := by simp [h1]
        rw [h2]
        refine ⟨h1, ?_⟩
        have := g2.2 j (by rw [← g2.1]; omega)
        simpa [List.getD_eq_getElem?_getD, show j < us'.length by omega] using this
      refine ⟨[.lst (P.cellsOf e) len f], ⟨len, f, rfl, by omega, fun i hi => (hf i hi).choose_spec.1⟩, rfl, RL.one (.lst _ len f b off cap arr T fz (fun i j => arr.getD (off + i * P.cellsOf e + j) undef) hbk (fun i j hi hj => (hval i j hi hj).1) (fun i hi => ?_) (fun i j hi hj => (hval i j hi hj).2.1) (fun i j hi hj => (hval i j hi hj).2.2) hl) rfl⟩
      obtain ⟨us', g1, g2, g3, _⟩ := hf i hi
      rw [← g2.1]; exact g3

theorem opens_of : ∀ (d : Nat) (t : TypeId) (s : Sh), shT P d t = some s → Opens enc P W held d t s
  | 0, t, s, h => by simp [shT] at h
  | d + 1, t, s, h => by
    unfold shT at h
    split at h
    · rename_i hu
      cases h
      intro m us x hx
      obtain ⟨b, rfl, _⟩ := DataW.trod_bool hu hx
      exact ⟨[.bool b], ⟨b, rfl⟩, rfl, RL.one (.bool b) rfl⟩
    · rename_i k hu
      cases h
      intro m us x hx
      obtain ⟨n, rfl, _, hw⟩ := DataW.trod_int hu hx
      exact ⟨[.int k n], ⟨n, rfl, wf_range hw⟩, rfl, RL.one (.int k n) rfl⟩
    · rename_i hu
      cases h
      intro m us x hx
      obtain ⟨st, rfl, _, hw⟩ := DataW.trod_string hu hx
      exact ⟨[.str st], ⟨st, rfl, hw⟩, rfl, RL.one (.str st) rfl⟩
    · rename_i e hu
      split at h
      case h_2 => cases h
      rename_i s' hs'
      split at h
      case h_2 => cases h
      rename_i hck
      cases h
      simp only [Bool.and_eq_true, Nat.blt_eq] at hck
      exact opens_slice hu (opens_of d e s' hs') hck.1 (Nat.eq_of_beq_eq_true hck.2)
    · rename_i fs hu
      split at h
      case h_2 => cases h
      rename_i s' hs'
      split at h
      case h_2 => cases h
      rename_i hck
      cases h
      intro m us x hx
      obtain ⟨xs, n, _, _, hcl, hxl, hf⟩ := DataW.trod_struct hu hx
      have := opens_fields (fun t s h => opens_of d t s h) us n fs.toList 0 s xs hs' (by simpa using hxl) (fun i f hi => hf i f (by simpa using hi)) (by rw [hcl, ← Nat.eq_of_beq_eq_true hck]; omega)
      simpa using this
    · rename_i n e hu
      split at h
      case h_2 => cases h
      rename_i s' hs'
      split at h
      case h_2 => cases h
      rename_i hck
      cases h
      simp only [Bool.and_eq_true] at hck
      intro m us x hx
      obtain ⟨xs, m', _, _, hcl, hxl, hf⟩ := DataW.trod_array hu hx
      have := opens_items (opens_of d e s' hs') (Nat.eq_of_beq_eq_true hck.1) us m' n 0 xs (by omega) (fun j hj => hf j (by omega)) (by rw [hcl, ← Nat.eq_of_beq_eq_true hck.2]; simp)
      simpa using this
    · cases h

/-- A value of a type, out of its cells. -/
def cvT (P : Program) (t : TypeId) (cs : List C) : CV := if isAggT P t then .agg cs else .c (cs.getD 0 .junk)

theorem arg_open {d : Nat} {t : TypeId} {s : Sh} {base : Nat} {v : Value} {x : DataW H} {p : List MemPlace} (hs : shT P d t = some s) (hok : Value.okWide P W .any base t v) (h : DataW.Trod enc P W 0 (fun _ => true) held t v x p) :
    ∃ cs, s.ok cs ∧ RelCVK (allK W) (cvT P t cs) v := by
  obtain ⟨m, h⟩ := h
  obtain ⟨cs, h1, h2, h3⟩ := opens_of d t s hs _ _ _ h
  refine ⟨cs, h1, ?_⟩
  unfold cvT
  cases hag : isAggT P t with
  | true =>
    have hv : ∃ us, v = .agg us := by
      unfold isAggT at hag
      unfold Value.okWide at hok
      split at hag
      · rename_i fs hu
        rw [hu] at hok
        obtain ⟨us, rfl, _⟩ := hok
        exact ⟨us, rfl⟩
      · rename_i n e hu
        rw [hu] at hok
        obtain ⟨us, rfl, _⟩ := hok
        exact ⟨us, rfl⟩
      · cases hag
    obtain ⟨us, rfl⟩ := hv
    simp only [if_true]
    refine ⟨us, rfl, by simpa [Value.cells] using h3.1, fun j hj => ?_⟩
    have := h3.2 j hj
    simpa [Value.cells, List.getD_eq_getElem?_getD] using this
  | false =>
    simp only [Bool.false_eq_true, if_false]
    have hv : v.cells = #[v] := by
      cases d with
      | zero => simp [shT] at hs
      | succ d =>
        unfold shT at hs
        unfold isAggT at hag
        unfold Value.okWide Cell.okWide Cell.ok at hok
        cases v <;> first | rfl | skip
        all_goals
          exfalso
          cases hu : P.underlying t with
          | none => simp [hu] at hs
          | some dsc => cases dsc <;> simp [hu] at hag hs hok
    have hl := h3.1
    rw [hv] at hl h3
    have h0 : 0 < cs.length := by rw [← hl]; simp
    exact h3.2 0 h0
end

/-! ### What says less -/

theorem RelK.lst_congr {K : Know} {sz n : Nat} {f g : Nat → List C} {u : Value} (h : RelK K (.lst sz n f) u) (hfg : ∀ i, i < n → f i = g i) : RelK K (.lst sz n g) u := by
  cases h with
  | lst0 => exact .lst0 _ _
  | lst1 => exact .lst1 _ _ _
  | lst _ _ _ b off cap arr T fz v hK hg hl hr ho hcap =>
    exact .lst sz n g b off cap arr T fz v hK hg (fun i hi => by rw [← hfg i hi]; exact hl i hi) (fun i j hi hj => by rw [← hfg i hi]; exact hr i j hi hj) ho hcap

def CVle (x y : CV) : Prop := ∀ K v, RelCVK K x v → RelCVK K y v
theorem CVle.refl (x : CV) : CVle x x := fun _ _ h => h
theorem CVle.lst {sz n : Nat} {f g : Nat → List C} (hfg : ∀ i, i < n → f i = g i) : CVle (.c (.lst sz n f)) (.c (.lst sz n g)) := fun K v h => ⟨RelK.lst_congr h.1 hfg, h.2⟩
def CVles : List CV → List CV → Prop
  | [], [] => True
  | x :: xs, y :: ys => CVle x y ∧ CVles xs ys
  | _, _ => False
theorem CVles.spec : ∀ {xs ys : List CV}, CVles xs ys → xs.length = ys.length ∧ ∀ j, j < ys.length → CVle (xs.getD j (.c .junk)) (ys.getD j (.c .junk)) := by
  intro xs
  induction xs with
  | nil => intro ys h; cases ys with
    | nil => exact ⟨rfl, fun j hj => by simp at hj⟩
    | cons => exact h.elim
  | cons x xs ih => intro ys h; cases ys with
    | nil => exact h.elim
    | cons y ys =>
      obtain ⟨h1, h2⟩ := ih h.2
      refine ⟨by simp [h1], fun j hj => ?_⟩
      cases j with
      | zero => exact h.1
      | succ j => simpa [List.getD_eq_getElem?_getD] using h2 j (by simpa using hj)
theorem FCall.of_le {P : Program} {f : FuncId} {args args' : List CV} {r : SB} (h : FCall P f args r) (hle : CVles args' args) : FCall P f args' r := by
  obtain ⟨h1, h2⟩ := hle.spec
  exact ⟨h.1, fun K w vs hK hs hr => h.2 K w vs hK (by rw [hs, h1]) (fun j hj => h2 j hj K _ (hr j (by rw [h1]; exact hj)))⟩

/-- A list's elements, one by one. -/
theorem lst_of {α : Type} {sz : Nat} {s : Sh} {z : α} {enc : α → List C} {el : List α → Nat → List C} (hel : ∀ l i, el l i = enc (l.getD i z)) (h1 : ∀ cs, s.ok cs → ∃ x, cs = enc x) {cs : List C} (h : (Sh.sl sz s).ok cs) :
    ∃ (l : List α) (f : Nat → List C), cs = [.lst sz l.length f] ∧ l.length ≤ maxLen ∧ ∀ i, i < l.length → f i = el l i := by
  obtain ⟨n, f, rfl, hn, hf⟩ := h
  classical
  refine ⟨(List.range n).map fun i => if h : i < n then (h1 _ (hf i h)).choose else z, f, by simp, by simpa using hn, fun i hi => ?_⟩
  simp only [List.length_map, List.length_range] at hi
  have h2 := (h1 _ (hf i hi)).choose_spec
  simp only [hel, List.getD_eq_getElem?_getD, List.getElem?_map, List.getElem?_range hi, Option.map_some, Option.getD_some, dif_pos hi]
  exact h2

/-! ### A law -/

def argsOk : List Sh → List (List C) → Prop
  | [], [] => True
  | s :: ss, c :: cs => s.ok c ∧ argsOk ss cs
  | _, _ => False
theorem argsOk_cons {s : Sh} {ss : List Sh} {css : List (List C)} (h : argsOk (s :: ss) css) : ∃ c cs, css = c :: cs ∧ s.ok c ∧ argsOk ss cs := by
  cases css with
  | nil => exact h.elim
  | cons c cs => exact ⟨c, cs, rfl, h.1, h.2⟩
theorem argsOk_nil {css : List (List C)} (h : argsOk [] css) : css = [] := by
  cases css with
  | nil => rfl
  | cons c cs => exact h.elim
def argCVs (P : Program) : List TypeId → List (List C) → List CV
  | t :: ts, c :: cs => cvT P t c :: argCVs P ts cs
  | _, _ => []
def shAll (P : Program) : List TypeId → Option (List Sh)
  | [] => some []
  | t :: ts => match shT P 12 t, shAll P ts with
    | some s, some ss => some (s :: ss)
    | _, _ => none

section
variable {H : Type} {enc : TypeId × Value → H} {P : Program} {W : World}

theorem args_open {base : Nat} : ∀ {ts : List TypeId} {vs : List Value} {ds : List (DataW H)} {ps : List MemPlace} {ss : List Sh}, shAll P ts = some ss → DataW.TrodAll enc P W 0 (fun _ => true) true ts vs ds ps →
    (∀ (j : Nat) t v, ts[j]? = some t → vs[j]? = some v → Value.okWide P W .any base t v) → vs.length = ts.length ∧ ds.length = ts.length ∧ ∃ css, argsOk ss css ∧ (argCVs P ts css).length = ts.length ∧ ∀ j, j < ts.length → RelCVK (allK W) ((argCVs P ts css).getD j (.c .junk)) (vs.getD j undef) := by
  intro ts
  induction ts with
  | nil =>
    intro vs ds ps ss hs h hok
    cases vs <;> cases ds <;> simp [DataW.TrodAll] at h
    simp only [shAll, Option.some.injEq] at hs
    subst hs
    exact ⟨rfl, rfl, [], trivial, rfl, fun j hj => by simp at hj⟩
  | cons t ts ih =>
    intro vs ds ps ss hs h hok
    obtain ⟨v, vs', d, ds', p, q, rfl, rfl, rfl, h1, h2⟩ := trodAll_cons h
    simp only [shAll] at hs
    split at hs
    case h_2 => cases hs
    rename_i s ss' hs1 hs2
    cases hs
    obtain ⟨k1, k2, css, k3, k4, k5⟩ := ih hs2 h2 (fun j t' v' ht hv => hok (j + 1) t' v' ht hv)
    obtain ⟨c, l1, l2⟩ := arg_open hs1 (hok 0 t v rfl rfl) h1
    refine ⟨by simp [k1], by simp [k2], c :: css, ⟨l1, k3⟩, by simp [argCVs, k4], fun j hj => ?_⟩
    cases j with
    | zero => exact l2
    | succ j =>
      have := k5 j (by simpa using hj)
      simpa [argCVs, List.getD_eq_getElem?_getD] using this

theorem trodAll_behind (hl : laidOutB P = true) {W' : World} (hb : Below W.heap.size W W') : ∀ {ts : List TypeId} {vs : List Value} {ds : List (DataW H)} {ps : List MemPlace}, ts.all (fun t => P.readableRec t && decide (t < P.types.size)) = true →
    (∀ p ∈ ps, p.block < W.heap.size) → DataW.TrodAll enc P W 0 (fun _ => true) true ts vs ds ps → ∀ sp : Nat → Bool, (∀ p ∈ ps, sp p.block = true) → DataW.TrodAll enc P W' 0 sp true ts vs ds ps := by
  intro ts
  induction ts with
  | nil =>
    intro vs ds ps _ _ h sp _
    cases vs <;> cases ds <;> simp [DataW.TrodAll] at h ⊢
    exact h
  | cons t ts ih =>
    intro vs ds ps hr hlt h sp hsp
    obtain ⟨v, vs', d, ds', p, q, rfl, rfl, rfl, h1, h2⟩ := trodAll_cons h
    simp only [List.all_cons, Bool.and_eq_true, decide_eq_true_iff] at hr
    exact ⟨p, q, WideElems.Trod_stays hl hr.1.1 hr.1.2 h1 (fun x hx => hb.same (hlt x (List.mem_append.2 (.inl hx)))) (fun x hx => hsp x (List.mem_append.2 (.inl hx))),
      ih (by simpa using hr.2) (fun x hx => hlt x (List.mem_append.2 (.inr hx))) h2 sp (fun x hx => hsp x (List.mem_append.2 (.inr hx))), rfl⟩

/-- What a law's row asks of its call, out of the law's contract. -/
theorem law_contract {C : Checked} {f : FuncId} {fn : Func} {s : ChangeSpec} {tb : TypeId} {ss : List Sh} {apart fresh handsOn again : Bool} (hvars : s.vars = []) (hs : ∀ (H : Type) (ds : List (DataW H)), ds.length = fn.params.toList.length → s.fn H ds = { results := [.lit (.bool true)], args := ds })
    (hl : laidOutB C.prog = true) (hr : fn.params.toList.all (fun t => C.prog.readableRec t && decide (t < C.prog.types.size)) = true) (hres : fn.resultTypes = #[tb]) (hb : C.prog.underlying tb = some .bool) (hsh : shAll C.prog fn.params.toList = some ss)
    (hlaw : ∀ css, argsOk ss css → FCall C.prog f (argCVs C.prog fn.params.toList css) (.v (.c (.bool true)))) (W : World) (base : Nat) (args : Array Value) (ds gs : List (DataW H)) (before : List MemPlace)
    (hval : ∀ (j : Nat) t v, fn.params[j]? = some t → args[j]? = some v → Value.okWide C.prog W .any base t v)
    (hW : DataW.Whole enc C.prog fn.params.toList s.vars apart W args.toList ds gs before) :
    Calls C.prog f args W fun e W' => ∃ v, e = .returned v ∧ s.post enc C.prog fn apart fresh handsOn again W args v W' := by
  have hW0 := hW
  obtain ⟨p, q, hA, hV, hpq, hfz, hnd⟩ := hW
  rw [hvars] at hV
  obtain ⟨hgs, hq⟩ := trodVars_none hV
  subst hgs
  subst hq
  rw [List.append_nil] at hpq
  subst hpq
  obtain ⟨hvl, hdl, css, hok, hcl, hrel⟩ := args_open hsh hA (fun j t v ht hv => hval j t v (by simpa using ht) (by simpa using hv))
  have hlt : ∀ x ∈ before, x.block < W.heap.size := fun x hx => hW0.lt x hx
  refine ((hlaw css hok).2 (allK W) W args (fun b o h => h) (by rw [hcl]; simpa using hvl) (fun j hj => ?_)).mono ?_
  · rw [hcl] at hj
    have := hrel j hj
    simpa [List.getD_eq_getElem?_getD] using this
  · rintro e W' ⟨K', v, _, _, _, hbel, rfl, hv⟩
    have hvb : v = .bool true := by
      have h1 : RelK K' (.bool true) v := hv.1
      generalize v = u at h1
      cases h1; rfl
    subst hvb
    refine ⟨_, rfl, ?_⟩
    have hds : s.fn H (ds ++ []) = { results := [.lit (.bool true)], args := ds } := by rw [List.append_nil]; exact hs H ds hdl
    have hrs : ∀ (b : Nat) (sp : Nat → Bool) (hd : Bool), DataW.TrodAll enc C.prog W' b sp hd fn.resultTypes.toList ((Value.bool true).resultList fn.resultTypes.size) [.lit (.bool true)] [] := fun b sp hd => by
      rw [hres]
      exact ⟨[], [], shut_bool hb true, rfl, rfl⟩
    have hargs : ∀ sp : Nat → Bool, (∀ x ∈ before, sp x.block = true) → DataW.TrodAll enc C.prog W' 0 sp true fn.params.toList args.toList ds before := trodAll_behind hl hbel hr hlt hA
    refine ⟨ds, [], before, [], before, [], hW0, by rw [hds]; exact hrs _ _ _, by rw [hds]; exact hargs _ (fun x hx => by simpa using hlt x hx), by rw [hds, hvars]; rfl, World.keptBut_mono (fun x hx => ⟨hx, .inr (.inl hx)⟩) (hbel.frame (· ∈ before)), fun _ => ?_⟩
    refine ⟨ok_one hres (by rfl) (okWide_bool_mk hb true), .lit (.bool true) :: ds, [], before, ⟨before, [], ?_, by rw [hvars]; rfl, by simp, fun b off hp => ?_, fun ha => hnd ha⟩, fun x hx _ => hx⟩
    · have := trodAll_append (hargs _ (fun _ _ => rfl)) (hrs 0 (fun _ => true) true)
      simpa using this
    · rw [hbel.frozen (hlt _ hp)]
      exact hfz b off hp
end

end Go.Sym
