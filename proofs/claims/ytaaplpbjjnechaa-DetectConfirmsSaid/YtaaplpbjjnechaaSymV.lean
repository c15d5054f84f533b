/-
  THE SYMBOLIC LAYER, PART V: contracts of functions that are handed own things.
-/
import Derived.Test.YtaaplpbjjnechaaSymS
namespace Go.Sym
open Go.RowKit
set_option linter.unusedVariables false
set_option linter.unusedSimpArgs false

variable {P : Program} {B : Base P} {E : Env} {w : World}

def pinArgs : List CV → Nat → List SV
  | [], _ => []
  | x :: xs, j => .pin j (.v x) :: pinArgs xs (j + 1)
/-- The state at the start of a function that is handed own things. -/
def ownS (n : Nat) (args : List CV) (m0 : List (Nat × MO)) (M : Nat) : S := { t := pinArgs args 0 ++ List.replicate (n - args.length) .junk, m := tabM m0 M 0, g := [] }

theorem pinArgs_length : ∀ {l : List CV} {j : Nat}, (pinArgs l j).length = l.length := by
  intro l
  induction l with
  | nil => intro j; rfl
  | cons x l ih => intro j; simp [pinArgs, ih]
theorem pinArgs_get : ∀ {l : List CV} {i k : Nat} {y : SV}, (pinArgs l i)[k]? = some y → ∃ x, l[k]? = some x ∧ y = .pin (i + k) (.v x) := by
  intro l
  induction l with
  | nil => intro i k y h; simp [pinArgs] at h
  | cons x l ih =>
    intro i k y h
    cases k with
    | zero => simp only [pinArgs, List.getElem?_cons_zero, Option.some.injEq] at h; exact ⟨x, rfl, h.symm⟩
    | succ k =>
      simp only [pinArgs, List.getElem?_cons_succ] at h
      obtain ⟨x', h1, h2⟩ := ih h
      exact ⟨x', by simpa using h1, by rw [h2]; congr 1; omega⟩
theorem tabM_get {m0 : List (Nat × MO)} : ∀ {M i k : Nat}, (tabM m0 M i)[k]? = if k < M then some (lookM m0 (i + k)) else none := by
  intro M
  induction M with
  | zero => intro i k; simp [tabM]
  | succ M ih =>
    intro i k
    cases k with
    | zero => simp [tabM]
    | succ k =>
      simp only [tabM, List.getElem?_cons_succ]
      rw [ih, show i + 1 + k = i + (k + 1) by omega]
      simp
theorem lookM_mem : ∀ {m0 : List (Nat × MO)} {n : Nat} {o : MO}, lookM m0 n = some o → (n, o) ∈ m0 := by
  intro m0
  induction m0 with
  | nil => intro n o h; simp [lookM] at h
  | cons x m0 ih =>
    intro n o h
    obtain ⟨k, y⟩ := x
    simp only [lookM] at h
    split at h
    · rename_i hb
      cases h
      rw [Nat.eq_of_beq_eq_true hb]; exact List.mem_cons_self
    · exact List.mem_cons_of_mem _ (ih h)
theorem lookM_of : ∀ {m0 : List (Nat × MO)} {n : Nat} {o : MO}, (m0.map (·.1)).Nodup → (n, o) ∈ m0 → lookM m0 n = some o := by
  intro m0
  induction m0 with
  | nil => intro n o _ h; cases h
  | cons x m0 ih =>
    intro n o hnd h
    obtain ⟨k, y⟩ := x
    simp only [List.map_cons, List.nodup_cons] at hnd
    simp only [lookM]
    rcases List.mem_cons.1 h with h | h
    · cases h
      rw [Nat.beq_refl]
    · have hne : Nat.beq k n = false := by
        cases hb : Nat.beq k n with
        | false => rfl
        | true =>
          have := Nat.eq_of_beq_eq_true hb
          exact absurd (by rw [this]; exact List.mem_map_of_mem (f := (·.1)) h) hnd.1
      rw [hne]
      exact ih hnd.2 h

theorem C.inN_noY {ns : List Nat} {c : C} (h : c.inN ns = true) : c.noY = true := by
  cases c <;> first | rfl | cases h
theorem all_inN_noY {ns : List Nat} {cs : List C} (h : cs.all (C.inN ns) = true) : cs.all C.noY = true :=
  List.all_eq_true.2 fun c hc => C.inN_noY ((List.all_eq_true.1 h) c hc)
theorem CV.inN_noY {ns : List Nat} {x : CV} (h : x.inN ns = true) : x.noY = true := by
  cases x with
  | c x => exact C.inN_noY h
  | agg cs => rfl
  | pagg cs => exact all_inN_noY h
theorem MO.inN_noY {ns : List Nat} {o : MO} (h : o.inN ns = true) : o.noY = true := by
  cases o <;> first | rfl | cases h | exact all_inN_noY h

/-- A witness that what lies under the name n is what was handed: a slot that nobody has written. -/
def WitP (s : S) (args : List CV) (m0 : List (Nat × MO)) (n : Nat) (o : MO) (k : Nat) : Prop :=
  (∃ off off', s.t[k]? = some (.pin k (.v (.c (.ptr n off)))) ∧ args[k]? = some (.c (.ptr n off')) ∧ o.kind = 0) ∨
  (∃ e sz css e' sz' css', s.t[k]? = some (.pin k (.v (.c (.row n css.length)))) ∧ args[k]? = some (.c (.row n css.length)) ∧ o = .row e sz css ∧ (n, .row e' sz' css') ∈ m0 ∧ css'.length = css.length) ∨
  (s.t[k]? = some (.pin k (.v (.c (.omap n)))) ∧ args[k]? = some (.c (.omap n)) ∧ o.kind = 2)

theorem wit_box {s : S} {args : List CV} {m0 : List (Nat × MO)} {n : Nat} {o : MO} (k off off' : Nat) (h1 : s.t[k]? = some (.pin k (.v (.c (.ptr n off))))) (h2 : args[k]? = some (.c (.ptr n off'))) (h3 : o.kind = 0) : WitP s args m0 n o k := .inl ⟨off, off', h1, h2, h3⟩
theorem wit_row {s : S} {args : List CV} {m0 : List (Nat × MO)} {n e sz e' sz' l : Nat} {css css' : List (List C)} (k : Nat) (h1 : s.t[k]? = some (.pin k (.v (.c (.row n l))))) (h2 : args[k]? = some (.c (.row n l))) (h3 : (n, .row e' sz' css') ∈ m0) (h4 : l = css.length) (h5 : css'.length = css.length) :
    WitP s args m0 n (.row e sz css) k := .inr (.inl ⟨e, sz, css, e', sz', css', by rw [← h4]; exact h1, by rw [← h4]; exact h2, rfl, h3, h5⟩)
theorem wit_map {s : S} {args : List CV} {m0 : List (Nat × MO)} {n : Nat} {o : MO} (k : Nat) (h1 : s.t[k]? = some (.pin k (.v (.c (.omap n))))) (h2 : args[k]? = some (.c (.omap n))) (h3 : o.kind = 2) : WitP s args m0 n o k := .inr (.inr ⟨h1, h2, h3⟩)

/-- What the memory is at the end. -/
def EndM (s : S) (args : List CV) (m0 : List (Nat × MO)) (hid : List Nat) : List (Nat × MO) → Prop
  | [] => True
  | (n, o) :: l => s.m[n]? = some (some o) ∧ (hasN hid n = true ∨ ∃ k, WitP s args m0 n o k) ∧ EndM s args m0 hid l
theorem EndM.get {s : S} {args : List CV} {m0 : List (Nat × MO)} {hid : List Nat} : ∀ {l : List (Nat × MO)} {n : Nat} {o : MO}, EndM s args m0 hid l → (n, o) ∈ l → s.m[n]? = some (some o) ∧ (hasN hid n = true ∨ ∃ k, WitP s args m0 n o k) := by
  intro l
  induction l with
  | nil => intro n o _ h; cases h
  | cons x l ih =>
    intro n o h hm
    obtain ⟨n1, o1⟩ := x
    rcases List.mem_cons.1 hm with hm | hm
    · cases hm; exact ⟨h.1, h.2.1⟩
    · exact ih h.2.2 hm

def OwnEnds (P : Program) (rs : List ResultVar) (args : List CV) (m0 : List (Nat × MO)) (hid : List Nat) (r : SB) (m1 : List (Nat × MO)) (e : Exit) (s : S) : Prop :=
  (e = .ret ∨ e = .normal) ∧ (resOf P s rs = some r ∨ ∃ k x, rs = [.tmp k] ∧ s.t[k]? = some (.b (.v x)) ∧ r = .v x) ∧ EndM s args m0 hid m1

theorem ownEnds {P : Program} {rs : List ResultVar} {args : List CV} {m0 : List (Nat × MO)} {hid : List Nat} {r : SB} {m1 : List (Nat × MO)} {e : Exit} {s : S} (he : e = .ret ∨ e = .normal) (h : resOf P s rs = some r) (hm : EndM s args m0 hid m1) : OwnEnds P rs args m0 hid r m1 e s := ⟨he, .inl h, hm⟩
theorem ownEndsO {P : Program} {rs : List ResultVar} {args : List CV} {m0 : List (Nat × MO)} {hid : List Nat} {m1 : List (Nat × MO)} {e : Exit} {s : S} (k : Nat) (x : CV) (he : e = .ret ∨ e = .normal) (h1 : rs = [.tmp k]) (h2 : s.t[k]? = some (.b (.v x))) (hm : EndM s args m0 hid m1) :
    OwnEnds P rs args m0 hid (.v x) m1 e s := ⟨he, .inr ⟨k, x, h1, h2, rfl⟩, hm⟩

/-- Where such a function begins. -/
def ownBase (P : Program) (E : Env) (w : World) (vs : Array Value) : Base P :=
  { r := none, fn := true, N := w.heap.size, W := fun b => ∃ n, E.holds n b, l := 0, xs := [], k := 0, fix := fun j => vs.getD j undef, J := fun _ K0 w0 => K0 = E.K ∧ w0 = w, fnN := fun _ _ _ w' h => by rw [h.2]; exact Nat.le_refl _,
    yields := fun _ _ _ _ _ _ _ _ _ _ _ h => by simp at h }

theorem RelL.but {E : Env} {ds : List Nat} (hd : ∀ D, D ∈ ds → E.K D = some (.deferred (some []))) {cs : List C} {arr : Array Value} (h : RelL E cs arr) : RelL { E with K := E.K.but ds } cs arr := by
  refine ⟨h.1, fun j hj => ⟨?_, (h.2 j hj).2⟩⟩
  have := (h.2 j hj).1
  generalize cs.getD j .junk = c at this ⊢
  cases c <;> first | exact this | exact RelK.but hd this

theorem MapRel.but {K : Know} {ds : List Nat} (hd : ∀ D, D ∈ ds → K D = some (.deferred (some []))) {kagg agg : Bool} {ents : List (List C × List C)} {es : Array MapEntry} (h : MapRel K kagg agg ents es) : MapRel (K.but ds) kagg agg ents es :=
  ⟨h.1, fun j e he => let ⟨⟨h1, h2⟩, ⟨h3, h4⟩, h5⟩ := h.2 j e he; ⟨⟨h1.but hd, h2⟩, ⟨h3.but hd, h4⟩, h5⟩⟩

theorem fown_of {f : FuncId} {fn : Func} {c : Code} {hid : List Nat} {args : List CV} {m0 m1 : List (Nat × MO)} {r : SB} (M : Nat) (hf : P.funcs[f]? = some fn) (hb : fn.body = some c) (hname : (fn.name == "runtime.NumGoroutine") = false)
    (hok : RenOk hid args m0 r m1 (fun n => n)) (hrowk : ∀ n o, hasN hid n = true → (n, o) ∈ m0 → o.kind = 1) (hM : (m0.map (·.1)).all (fun n => Nat.blt n M) = true)
    (ht : ∀ B : Base P, B.r = none → B.fn = true → Run P B (ownS fn.ntmps args m0 M) (flatC c []) (OwnEnds P fn.results.toList args m0 hid r m1)) : FOwn P f hid args m0 r m1 := by
  refine ⟨⟨fn, hf, by rw [hb]; rfl, hname⟩, fun E w vs hK hat hsz hrel => ?_⟩
  have hnd : (m0.map (·.1)).Nodup := by have := dupFree_nodup hok.dup; rwa [map_id_hid] at this
  have hnames := kindsEq_names hok.kinds
  have hin0 : ∀ n o, (n, o) ∈ m0 → o.noY = true := fun n o h => MO.inN_noY ((List.all_eq_true.1 hok.in0) _ h)
  have hlt : ∀ n o, (n, o) ∈ m0 → n < M := fun n o h => by
    have := (List.all_eq_true.1 hM) n (List.mem_map_of_mem (f := (·.1)) h)
    simpa using this
  let cst : Cst := { w0 := w, K0 := E.K, ds := [], l := 0, i := 0, xs := [], k := 0, fix := fun j => vs.getD j undef }
  have hE0 : E.re E.K cst = { E with c := cst } := rfl
  have hget : ∀ n o, (n, o) ∈ m0 → (tabM m0 M 0)[n]? = some (some o) := fun n o h => by
    rw [tabM_get, if_pos (hlt n o h), Nat.zero_add, lookM_of hnd h]
  have hsim : Sim (ownBase P E w vs) (E.re E.K cst) (ownS fn.ntmps args m0 M) { tmps := vs ++ Array.replicate (fn.ntmps - vs.size) undef, defers := [] } w := by
    refine ⟨?_, ?_, rfl, fun k x hk => ?_⟩
    · exact
      { know := hK
        base := Know.le_refl _
        nk := fun _ _ h => h
        mem := fun n o h => by
          have h' : (tabM m0 M 0)[n]? = some (some o) := h
          rw [tabM_get] at h'
          split at h'
          · have h2 := Option.some.inj h'
            rw [Nat.zero_add] at h2
            have := lookM_mem h2
            exact mrel_re (Know.le_refl _) (hin0 n o this) (hat.mem n o this)
          · cases h'
        cel := fun n b h => by
          obtain ⟨cs, h1 | h1⟩ := hat.cel n b h
          · exact ⟨cs, .inl (hget n _ h1)⟩
          · exact ⟨cs, .inr (hget n _ h1)⟩
        rw := fun n x h => by obtain ⟨o, h1, h2⟩ := hat.rw n x h; exact ⟨o, hget n o h1, h2⟩
        mp := fun n b h => by obtain ⟨kagg, agg, ents, h1⟩ := hat.mp n b h; exact ⟨kagg, agg, ents, hget n _ h1⟩
        inj := fun n n' b h h' => hat.inj n n' b h h'
        apart := fun n b h => (hat.place n b h).1
        new := fun n b h => .inr ⟨n, h⟩
        lt := fun n b h => (hat.place n b h).2
        os := rfl
        tape := rfl
        output := rfl
        size := Nat.le_refl _
        old := fun _ _ _ => rfl
        j := ⟨rfl, rfl⟩
        y := ⟨rfl, rfl, rfl, rfl⟩
        dsk := fun D hD => by cases hD
        dsn := List.nodup_nil }
    · simp [ownS, pinArgs_length, hsz]
    · have hk' : (pinArgs args 0 ++ List.replicate (fn.ntmps - args.length) SV.junk)[k]? = some x := hk
      by_cases hka : k < args.length
      · rw [List.getElem?_append_left (by rw [pinArgs_length]; exact hka)] at hk'
        obtain ⟨y, hy, rfl⟩ := pinArgs_get hk'
        have e : (vs ++ Array.replicate (fn.ntmps - vs.size) undef).getD k undef = vs.getD k undef := by
          have : k < vs.size := by omega
          simp [Array.getElem?_append, this]
        show RelCV _ y _ ∧ _
        rw [e, Nat.zero_add]
        have hr := hrel k hka
        have ey : args.getD k (.c .junk) = y := by simp [List.getD_eq_getElem?_getD, hy]
        rw [ey] at hr
        exact ⟨relCV_re (Know.le_refl _) (CV.inN_noY ((List.all_eq_true.1 hok.ina) y (List.mem_of_getElem? hy))) hr, rfl⟩
      · rw [List.getElem?_append_right (by rw [pinArgs_length]; omega), List.getElem?_replicate] at hk'
        split at hk'
        · rw [← Option.some.inj hk']; trivial
        · cases hk'
  refine (callsIn_wide (n := 0)).1 (callsIn_of_wp_marks hf hb trivial ?_ rfl)
  refine wpIn_mono ((run_tri (run_flat (ht (ownBase P E w vs) rfl rfl))) _ _ _ hsim) ?_
  rintro e a' w' ⟨E', s', ⟨he, hres, hend⟩, hs'⟩
  have hc := hs'.core
  obtain ⟨hJK, hJw⟩ : E'.c.K0 = E.K ∧ E'.c.w0 = w := hc.j
  have hfix : E'.c.fix = fun j => vs.getD j undef := hc.y.2.2.2
  -- what the witnesses say
  have hm1 : ∀ n, n ∈ m0.map (·.1) → ∃ o o', (n, o) ∈ m0 ∧ (n, o') ∈ m1 ∧ o.kind = o'.kind := fun n h => by
    obtain ⟨⟨n1, o⟩, h1, h2⟩ := List.mem_map.1 h
    simp only at h2
    subst h2
    have h3 : n1 ∈ m1.map (·.1) := by rw [hnames]; exact h
    obtain ⟨⟨n2, o'⟩, h4, h5⟩ := List.mem_map.1 h3
    simp only at h5
    subst h5
    exact ⟨o, o', h1, h4, kindsEq_get hok.kinds hnd h1 h4⟩
  have hpin : ∀ k x, s'.t[k]? = some (.pin k (.v (.c x))) → Rel E' x (vs.getD k undef) := fun k x h => by
    have := hs'.slot k _ h
    obtain ⟨h1, h2⟩ := this
    have h3 : a'.tmps.getD k undef = vs.getD k undef := by rw [h2, hfix]
    rw [← h3]; exact h1.1
  have hini : ∀ k x, args[k]? = some (.c x) → Rel E x (vs.getD k undef) := fun k x h => by
    have hk : k < args.length := (List.getElem?_eq_some_iff.1 h).1
    have := hrel k hk
    have e : args.getD k (.c .junk) = .c x := by simp [List.getD_eq_getElem?_getD, h]
    rw [e] at this
    exact this.1
  have uniq : ∀ n o oo, (n, o) ∈ m0 → (n, oo) ∈ m0 → oo = o := fun n o oo h h' => by
    have p1 := lookM_of hnd h
    have p2 := lookM_of hnd h'
    rw [p1] at p2; exact (Option.some.inj p2).symm
  have kE : ∀ n o, (n, o) ∈ m0 → (∀ b, E.cel n = some b → o.kind = 0) ∧ (∀ x, E.rw n = some x → o.kind = 1) ∧ (∀ b, E.mp n = some b → o.kind = 2) := fun n o h => by
    refine ⟨fun b hb => ?_, fun x hx => ?_, fun b hb => ?_⟩
    · obtain ⟨cs, h1 | h1⟩ := hat.cel n b hb <;> (rw [← uniq n o _ h h1]; rfl)
    · obtain ⟨o1, h1, h2⟩ := hat.rw n x hx
      rw [← uniq n o _ h h1]; exact rowy_kind h2
    · obtain ⟨kagg, agg, ents, h1⟩ := hat.mp n b hb
      rw [← uniq n o _ h h1]; rfl
  have kE' : ∀ n o, s'.m[n]? = some (some o) → (∀ b, E'.cel n = some b → o.kind = 0) ∧ (∀ x, E'.rw n = some x → o.kind = 1) ∧ (∀ b, E'.mp n = some b → o.kind = 2) := fun n o h => by
    refine ⟨fun b hb => ?_, fun x hx => ?_, fun b hb => ?_⟩
    · obtain ⟨cs, h1 | h1⟩ := hc.cel n b hb <;> (rw [h] at h1; rw [Option.some.inj (Option.some.inj h1)]; rfl)
    · obtain ⟨o1, h1, h2⟩ := hc.rw n x hx
      rw [h] at h1; rw [Option.some.inj (Option.some.inj h1)]; exact rowy_kind h2
    · obtain ⟨kagg, agg, ents, h1⟩ := hc.mp n b hb
      rw [h] at h1; rw [Option.some.inj (Option.some.inj h1)]; rfl
  have non : ∀ {α : Type} (x y : Option α) (k k' : Nat), k ≠ k' → (∀ b, x = some b → k = k') → (∀ b, y = some b → k = k') → x = y := fun x y k k' hne hx hy => by
    have h1 : x = none := by
      cases x with
      | none => rfl
      | some b => exact absurd (hx b rfl) hne
    have h2 : y = none := by
      cases y with
      | none => rfl
      | some b => exact absurd (hy b rfl) hne
    rw [h1, h2]
  have same : ∀ n, n ∈ m0.map (·.1) → hasN hid n = false → E'.cel n = E.cel n ∧ E'.rw n = E.rw n ∧ E'.mp n = E.mp n := fun n hn hh => by
    obtain ⟨o, o', h1, h2, h3⟩ := hm1 n hn
    obtain ⟨h4, h5⟩ := hend.get h2
    obtain ⟨a1, a2, a3⟩ := kE n o h1
    obtain ⟨b1, b2, b3⟩ := kE' n o' h4
    rw [← h3] at b1 b2 b3
    rw [hh] at h5
    rcases h5 with h5 | ⟨k, h5⟩
    · cases h5
    rcases h5 with ⟨off, off', g1, g2, g3⟩ | ⟨e, sz, css, e', sz', css', g1, g2, g3, g4, g5⟩ | ⟨g1, g2, g3⟩
    · have hk : o.kind = 0 := h3.trans g3
      refine ⟨?_, non _ _ o.kind 1 (by omega) b2 a2, non _ _ o.kind 2 (by omega) b3 a3⟩
      obtain ⟨b, q1, q2⟩ : RelP E' n off _ := hpin k _ g1
      obtain ⟨b', q3, q4⟩ : RelP E n off' _ := hini k _ g2
      rw [q2] at q4
      cases q4
      rw [q1, q3]
    · have hk : o.kind = 1 := by rw [h3, g3]; rfl
      refine ⟨non _ _ o.kind 0 (by omega) b1 a1, ?_, non _ _ o.kind 2 (by omega) b3 a3⟩
      obtain ⟨hd, l, q1, q2, q3⟩ : ∃ hd len, E'.rw n = some (hd, len) ∧ css.length ≤ len ∧ (css.length = len → vs.getD k undef = hd) := hpin k _ g1
      obtain ⟨hd0, l0, p1, p2, p3⟩ : ∃ hd len, E.rw n = some (hd, len) ∧ css.length ≤ len ∧ (css.length = len → vs.getD k undef = hd) := hini k _ g2
      rw [g3] at h4
      obtain ⟨_, _, hd1, _, r1, _⟩ := hc.row h4
      obtain ⟨_, _, hd2, _, r2, _⟩ : MRel E w n (.row e' sz' css') := hat.mem n _ g4
      rw [q1] at r1
      rw [p1] at r2
      cases r1
      cases r2
      rw [q1, p1, ← q3 rfl, ← p3 g5.symm, g5]
    · have hk : o.kind = 2 := h3.trans g3
      refine ⟨non _ _ o.kind 0 (by omega) b1 a1, non _ _ o.kind 1 (by omega) b2 a2, ?_⟩
      obtain ⟨b, q1, q2⟩ : ∃ b, E'.mp n = some b ∧ vs.getD k undef = .map (some b) := hpin k _ g1
      obtain ⟨b', q3, q4⟩ : ∃ b, E.mp n = some b ∧ vs.getD k undef = .map (some b) := hini k _ g2
      rw [q2] at q4
      cases q4
      rw [q1, q3]
  -- a hidden name is a row's
  let rw' : Nat → Option (Value × Nat) := fun n => if hasN hid n then E'.rw n else E.rw n
  have hidrow : ∀ n, hasN hid n = true → n ∈ m0.map (·.1) := fun n h => hasN_iff.1 ((List.all_eq_true.1 hok.sub) n (hasN_iff.1 h))
  have hrw : ∀ n, n ∈ m0.map (·.1) → rw' n = E'.rw n := fun n hn => by
    show (if hasN hid n then E'.rw n else E.rw n) = _
    cases hh : hasN hid n with
    | true => rfl
    | false => exact ((same n hn hh).2.1).symm
  have hcm : ∀ n, n ∈ m0.map (·.1) → E'.cel n = E.cel n ∧ E'.mp n = E.mp n := fun n hn => by
    cases hh : hasN hid n with
    | false => exact ⟨(same n hn hh).1, (same n hn hh).2.2⟩
    | true =>
      obtain ⟨o, o', h1, h2, h3⟩ := hm1 n hn
      have h4 := (hend.get h2).1
      obtain ⟨a1, a2, a3⟩ := kE n o h1
      obtain ⟨b1, b2, b3⟩ := kE' n o' h4
      rw [← h3] at b1 b3
      have hk : o.kind = 1 := hrowk n o hh h1
      exact ⟨non _ _ o.kind 0 (by omega) b1 a1, non _ _ o.kind 2 (by omega) b3 a3⟩
  have own_in : ∀ n b, (E.upd (E'.K.but E'.c.ds) rw').holds n b → n ∈ m0.map (·.1) := fun n b h => by
    rcases h with h | h | ⟨hd, len, h, _⟩
    · obtain ⟨cs, h1 | h1⟩ := hat.cel n b h <;> exact List.mem_map_of_mem (f := (·.1)) h1
    · obtain ⟨kagg, agg, ents, h1⟩ := hat.mp n b h; exact List.mem_map_of_mem (f := (·.1)) h1
    · change (if hasN hid n then E'.rw n else E.rw n) = _ at h
      cases hh : hasN hid n with
      | true => exact hidrow n hh
      | false =>
        rw [hh] at h
        obtain ⟨o, h1, _⟩ := hat.rw n _ h
        exact List.mem_map_of_mem (f := (·.1)) h1
  have out_holds : ∀ n b, (E.upd (E'.K.but E'.c.ds) rw').holds n b → E'.holds n b := fun n b h => by
    have hn := own_in n b h
    obtain ⟨h1, h2⟩ := hcm n hn
    have h3 := hrw n hn
    unfold Env.holds at h ⊢
    simp only [Env.upd] at h
    rw [h1, h2, ← h3]; exact h
  have out_rel : ∀ c u, c.inN (m0.map (·.1)) = true → Rel { E' with K := E'.K.but E'.c.ds } c u → Rel (E.upd (E'.K.but E'.c.ds) rw') c u := fun c u hcn h => by
    cases c with
    | ptr n off =>
      obtain ⟨b, h1, h2⟩ := h
      exact ⟨b, ((hcm n (hasN_iff.1 hcn)).1).symm.trans h1, h2⟩
    | row n l =>
      obtain ⟨hd, len, h1, h2⟩ := h
      exact ⟨hd, len, (hrw n (hasN_iff.1 hcn)).trans h1, h2⟩
    | rel n l sz i off =>
      obtain ⟨hd, len, h1, h2⟩ := h
      exact ⟨hd, len, (hrw n (hasN_iff.1 hcn)).trans h1, h2⟩
    | oclo bd fn caps =>
      obtain ⟨vs, hu, hs, hp⟩ := h
      refine ⟨vs, hu, hs, fun j hj => ?_⟩
      obtain ⟨b, h1, h2⟩ := hp j hj
      have hn := hasN_iff.1 ((List.all_eq_true.1 hcn) (caps.getD j (0, 0)) (by simp [List.getD_eq_getElem?_getD, hj]))
      exact ⟨b, ((hcm _ hn).1).symm.trans h1, h2⟩
    | omap n =>
      obtain ⟨b, h1, h2⟩ := h
      exact ⟨b, ((hcm n (hasN_iff.1 hcn)).2).symm.trans h1, h2⟩
    | yld n => cases hcn
    | _ => exact h
  have hdk : ∀ D, D ∈ E'.c.ds → E'.K D = some (.deferred (some [])) := fun D hD => (hc.dsk D hD).1
  have hleave : LeavesInM (FB none) 0 P fn a'.tmps (fun e w' => ∃ K' rw' v, e = .returned v ∧ OwnOut hid E m1 w K' rw' w' ∧ RelSB (E.upd K' rw') r v) a'.defers .returning w' := by
    rw [hs'.defers]
    refine leaves_marks E'.c.ds w' hc.dsn (fun D hD => hc.know _ _ (hc.dsk D hD).1) (fun w2 h1 h2 h3 h4 h5 => ?_)
    have hheld : ∀ n b, E'.holds n b → w2.heap[b]? = w'.heap[b]? := fun n b h => h5 b (fun hm => by
      have := hc.apart n b h
      rw [(hc.dsk b hm).1] at this; cases this)
    obtain ⟨v, hrun, hv⟩ : ∃ v, (results fn a'.tmps).run P w2 = .ok v w2 ∧ RelSB (E.upd (E'.K.but E'.c.ds) rw') r v := by
      rcases hres with hres | ⟨k, x, h6, h7, rfl⟩
      · obtain ⟨v, hrun, hv⟩ := results_run hs' hheld hres
        exact ⟨v, hrun, RelSBK.rel (E := E.upd (E'.K.but E'.c.ds) rw') (hv.but hdk)⟩
      · refine ⟨a'.tmps.getD k undef, ?_, ?_⟩
        · have h8 : fn.results = #[.tmp k] := by
            apply Array.ext'
            simpa using h6
          unfold results
          rw [h8]
          simp
        · have h8 : RelCV E' x (a'.tmps.getD k undef) := hs'.slot k _ h7
          have hin : x.inN (m0.map (·.1)) = true := hok.inr
          show RelCV _ x _
          cases x with
          | c x =>
            refine ⟨out_rel _ _ hin ?_, h8.2⟩
            have h9 := h8.1
            generalize a'.tmps.getD k undef = u at h9
            cases x <;> first | exact h9 | exact RelK.but hdk h9
          | agg cs => obtain ⟨arr, hu, hl⟩ := h8; exact ⟨arr, hu, hl.but hdk⟩
          | pagg cs =>
            obtain ⟨arr, hu, hl⟩ := h8
            refine ⟨arr, hu, hl.1, fun j hj => ⟨out_rel _ _ ?_ ((hl.but hdk).2 j hj).1, (hl.2 j hj).2⟩⟩
            exact (List.all_eq_true.1 hin) _ (by simp [List.getD_eq_getElem?_getD, hj])
    refine ⟨v, hrun, E'.K.but E'.c.ds, rw', v, rfl, ?_, hv⟩
    exact
    { le := fun b o hb => by
        rw [Know.but_other]
        · exact hc.base _ _ (by rw [hJK]; exact hb)
        · intro hm
          have h6 : w.heap.size ≤ b := (hc.dsk b hm).2.1
          have := (Array.getElem?_eq_some_iff.1 (hK b o hb)).1
          omega
      nk := fun b hb hn => by
        by_cases hm : b ∈ E'.c.ds
        · exact Know.but_none hm
        · rw [Know.but_other hm]
          exact hc.nk b (by rw [hJw]; exact hb) (by rw [hJK]; exact hn)
      know := fun b o hb => by
        by_cases hm : b ∈ E'.c.ds
        · rw [Know.but_none hm] at hb; cases hb
        · rw [Know.but_other hm] at hb
          rw [h5 b hm]; exact hc.know b o hb
      same := fun n hn => by
        show (if hasN hid n then E'.rw n else E.rw n) = _
        rw [hn]; rfl
      mem := fun n o hno => by
        have hn : n ∈ m0.map (·.1) := by rw [← hnames]; exact List.mem_map_of_mem (f := (·.1)) hno
        have h7 := (hc.mem n o (hend.get hno).1).other (w' := w2) fun b hb => hheld n b hb
        have hino := (List.all_eq_true.1 hok.in1) _ hno
        cases o with
        | cells cs => obtain ⟨b, arr, T, q1, q2, q3⟩ := h7; exact ⟨b, arr, T, ((hcm n hn).1).symm.trans q1, q2, q3.but hdk⟩
        | pcells cs =>
          obtain ⟨b, arr, T, q1, q2, q3⟩ := h7
          refine ⟨b, arr, T, ((hcm n hn).1).symm.trans q1, q2, q3.1, fun j hj => ⟨out_rel _ _ ?_ ((q3.but hdk).2 j hj).1, (q3.2 j hj).2⟩⟩
          exact (List.all_eq_true.1 hino) _ (by simp [List.getD_eq_getElem?_getD, hj])
        | row e sz css => obtain ⟨q1, q2, hd, xs, q3, q4, q5⟩ := h7; exact ⟨q1, q2, hd, xs, (hrw n hn).trans q3, q4, q5.but hdk⟩
        | omap kagg agg ents => obtain ⟨b, es, q1, q2, q3⟩ := h7; exact ⟨b, es, ((hcm n hn).2).symm.trans q1, q2, q3.but hdk⟩
        | gone => obtain ⟨hd, len, q1, q2⟩ := h7; exact ⟨hd, len, (hrw n hn).trans q1, q2⟩
        | cnt i xs k => cases hino
        | bag e sz css => obtain ⟨css', hp, q1, q2, hd, xs, q3, q4, q5⟩ := h7; exact ⟨css', hp, q1, q2, hd, xs, (hrw n hn).trans q3, q4, q5.but hdk⟩
      inj := fun n n' b h h' => hc.inj n n' b (out_holds n b h) (out_holds n' b h')
      place := fun n b h => by
        have h7 := out_holds n b h
        refine ⟨?_, by rw [h1]; exact hc.lt n b h7, ?_⟩
        · by_cases hm : b ∈ E'.c.ds
          · exact Know.but_none hm
          · rw [Know.but_other hm]; exact hc.apart n b h7
        · rcases hc.new n b h7 with h8 | h8
          · left; rw [hJw] at h8; exact h8
          · exact .inr h8
      os := h2.trans (hc.os.trans (by rw [hJw]))
      tape := h3.trans (hc.tape.trans (by rw [hJw]))
      output := h4.trans (hc.output.trans (by rw [hJw]))
      size := by rw [h1]; have := hc.size; rw [hJw] at this; exact this
      old := fun b hb hno => by
        rw [h5 b (fun hm => by have h6 : w.heap.size ≤ b := (hc.dsk b hm).2.1; omega)]
        have := hc.old b (by rw [hJw]; exact hb) (fun h => by obtain ⟨n, hn⟩ := h; exact hno n hn)
        rw [this, hJw] }
  rcases he with rfl | rfl
  · exact hleave
  · exact hleave

end Go.Sym
