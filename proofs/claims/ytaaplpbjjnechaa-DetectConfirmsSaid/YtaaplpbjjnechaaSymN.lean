/-
  THE SYMBOLIC LAYER, PART N: a loop over a function.
-/
import Derived.Test.YtaaplpbjjnechaaSymM
namespace Go.Sym
open Go.RowKit

variable {P : Program} {B : Base P} {E : Env} {w : World}

/-! ### No word of yield -/
def C.noY : C → Bool
  | .yld _ => false
  | _ => true
def CV.noY : CV → Bool
  | .c x => x.noY
  | .agg _ => true
  | .pagg cs => cs.all C.noY
def SB.noY : SB → Bool
  | .v x => x.noY
  | .tup xs => xs.all CV.noY
def SV.noY : SV → Bool
  | .junk => true
  | .b x => x.noY
  | .may _ x => x.noY
  | .pin _ x => x.noY
def MO.noY : MO → Bool
  | .pcells cs => cs.all C.noY
  | .cnt _ _ _ => false
  | _ => true
def noYt : List SV → Bool
  | [] => true
  | x :: r => x.noY && noYt r
def noYm : List (Option MO) → Bool
  | [] => true
  | x :: r => (match x with | some o => o.noY | none => true) && noYm r
def S.noY (s : S) : Bool := noYt s.t && noYm s.m

theorem noYt_get : ∀ {l : List SV} {k : Nat} {x : SV}, noYt l = true → l[k]? = some x → x.noY = true := by
  intro l
  induction l with
  | nil => intro k x _ h; simp at h
  | cons y l ih =>
    intro k x h hk
    simp only [noYt, Bool.and_eq_true] at h
    cases k with
    | zero => simp at hk; subst hk; exact h.1
    | succ k => exact ih h.2 (by simpa using hk)
theorem noYm_get : ∀ {l : List (Option MO)} {k : Nat} {o : MO}, noYm l = true → l[k]? = some (some o) → o.noY = true := by
  intro l
  induction l with
  | nil => intro k x _ h; simp at h
  | cons y l ih =>
    intro k x h hk
    simp only [noYm, Bool.and_eq_true] at h
    cases k with
    | zero => simp at hk; subst hk; exact h.1
    | succ k => exact ih h.2 (by simpa using hk)

theorem all_getD {α : Type} {p : α → Bool} {l : List α} {d : α} (h : l.all p = true) (j : Nat) (hj : j < l.length) : p (l.getD j d) = true := by
  rw [List.all_eq_true] at h
  exact h (l.getD j d) (by simp [List.getD_eq_getElem?_getD, hj])

/-- The same names, other knowledge, another stretch. -/
def Env.re (E : Env) (K : Know) (c : Cst) : Env := { K := K, cel := E.cel, rw := E.rw, mp := E.mp, c := c }

theorem rel_re {K : Know} {cc : Cst} {c : C} {u : Value} (hK : E.K.le K) (hc : c.noY = true) (h : Rel E c u) : Rel (E.re K cc) c u := by
  cases c with
  | yld n => cases hc
  | ptr => exact h
  | row => exact h
  | rel => exact h
  | oclo => exact h
  | omap => exact h
  | _ => exact RelK.mono hK h

theorem relCV_re {K : Know} {cc : Cst} {c : CV} {u : Value} (hK : E.K.le K) (hc : c.noY = true) (h : RelCV E c u) : RelCV (E.re K cc) c u := by
  cases c with
  | c x => exact ⟨rel_re hK hc h.1, h.2⟩
  | agg cs => obtain ⟨arr, hu, hl⟩ := h; exact ⟨arr, hu, hl.mono hK⟩
  | pagg cs =>
    obtain ⟨arr, hu, hs, hr⟩ := h
    exact ⟨arr, hu, hs, fun j hj => ⟨rel_re hK (all_getD hc j hj) (hr j hj).1, (hr j hj).2⟩⟩

theorem relSB_re {K : Know} {cc : Cst} {c : SB} {u : Value} (hK : E.K.le K) (hc : c.noY = true) (h : RelSB E c u) : RelSB (E.re K cc) c u := by
  cases c with
  | v x => exact relCV_re hK hc h
  | tup xs =>
    obtain ⟨vs, hu, hs, hr⟩ := h
    exact ⟨vs, hu, hs, fun j hj => relCV_re hK (all_getD hc j hj) (hr j hj)⟩

theorem relSV_re {K : Know} {cc : Cst} {g : List (Option Bool)} {x : SV} {u : Value} (hK : E.K.le K) (hf : cc.fix = E.c.fix) (hc : x.noY = true) (h : RelSV E g x u) : RelSV (E.re K cc) g x u := by
  cases x with
  | junk => trivial
  | b x => exact relSB_re hK hc h
  | may p x => exact ⟨fun hp => relSB_re hK hc (h.1 hp), h.2⟩
  | pin k x => exact ⟨relSB_re hK hc h.1, by show u = cc.fix k; rw [hf]; exact h.2⟩

theorem mrel_re {K : Know} {cc : Cst} {n : Nat} {o : MO} (hK : E.K.le K) (ho : o.noY = true) (h : MRel E w n o) : MRel (E.re K cc) w n o := by
  cases o with
  | cells cs => obtain ⟨b, arr, T, h1, h2, h3⟩ := h; exact ⟨b, arr, T, h1, h2, h3.mono hK⟩
  | pcells cs =>
    obtain ⟨b, arr, T, h1, h2, h3, h4⟩ := h
    exact ⟨b, arr, T, h1, h2, h3, fun j hj => ⟨rel_re hK (all_getD ho j hj) (h4 j hj).1, (h4 j hj).2⟩⟩
  | row e sz css => obtain ⟨h1, h2, hd, xs, h3, h4, h5⟩ := h; exact ⟨h1, h2, hd, xs, h3, h4, h5.mono hK⟩
  | omap kagg agg ents => obtain ⟨b, es, h1, h2, h3⟩ := h; exact ⟨b, es, h1, h2, h3.mono hK⟩
  | gone => exact h
  | cnt i xs k => cases ho
  | bag e sz css => obtain ⟨css', hp, h1, h2, hd, xs, h3, h4, h5⟩ := h; exact ⟨css', hp, h1, h2, hd, xs, h3, h4, h5.mono hK⟩

/-- A stretch ends, another begins: what is own goes on. -/
theorem Core.re {B' : Base P} {m : List (Option MO)} {w' : World} {K : Know} {c : Cst} (hc : Core B E m w) (hm : noYm m = true) (hK : E.K.le K) (hkn : Knows K w') (hbase : c.K0.le K) (hnk : ∀ b, b < c.w0.heap.size → c.K0 b = none → K b = none)
    (hsame : ∀ n b, E.holds n b → w'.heap[b]? = w.heap[b]?) (hap : ∀ n b, E.holds n b → K b = none) (hnew : ∀ n b, E.holds n b → c.w0.heap.size ≤ b ∨ B'.W b) (hos : w'.os = c.w0.os) (htape : w'.tape = c.w0.tape) (hout : w'.output = c.w0.output)
    (hsz : c.w0.heap.size ≤ w'.heap.size) (hold : ∀ b, b < c.w0.heap.size → ¬ B'.W b → w'.heap[b]? = c.w0.heap[b]?) (hj : B'.J c.i c.K0 c.w0) (hy : c.l = B'.l ∧ c.xs = B'.xs ∧ c.k = B'.k ∧ c.fix = B'.fix)
    (hdsk : ∀ D, D ∈ c.ds → K D = some (.deferred (some [])) ∧ B'.N ≤ D ∧ B'.fn = true) (hdsn : c.ds.Nodup) : Core B' (E.re K c) m w' :=
  { know := hkn
    base := hbase
    nk := hnk
    mem := fun n o h => (mrel_re hK (noYm_get hm h) (hc.mem n o h)).other fun b hb => hsame n b hb
    cel := hc.cel
    rw := hc.rw
    mp := hc.mp
    inj := hc.inj
    apart := hap
    new := hnew
    lt := fun n b h => by
      have h1 := hc.lt n b h
      have h2 := hsame n b h
      rw [Array.getElem?_eq_getElem h1] at h2
      exact (Array.getElem?_eq_some_iff.1 h2).1
    os := hos
    tape := htape
    output := hout
    size := hsz
    old := hold
    j := hj
    y := hy
    dsk := hdsk
    dsn := hdsn }

/-! ### Rounds -/

/-- A round of a loop. -/
def roundBase (P : Program) (l : Nat) (K : Know) (w : World) (W : Nat → Prop) (fix : Nat → Value) : Base P :=
  { r := some l, fn := false, N := 0, W := W, l := 0, xs := [], k := 0, fix := fix, J := fun _ K0 w0 => K0 = K ∧ w0 = w, fnN := fun h => (by cases h), yields := fun _ _ _ _ _ _ _ _ _ _ _ h => by simp at h }
def roundCst (K : Know) (w : World) (fix : Nat → Value) : Cst := { w0 := w, K0 := K, ds := [], l := 0, i := 0, xs := [], k := 0, fix := fix }

/-- What slots hold at a round's start is what they hold at each. -/
def pinAll : List SV → Nat → List SV
  | [], _ => []
  | .b x :: r, k => .pin k x :: pinAll r (k + 1)
  | _ :: r, k => .junk :: pinAll r (k + 1)
/-- ... and behind the loop. -/
def unpinAll : List SV → Nat → List SV
  | [], _ => []
  | .pin j x :: r, k => (match Nat.beq j k with | true => .b x | false => .junk) :: unpinAll r (k + 1)
  | _ :: r, k => .junk :: unpinAll r (k + 1)
def setAt : List SV → Nat → SV → List SV
  | [], _, _ => []
  | _ :: r, 0, y => y :: r
  | x :: r, k + 1, y => x :: setAt r k y
def setParams : List SV → List Nat → List CV → List SV
  | t, p :: ps, x :: xs => setParams (setAt t p (.b (.v x))) ps xs
  | t, _, _ => t
def startR (s : S) (ps : List Nat) (xs : List CV) : S := { t := setParams (pinAll s.t 0) ps xs, m := s.m, g := [] }
def unpin (s : S) : S := { t := unpinAll s.t 0, m := s.m, g := [] }

theorem pinAll_length : ∀ {l : List SV} {k : Nat}, (pinAll l k).length = l.length := by
  intro l
  induction l with
  | nil => intro k; rfl
  | cons x l ih => intro k; cases x <;> simp [pinAll, ih]
theorem unpinAll_length : ∀ {l : List SV} {k : Nat}, (unpinAll l k).length = l.length := by
  intro l
  induction l with
  | nil => intro k; rfl
  | cons x l ih => intro k; cases x <;> simp [unpinAll, ih]
theorem setAt_length : ∀ {l : List SV} {k : Nat} {y : SV}, (setAt l k y).length = l.length := by
  intro l
  induction l with
  | nil => intro k y; rfl
  | cons x l ih => intro k y; cases k <;> simp [setAt, ih]
theorem setParams_length : ∀ {ps : List Nat} {xs : List CV} {t : List SV}, (setParams t ps xs).length = t.length := by
  intro ps
  induction ps with
  | nil => intro xs t; simp [setParams]
  | cons p ps ih => intro xs t; cases xs <;> simp [setParams, ih, setAt_length]
theorem pinAll_get : ∀ {l : List SV} {i k : Nat} {y : SV}, (pinAll l i)[k]? = some y → y = .junk ∨ ∃ x, l[k]? = some (.b x) ∧ y = .pin (i + k) x := by
  intro l
  induction l with
  | nil => intro i k y h; simp [pinAll] at h
  | cons x l ih =>
    intro i k y h
    cases k with
    | zero => cases x <;> simp [pinAll] at h <;> subst h <;> simp
    | succ k =>
      have h' : (pinAll l (i + 1))[k]? = some y := by cases x <;> simpa [pinAll] using h
      rcases ih h' with rfl | ⟨z, hz, rfl⟩
      · exact .inl rfl
      · exact .inr ⟨z, by simpa using hz, by congr 1; omega⟩
theorem unpinAll_get : ∀ {l : List SV} {i k : Nat} {y : SV}, (unpinAll l i)[k]? = some y → y = .junk ∨ ∃ x, l[k]? = some (.pin (i + k) x) ∧ y = .b x := by
  intro l
  induction l with
  | nil => intro i k y h; simp [unpinAll] at h
  | cons x l ih =>
    intro i k y h
    cases k with
    | zero =>
      cases x with
      | pin j z =>
        simp only [unpinAll, List.getElem?_cons_zero, Option.some.injEq] at h
        split at h
        · rename_i hj
          have := Nat.eq_of_beq_eq_true hj
          subst this
          exact .inr ⟨z, by simp, h.symm⟩
        · exact .inl h.symm
      | _ => simp [unpinAll] at h; subst h; exact .inl rfl
    | succ k =>
      have h' : (unpinAll l (i + 1))[k]? = some y := by cases x <;> simpa [unpinAll] using h
      rcases ih h' with rfl | ⟨z, hz, rfl⟩
      · exact .inl rfl
      · exact .inr ⟨z, by simpa [Nat.add_assoc, Nat.add_comm 1 k] using hz, rfl⟩
theorem setAt_get : ∀ {l : List SV} {p k : Nat} {y x : SV}, (setAt l p y)[k]? = some x → (k = p ∧ x = y) ∨ (k ≠ p ∧ l[k]? = some x) := by
  intro l
  induction l with
  | nil => intro p k y x h; simp [setAt] at h
  | cons z l ih =>
    intro p k y x h
    cases p with
    | zero => cases k with
      | zero => simp [setAt] at h; exact .inl ⟨rfl, h.symm⟩
      | succ k => exact .inr ⟨by simp, by simpa [setAt] using h⟩
    | succ p => cases k with
      | zero => exact .inr ⟨by simp, by simpa [setAt] using h⟩
      | succ k =>
        rcases ih (by simpa [setAt] using h) with ⟨h1, h2⟩ | ⟨h1, h2⟩
        · exact .inl ⟨by omega, h2⟩
        · exact .inr ⟨by omega, by simpa using h2⟩

theorem params_rel : ∀ {ps : List Nat} {xs : List CV} {us : List Value} {t : List SV} {tmps : Array Value}, us.length = xs.length → (∀ j, j < xs.length → RelCV E (xs.getD j (.c .junk)) (us.getD j undef)) → tmps.size = t.length →
    (∀ k x, t[k]? = some x → RelSV E [] x (tmps.getD k undef)) → ∀ k x, (setParams t ps xs)[k]? = some x → RelSV E [] x (((ps.zip us).foldl (fun t (p, v) => t.setIfInBounds p v) tmps).getD k undef) := by
  intro ps
  induction ps with
  | nil => intro xs us t tmps _ _ _ h k x hk; exact h k x (by simpa [setParams] using hk)
  | cons p ps ih =>
    intro xs us t tmps hl hx hsz h k x hk
    cases xs with
    | nil =>
      have : us = [] := List.eq_nil_of_length_eq_zero (by simpa using hl)
      subst this
      exact h k x (by simpa [setParams] using hk)
    | cons y xs =>
      cases us with
      | nil => simp at hl
      | cons u us =>
        simp only [setParams] at hk
        simp only [List.zip_cons_cons, List.foldl_cons]
        refine ih (xs := xs) (us := us) (by simpa using hl) (fun j hj => by simpa [List.getD_eq_getElem?_getD] using hx (j + 1) (by simpa using hj)) (by rw [setAt_length]; simpa using hsz) (fun k x hk => ?_) k x hk
        have hlt : k < tmps.size := by
          have := (List.getElem?_eq_some_iff.1 hk).1
          rw [setAt_length] at this
          omega
        rcases setAt_get hk with ⟨rfl, rfl⟩ | ⟨hne, hk'⟩
        · have : (tmps.setIfInBounds k u).getD k undef = u := by simp [Array.getD_eq_getD_getElem?, hlt]
          rw [this]
          exact hx 0 (by simp)
        · have : (tmps.setIfInBounds p u).getD k undef = tmps.getD k undef := by simp [Array.getD_eq_getD_getElem?, Array.getElem?_setIfInBounds_ne (Ne.symm hne)]
          rw [this]
          exact h k x hk'

theorem foldl_size : ∀ (l : List (Nat × Value)) (tmps : Array Value), (l.foldl (fun t (p, v) => t.setIfInBounds p v) tmps).size = tmps.size := by
  intro l
  induction l with
  | nil => intro t; rfl
  | cons x l ih => intro t; simp [ih]

/-- Between two rounds (or behind the last one): the state, seen by the one who ranges; the loop's two blocks. -/
def Mid (B : Base P) (E0 : Env) (a : Act) (D l : Nat) (rec : Obj) (s : S) (K : Know) (W : World) : Prop :=
  ∃ E1, E1.K = K ∧ E1.c = E0.c ∧ Sim B E1 s a W ∧ W.heap[l]? = some rec ∧ W.heap[D]? = some (.deferred (some [])) ∧ K l = none ∧ K D = none ∧ (∀ n, ¬ E1.holds n l) ∧ (∀ n, ¬ E1.holds n D)

/-- A round's end: no word of yield; as many slots as at its start. -/
def S.fits (s : S) (n : Nat) : Bool := s.noY && Nat.beq s.t.length n

/-- Where a round is left. -/
def roundR (P : Program) (Q : Exit → S → Prop) (I : Nat → S) (i k : Nat) : Exit → S → Prop
  | .normal, s => i < k ∧ ∃ s', Wk P s s' ∧ s'.fits (I i).t.length = true ∧ Wk P (unpin s') (I (i + 1))
  | .ret, s => i = k ∧ ∃ s', Wk P s s' ∧ s'.fits (I i).t.length = true ∧ Q .ret (unpin s')
  | .exit id, s => i = k ∧ ∃ s', Wk P s s' ∧ s'.fits (I i).t.length = true ∧ Q (.exit id) (unpin s')
  | _, _ => False

/-- A round's start, in the one who ranges's own words. -/
theorem round_start {s : S} {ps : List Nat} {xs : List CV} {a : Act} {l : Nat} {K' : Know} {w' : World} {us : List Value} (hs : Sim B E s a w) (hn : s.noY = true) (hsi : Since E.K w K' w') (hl : us.length = xs.length) (hx : ∀ j, j < xs.length → RelCVK K' (xs.getD j (.c .junk)) (us.getD j undef)) :
    Sim (roundBase P l K' w' (fun b => ∃ n, E.holds n b) (fun j => a.tmps.getD j undef)) (E.re K' (roundCst K' w' (fun j => a.tmps.getD j undef))) (startR s ps xs) { tmps := (ps.zip us).foldl (fun t (p, v) => t.setIfInBounds p v) a.tmps, defers := [] } w' := by
  have hc := hs.core
  simp only [S.noY, Bool.and_eq_true] at hn
  refine ⟨?_, ?_, rfl, ?_⟩
  · exact hc.re hn.2 hsi.le hsi.know (Know.le_refl _) (fun _ _ h => h) (fun n b h => hsi.old b (hc.lt n b h)) (fun n b h => hsi.nk b (hc.lt n b h) (hc.apart n b h)) (fun n b h => .inr ⟨n, h⟩) rfl rfl rfl (Nat.le_refl _) (fun _ _ _ => rfl) ⟨rfl, rfl⟩ ⟨rfl, rfl, rfl, rfl⟩ (fun D hD => by simp [roundCst] at hD) List.nodup_nil
  · simp only [startR, setParams_length, pinAll_length, foldl_size]
    exact hs.size
  · refine params_rel hl (fun j hj => RelCVK.rel (E := E.re K' _) (hx j hj)) (by rw [pinAll_length]; exact hs.size) (fun k x hk => ?_)
    rcases pinAll_get hk with rfl | ⟨y, hy, rfl⟩
    · trivial
    · have := hs.slot k _ hy
      refine ⟨relSB_re hsi.le ?_ this, ?_⟩
      · exact noYt_get (x := .b y) hn.1 hy
      · show _ = a.tmps.getD (0 + k) undef
        rw [Nat.zero_add]

/-- A round's body begins where the loop's left sides are set. -/
theorem round_body {s1 : S} {a1 : Act} {w1 : World} {l : Nat} {K' : Know} {w' : World} {W : Nat → Prop} {fix : Nat → Value} {o : Obj} (hs : Sim (roundBase P l K' w' W fix) E s1 a1 w1) (hn : s1.noY = true) (hl : E.K l = none) (hnl : ∀ n, ¬ E.holds n l) :
    Sim (roundBase P l E.K (w1.putObj l o) (fun b => ∃ n, E.holds n b) fix) (E.re E.K (roundCst E.K (w1.putObj l o) fix)) s1 a1 (w1.putObj l o) := by
  have hc := hs.core
  simp only [S.noY, Bool.and_eq_true] at hn
  refine ⟨?_, hs.size, ?_, fun k x hk => ?_⟩
  · refine hc.re hn.2 (Know.le_refl _) (fun b x hb => ?_) (Know.le_refl _) (fun _ _ h => h) (fun n b h => ?_) hc.apart (fun n b h => .inr ⟨n, h⟩) rfl rfl rfl (Nat.le_refl _) (fun _ _ _ => rfl) ⟨rfl, rfl⟩ ⟨rfl, rfl, rfl, rfl⟩ (fun D hD => by simp [roundCst] at hD) List.nodup_nil
    · rw [World.putObj_heap_other (fun e => by rw [e, hl] at hb; cases hb)]
      exact hc.know b x hb
    · exact World.putObj_heap_other (fun e => hnl n (e ▸ h))
  · rw [hs.defers]
    cases hd : E.c.ds with
    | nil => rfl
    | cons D ds => have := (hc.dsk D (by rw [hd]; simp)).2.2; cases this
  · have h := hs.slot k x hk
    exact relSV_re (Know.le_refl _) hc.y.2.2.2.symm (noYt_get hn.1 hk) h

/-- A round's end, in the one who ranges's own words. -/
theorem round_back {E0 E1 Ea Eb : Env} {s s' : S} {m1 : List (Option MO)} {a a2 : Act} {W W' w1 w2 : World} {K' : Know} {D l : Nat} {o oB : Obj} (hcE : E1.c = E0.c) (hs : Sim B E1 s a W) (hsi : Since E1.K W K' W')
    (hB1 : Core (roundBase P l K' W' (fun b => ∃ n, E1.holds n b) (fun j => a.tmps.getD j undef)) Ea m1 w1) (hB2 : Sim (roundBase P l Ea.K (w1.putObj l oB) (fun b => ∃ n, Ea.holds n b) (fun j => a.tmps.getD j undef)) Eb s' a2 w2)
    (hn : s'.fits s.t.length = true) (hl0 : E0.c.w0.heap.size ≤ l) (hlW : l < W.heap.size) (hDW : D < W.heap.size) (hDl : D ≠ l) (hD : W.heap[D]? = some (.deferred (some []))) (hKl : E1.K l = none) (hKD : E1.K D = none) (hnl : ∀ n, ¬ E1.holds n l) (hnD : ∀ n, ¬ E1.holds n D) :
    Mid B E0 a D l o (unpin s') Eb.K (w2.putObj l o) ∧ K'.le Eb.K ∧ (∀ b, b < W'.heap.size → K' b = none → Eb.K b = none) ∧ Knows Eb.K (w2.putObj l o) ∧ w2.heap[l]? = (w1.putObj l oB).heap[l]? := by
  have hc := hs.core
  have hc2 := hB2.core
  simp only [S.fits, S.noY, Bool.and_eq_true] at hn
  obtain ⟨⟨hn1, hn2⟩, hn3⟩ := hn
  have hlen : s'.t.length = s.t.length := Nat.eq_of_beq_eq_true hn3
  obtain ⟨hj1, hj1'⟩ : Ea.c.K0 = K' ∧ Ea.c.w0 = W' := hB1.j
  obtain ⟨hj2, hj2'⟩ : Eb.c.K0 = Ea.K ∧ Eb.c.w0 = w1.putObj l oB := hc2.j
  have sz1 : W.heap.size ≤ W'.heap.size := hsi.size
  have sz2 : W'.heap.size ≤ w1.heap.size := by have := hB1.size; rw [hj1'] at this; exact this
  have sz3 : w1.heap.size ≤ w2.heap.size := by have := hc2.size; rw [hj2', World.putObj_size] at this; exact this
  have le1 : K'.le Ea.K := by have := hB1.base; rw [hj1] at this; exact this
  have le2 : Ea.K.le Eb.K := by have := hc2.base; rw [hj2] at this; exact this
  have nk1 : ∀ b, b < W'.heap.size → K' b = none → Ea.K b = none := fun b hb h => hB1.nk b (by rw [hj1']; exact hb) (by rw [hj1]; exact h)
  have nk2 : ∀ b, b < w1.heap.size → Ea.K b = none → Eb.K b = none := fun b hb h => hc2.nk b (by rw [hj2', World.putObj_size]; exact hb) (by rw [hj2]; exact h)
  have new1 : ∀ n b, Ea.holds n b → W'.heap.size ≤ b ∨ ∃ n, E1.holds n b := fun n b h => by have := hB1.new n b h; rw [hj1'] at this; exact this
  have new2 : ∀ n b, Eb.holds n b → w1.heap.size ≤ b ∨ ∃ n, Ea.holds n b := fun n b h => by have := hc2.new n b h; rw [hj2', World.putObj_size] at this; exact this
  have old1 : ∀ b, b < W'.heap.size → (¬ ∃ n, E1.holds n b) → w1.heap[b]? = W'.heap[b]? := fun b hb h => by have := hB1.old b (by rw [hj1']; exact hb) h; rw [hj1'] at this; exact this
  have old2 : ∀ b, b < w1.heap.size → (¬ ∃ n, Ea.holds n b) → w2.heap[b]? = (w1.putObj l oB).heap[b]? := fun b hb h => by have := hc2.old b (by rw [hj2', World.putObj_size]; exact hb) h; rw [hj2'] at this; exact this
  have nhold : ∀ b, b < W.heap.size → (∀ n, ¬ E1.holds n b) → ∀ n, ¬ Eb.holds n b := fun b hb h n h2 => by
    rcases new2 n b h2 with h3 | ⟨n', h3⟩
    · omega
    · rcases new1 n' b h3 with h4 | ⟨n'', h4⟩
      · omega
      · exact h n'' h4
  have nholda : ∀ b, b < W.heap.size → (∀ n, ¬ E1.holds n b) → ¬ ∃ n, Ea.holds n b := fun b hb h ⟨n', h3⟩ => by
    rcases new1 n' b h3 with h4 | ⟨n'', h4⟩
    · omega
    · exact h n'' h4
  have kl : Eb.K l = none := nk2 l (by omega) (nk1 l (by omega) (hsi.nk l hlW hKl))
  have kD : Eb.K D = none := nk2 D (by omega) (nk1 D (by omega) (hsi.nk D hDW hKD))
  have hkn : Knows Eb.K (w2.putObj l o) := fun b x hb => by
    rw [World.putObj_heap_other (fun e => by rw [e, kl] at hb; cases hb)]
    exact hc2.know b x hb
  have hl2 : w2.heap[l]? = (w1.putObj l oB).heap[l]? := old2 l (by omega) (nholda l hlW hnl)
  have keep : ∀ b, b < W.heap.size → (∀ n, ¬ E1.holds n b) → b ≠ l → (w2.putObj l o).heap[b]? = W.heap[b]? := fun b hb h hbl => by
    rw [World.putObj_heap_other hbl, old2 b (by omega) (nholda b hb h), World.putObj_heap_other hbl, old1 b (by omega) (fun ⟨n, hn⟩ => h n hn)]
    exact hsi.old b hb
  have w0sz : E0.c.w0.heap.size ≤ W.heap.size := by have := hc.size; rw [hcE] at this; exact this
  refine ⟨⟨Eb.re Eb.K E0.c, rfl, rfl, ⟨?_, ?_, ?_, fun k x hk => ?_⟩, ?_, ?_, kl, kD, fun n h => nhold l hlW hnl n h, fun n h => nhold D hDW hnD n h⟩, Know.le_trans le1 le2, fun b hb h => nk2 b (by omega) (nk1 b hb h), hkn, hl2⟩
  · refine hc2.re hn2 (Know.le_refl _) hkn ?_ (fun b hb h => ?_) (fun n b h => ?_) hc2.apart (fun n b h => ?_) ?_ ?_ ?_ ?_ (fun b hb hbW => ?_) ?_ ?_ (fun D' hD' => ?_) ?_
    · have := hc.base
      rw [hcE] at this
      exact Know.le_trans this (Know.le_trans hsi.le (Know.le_trans le1 le2))
    · have h1 := hc.nk b (by rw [hcE]; exact hb) (by rw [hcE]; exact h)
      exact nk2 b (by omega) (nk1 b (by omega) (hsi.nk b (by omega) h1))
    · exact World.putObj_heap_other (fun e => nhold l hlW hnl n (e ▸ h))
    · rcases new2 n b h with h3 | ⟨n', h3⟩
      · left; omega
      · rcases new1 n' b h3 with h4 | ⟨n'', h4⟩
        · left; omega
        · have := hc.new n'' b h4
          rw [hcE] at this
          exact this
    · have := hc2.os; rw [hj2'] at this
      have h1 := hB1.os; rw [hj1'] at h1
      have h0 := hc.os; rw [hcE] at h0
      exact this.trans (h1.trans (hsi.os.trans h0))
    · have := hc2.tape; rw [hj2'] at this
      have h1 := hB1.tape; rw [hj1'] at h1
      have h0 := hc.tape; rw [hcE] at h0
      exact this.trans (h1.trans (hsi.tape.trans h0))
    · have := hc2.output; rw [hj2'] at this
      have h1 := hB1.output; rw [hj1'] at h1
      have h0 := hc.output; rw [hcE] at h0
      exact this.trans (h1.trans (hsi.output.trans h0))
    · rw [World.putObj_size]; omega
    · have h0 := hc.old b (by rw [hcE]; exact hb) hbW
      rw [hcE] at h0
      rw [← h0]
      refine keep b (by omega) (fun n h => ?_) (by omega)
      have := hc.new n b h
      rw [hcE] at this
      rcases this with h1 | h1
      · omega
      · exact hbW h1
    · have := hc.j; rw [hcE] at this; exact this
    · have := hc.y; rw [hcE] at this; exact this
    · have := hc.dsk D' (by rw [hcE]; exact hD')
      exact ⟨Know.le_trans hsi.le (Know.le_trans le1 le2) _ _ this.1, this.2⟩
    · have := hc.dsn; rw [hcE] at this; exact this
  · show a.tmps.size = (unpinAll s'.t 0).length
    rw [unpinAll_length, hlen]
    exact hs.size
  · have := hs.defers; rw [hcE] at this; exact this
  · rcases unpinAll_get hk with rfl | ⟨y, hy, rfl⟩
    · trivial
    · have h := hB2.slot k _ hy
      have hf : Eb.c.fix = fun j => a.tmps.getD j undef := hc2.y.2.2.2
      have h2 := h.2
      rw [hf] at h2
      simp only [Nat.zero_add] at h2
      have h3 : RelSB (Eb.re Eb.K E0.c) y (a2.tmps.getD k undef) := relSB_re (Know.le_refl _) (noYt_get (x := .pin (0 + k) y) hn1 hy) h.1
      rw [h2] at h3
      exact h3
  · exact World.putObj_heap_same (by omega)
  · rw [keep D hDW hnD hDl]; exact hD

end Go.Sym
