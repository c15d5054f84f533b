import Derived.Test.YtaaplpbjjnechaaT35G
import Derived.Test.YtaaplpbjjnechaaT35J
namespace Go.Proofs.Ytaaplpbjjnechaa
set_option linter.unusedVariables false
set_option linter.unusedSimpArgs false
section
open Go.Sym

/-! ### Tallies: the plain law -/
def insR : List Ta → Pc → List Ta
  | [], p => [oneT p]
  | x :: t, p => if ltP x.pl p = true then x :: insR t p else if ltP p x.pl = true then oneT p :: x :: t else upT x :: t
theorem insT_R : ∀ (t : List Ta) (p : Pc), insT t p = insR t p
  | [], p => rfl
  | x :: t, p => by
    have ih := insT_R t p
    rw [insR, ← ih]
    by_cases hx : ltP x.pl p = true
    · have hp : posT (x :: t) p = posT t p + 1 := by unfold posT; rw [List.takeWhile_cons, if_pos hx]; rfl
      rw [if_pos hx, insT, insT, hp]
      simp only [List.length_cons, Nat.add_lt_add_iff_right, List.set_cons_succ, List.take_succ_cons, List.drop_succ_cons, List.cons_append]
      rw [show taAt (x :: t) (posT t p + 1) = taAt t (posT t p) from rfl]
      split <;> rfl
    · have hp : posT (x :: t) p = 0 := by unfold posT; rw [List.takeWhile_cons, if_neg hx]; rfl
      rw [if_neg hx, insT, hp]
      rw [show taAt (x :: t) 0 = x from rfl]
      by_cases hy : ltP p x.pl = true
      · rw [if_pos hy, if_neg (by rintro ⟨_, h⟩; rw [hy] at h; cases h)]; rfl
      · rw [if_neg hy, if_pos ⟨by simp, by simpa using hy⟩]; rfl
theorem upT_pl (x : Ta) : (upT x).pl = x.pl := rfl
theorem oneT_pl (p : Pc) : (oneT p).pl = p := rfl
/-- The tallies of a count. -/
structure Rep (t : List Ta) (c : Pc → Int) : Prop where
  strict : t.Pairwise fun a b => ltP a.pl b.pl = true
  mem : ∀ x, x ∈ t → x.n = c x.pl ∧ 1 ≤ x.n
  all : ∀ p, 1 ≤ c p → ∃ x, x ∈ t ∧ x.pl = p
theorem strict_eq : ∀ {a b : List Ta}, (a.Pairwise fun a b => ltP a.pl b.pl = true) → (b.Pairwise fun a b => ltP a.pl b.pl = true) → (∀ x, x ∈ a ↔ x ∈ b) → a = b
  | [], b, _, _, h => by
    cases b with
    | nil => rfl
    | cons y b => exact absurd ((h y).2 List.mem_cons_self) (by simp)
  | x :: a, b, ha, hb, h => by
    cases b with
    | nil => exact absurd ((h x).1 List.mem_cons_self) (by simp)
    | cons y b =>
      have hxy : x = y := by
        rcases List.mem_cons.1 ((h x).1 List.mem_cons_self) with e | e
        · exact e
        rcases List.mem_cons.1 ((h y).2 List.mem_cons_self) with e' | e'
        · exact e'.symm
        have h1 := List.rel_of_pairwise_cons hb e
        have h2 := List.rel_of_pairwise_cons ha e'
        rw [ltP_asymm h1] at h2; cases h2
      subst hxy
      rw [strict_eq (List.Pairwise.of_cons ha) (List.Pairwise.of_cons hb) fun z => ?_]
      have nx : ∀ {l : List Ta}, ((x :: l).Pairwise fun a b => ltP a.pl b.pl = true) → z ∈ l → z ≠ x := fun hl hz e => by
        have := List.rel_of_pairwise_cons hl hz
        rw [e, ltP_irrefl] at this; cases this
      constructor
      · intro hz
        rcases List.mem_cons.1 ((h z).1 (List.mem_cons_of_mem _ hz)) with e | e
        · exact absurd e (nx ha hz)
        · exact e
      · intro hz
        rcases List.mem_cons.1 ((h z).2 (List.mem_cons_of_mem _ hz)) with e | e
        · exact absurd e (nx hb hz)
        · exact e
theorem ta_ext {x y : Ta} (h : x.pl = y.pl) (hn : x.n = y.n) : x = y := by
  obtain ⟨a, b, c, d⟩ := x
  obtain ⟨a', b', c', d'⟩ := y
  simp only [Ta.pl, Pc.mk.injEq] at h
  simp only at hn
  obtain ⟨rfl, rfl, rfl⟩ := h
  subst hn; rfl
theorem Rep.sub {a b : List Ta} {c : Pc → Int} (ha : Rep a c) (hb : Rep b c) {x : Ta} (hx : x ∈ a) : x ∈ b := by
  obtain ⟨h1, h2⟩ := ha.mem x hx
  obtain ⟨y, hy, he⟩ := hb.all x.pl (by omega)
  have h3 := (hb.mem y hy).1
  rw [he] at h3
  rw [show x = y from ta_ext he.symm (by omega)]
  exact hy
theorem Rep.eq {a b : List Ta} {c : Pc → Int} (ha : Rep a c) (hb : Rep b c) : a = b := strict_eq ha.strict hb.strict fun x => ⟨ha.sub hb, hb.sub ha⟩
theorem insR_pl : ∀ {t : List Ta} {p : Pc} {y : Ta}, y ∈ insR t p → y.pl = p ∨ ∃ x, x ∈ t ∧ y.pl = x.pl
  | [], p, y, h => by
    rw [insR, List.mem_singleton] at h
    exact .inl (by rw [h]; rfl)
  | x :: t, p, y, h => by
    rw [insR] at h
    split at h
    · rcases List.mem_cons.1 h with h | h
      · exact .inr ⟨x, List.mem_cons_self, by rw [h]⟩
      · rcases insR_pl h with h | ⟨z, hz, e⟩
        · exact .inl h
        · exact .inr ⟨z, List.mem_cons_of_mem _ hz, e⟩
    · split at h
      · rcases List.mem_cons.1 h with h | h
        · exact .inl (by rw [h]; rfl)
        · exact .inr ⟨y, h, rfl⟩
      · rcases List.mem_cons.1 h with h | h
        · exact .inr ⟨x, List.mem_cons_self, by rw [h]; rfl⟩
        · exact .inr ⟨y, List.mem_cons_of_mem _ h, rfl⟩
theorem insR_has : ∀ (t : List Ta) (p : Pc), (∃ y, y ∈ insR t p ∧ y.pl = p) ∧ ∀ x, x ∈ t → ∃ y, y ∈ insR t p ∧ y.pl = x.pl
  | [], p => ⟨⟨oneT p, by simp [insR], rfl⟩, fun x h => by cases h⟩
  | x :: t, p => by
    obtain ⟨⟨y, hy, he⟩, ih⟩ := insR_has t p
    rw [insR]
    split
    · refine ⟨⟨y, List.mem_cons_of_mem _ hy, he⟩, fun z hz => ?_⟩
      rcases List.mem_cons.1 hz with rfl | hz
      · exact ⟨z, List.mem_cons_self, rfl⟩
      · obtain ⟨w, hw, e⟩ := ih z hz
        exact ⟨w, List.mem_cons_of_mem _ hw, e⟩
    · rename_i h1
      split
      · exact ⟨⟨oneT p, List.mem_cons_self, rfl⟩, fun z hz => ⟨z, List.mem_cons_of_mem _ hz, rfl⟩⟩
      · rename_i h2
        refine ⟨⟨upT x, List.mem_cons_self, ?_⟩, fun z hz => ?_⟩
        · rw [upT_pl]; exact ltP_tri (by simpa using h1) (by simpa using h2)
        · rcases List.mem_cons.1 hz with rfl | hz
          · exact ⟨upT z, List.mem_cons_self, rfl⟩
          · exact ⟨z, List.mem_cons_of_mem _ hz, rfl⟩
theorem insR_strict : ∀ {t : List Ta} (p : Pc), (t.Pairwise fun a b => ltP a.pl b.pl = true) → (insR t p).Pairwise fun a b => ltP a.pl b.pl = true
  | [], p, _ => by simp [insR]
  | x :: t, p, h => by
    have hx := fun y hy => List.rel_of_pairwise_cons h (a' := y) hy
    have ih := insR_strict p (List.Pairwise.of_cons h)
    rw [insR]
    split
    · rename_i h1
      refine List.Pairwise.cons (fun y hy => ?_) ih
      rcases insR_pl hy with e | ⟨z, hz, e⟩
      · rw [e]; exact h1
      · rw [e]; exact hx z hz
    · split
      · rename_i h2
        refine List.Pairwise.cons (fun y hy => ?_) h
        rw [oneT_pl]
        rcases List.mem_cons.1 hy with rfl | hy
        · exact h2
        · exact ltP_trans h2 (hx y hy)
      · exact List.Pairwise.cons (fun y hy => hx y hy) (List.Pairwise.of_cons h)
def bump (c : Pc → Int) (p q : Pc) : Int := if q = p then c q + 1 else c q
theorem insR_mem {c : Pc → Int} {p : Pc} (hc : 0 ≤ c p ∧ c p ≤ 1000000) : ∀ {t : List Ta}, (t.Pairwise fun a b => ltP a.pl b.pl = true) → (∀ x, x ∈ t → x.n = c x.pl ∧ 1 ≤ x.n) → ((∀ x, x ∈ t → x.pl ≠ p) → c p = 0) →
    ∀ y, y ∈ insR t p → y.n = bump c p y.pl ∧ 1 ≤ y.n
  | [], _, _, h0, y, hy => by
    rw [insR, List.mem_singleton] at hy
    have := h0 (fun x h => by cases h)
    rw [hy, oneT_pl, bump, if_pos rfl, this]
    exact ⟨rfl, Int.le_refl _⟩
  | x :: t, hs, hm, h0, y, hy => by
    have hx := fun y hy => List.rel_of_pairwise_cons hs (a' := y) hy
    rw [insR] at hy
    have old : ∀ z, z ∈ x :: t → z.pl ≠ p → z.n = bump c p z.pl ∧ 1 ≤ z.n := fun z hz hne => by rw [bump, if_neg hne]; exact hm z hz
    split at hy
    · rename_i h1
      have hne : x.pl ≠ p := fun e => by rw [e, ltP_irrefl] at h1; cases h1
      rcases List.mem_cons.1 hy with rfl | hy
      · exact old y List.mem_cons_self hne
      · refine insR_mem hc (List.Pairwise.of_cons hs) (fun z hz => hm z (List.mem_cons_of_mem _ hz)) (fun h => h0 fun z hz => ?_) y hy
        rcases List.mem_cons.1 hz with rfl | hz
        · exact hne
        · exact h z hz
    · rename_i h1
      split at hy
      · rename_i h2
        have hne : ∀ z, z ∈ x :: t → z.pl ≠ p := fun z hz e => by
          have : ltP p z.pl = true := by
            rcases List.mem_cons.1 hz with rfl | hz
            · exact h2
            · exact ltP_trans h2 (hx z hz)
          rw [e, ltP_irrefl] at this; cases this
        rcases List.mem_cons.1 hy with rfl | hy
        · have := h0 hne
          rw [oneT_pl, bump, if_pos rfl, this]
          exact ⟨rfl, Int.le_refl _⟩
        · exact old y hy (hne y hy)
      · rename_i h2
        have he : x.pl = p := ltP_tri (by simpa using h1) (by simpa using h2)
        rcases List.mem_cons.1 hy with rfl | hy
        · obtain ⟨h3, h4⟩ := hm x List.mem_cons_self
          rw [upT_pl, he, bump, if_pos rfl]
          rw [he] at h3
          have : (upT x).n = x.n + 1 := w64 _ (by omega) (by omega)
          rw [this]; omega
        · refine old y (List.mem_cons_of_mem _ hy) fun e => ?_
          have := hx y hy
          rw [he, e, ltP_irrefl] at this; cases this
theorem Rep.ins {t : List Ta} {c : Pc → Int} {p : Pc} (h : Rep t c) (hc : 0 ≤ c p ∧ c p ≤ 1000000) : Rep (insT t p) (bump c p) := by
  rw [insT_R]
  refine ⟨insR_strict p h.strict, insR_mem hc h.strict h.mem fun hno => ?_, fun q hq => ?_⟩
  · by_cases h1 : 1 ≤ c p
    · obtain ⟨x, hx, he⟩ := h.all p h1
      exact absurd he (hno x hx)
    · omega
  · obtain ⟨h1, h2⟩ := insR_has t p
    by_cases e : q = p
    · subst e; exact h1
    · rw [bump, if_neg e] at hq
      obtain ⟨x, hx, he⟩ := h.all q hq
      obtain ⟨y, hy, he'⟩ := h2 x hx
      exact ⟨y, hy, by rw [he', he]⟩
def cN (l : List De) (p : Pc) : Int := ((l.filter fun d => decide (d.pl = p)).length : Nat)
theorem cN_snoc (l : List De) (d : De) : cN (l ++ [d]) = bump (cN l) d.pl := by
  funext q
  rw [cN, List.filter_append, List.length_append, bump, cN]
  by_cases h : q = d.pl
  · subst h; simp [List.filter_cons]
  · have h' : ¬ d.pl = q := fun e => h e.symm
    rw [if_neg h]; simp [List.filter_cons, h']
theorem cN_le (l : List De) (p : Pc) : 0 ≤ cN l p ∧ cN l p ≤ l.length := by
  have : (l.filter fun d => decide (d.pl = p)).length ≤ l.length := List.length_filter_le _ _
  unfold cN; omega
theorem cN_nil (p : Pc) : cN [] p = 0 := rfl
theorem rep_nil : Rep [] (cN []) where
  strict := List.Pairwise.nil
  mem := fun x h => by cases h
  all := fun p h => by rw [cN_nil] at h; omega
theorem snoc_ind {α : Type} {P : List α → Prop} (h0 : P []) (h1 : ∀ l x, P l → P (l ++ [x])) (l : List α) : P l := by
  have : ∀ n (l : List α), l.length = n → P l := by
    intro n
    induction n with
    | zero => intro l hl; rw [List.eq_nil_of_length_eq_zero hl]; exact h0
    | succ n ih =>
      intro l hl
      have hne : l ≠ [] := fun e => by rw [e] at hl; cases hl
      rw [← List.dropLast_concat_getLast hne]
      exact h1 _ _ (ih _ (by rw [List.length_dropLast, hl]; rfl))
  exact this _ l rfl
theorem cnt_rep (l : List De) (hl : l.length ≤ 1000000) : Rep (cnt l) (cN l) := by
  induction l using snoc_ind with
  | h0 => exact rep_nil
  | h1 l d ih =>
    rw [List.length_append, List.length_singleton] at hl
    rw [cnt_snoc, cN_snoc]
    have := cN_le l d.pl
    exact (ih (by omega)).ins ⟨this.1, by omega⟩
end
section
open Go.Sym

/-! ### The map of the counts, plainly -/
def fi (D : Ens) (p : Pc) : Nat := D.findIdx fun e => decide (e.1 = p)
def enAt (D : Ens) (i : Nat) : Pc × Int := D.getD i (zPc, 0)
def valE (D : Ens) (p : Pc) : Int := (enAt D (fi D p)).2
def addE (D : Ens) (p : Pc) : Ens := if fi D p < D.length then D.set (fi D p) (p, IntKind.i64.wrap (valE D p + 1)) else D ++ [(p, 1)]
def tal (l : List De) : Ens := l.foldl (fun D d => addE D d.pl) []
theorem tal_snoc (l : List De) (d : De) : tal (l ++ [d]) = addE (tal l) d.pl := by simp [tal]
theorem fi_key {D : Ens} {p : Pc} (h : fi D p < D.length) : (enAt D (fi D p)).1 = p := by
  have := List.findIdx_getElem (p := fun e : Pc × Int => decide (e.1 = p)) (xs := D) (w := h)
  rw [decide_eq_true_eq] at this
  rw [enAt, List.getD_eq_getElem?_getD, List.getElem?_eq_getElem h]
  exact this
theorem fi_none {D : Ens} {p : Pc} (h : ¬ fi D p < D.length) : ∀ e, e ∈ D → e.1 ≠ p := fun e he hp => h (List.findIdx_lt_length_of_exists ⟨e, he, by rw [hp]; simp⟩)
theorem enAt_mem {D : Ens} {i : Nat} (h : i < D.length) : enAt D i ∈ D := by
  rw [enAt, List.getD_eq_getElem?_getD, List.getElem?_eq_getElem h]
  exact List.getElem_mem h
structure Tal (D : Ens) (c : Pc → Int) : Prop where
  nodup : (D.map (·.1)).Nodup
  val : ∀ e, e ∈ D → e.2 = c e.1 ∧ 1 ≤ e.2
  all : ∀ p, 1 ≤ c p → ∃ e, e ∈ D ∧ e.1 = p
theorem Tal.uniq {D : Ens} {c : Pc → Int} (h : Tal D c) {i j : Nat} (hi : i < D.length) (hj : j < D.length) (he : (enAt D i).1 = (enAt D j).1) : i = j := by
  have hn := h.nodup
  have e : ∀ k (hk : k < D.length), (D.map (·.1))[k]'(by simpa using hk) = (enAt D k).1 := fun k hk => by
    rw [List.getElem_map, enAt, List.getD_eq_getElem?_getD, List.getElem?_eq_getElem hk]; rfl
  rw [List.Nodup, List.pairwise_iff_getElem] at hn
  rcases Nat.lt_trichotomy i j with h | h | h
  · exact absurd (by rw [e i hi, e j hj]; exact he) (hn i j (by simpa using hi) (by simpa using hj) h)
  · exact h
  · exact absurd (by rw [e i hi, e j hj]; exact he.symm) (hn j i (by simpa using hj) (by simpa using hi) h)
theorem Tal.add {D : Ens} {c : Pc → Int} {p : Pc} (h : Tal D c) (hc : 0 ≤ c p ∧ c p ≤ 1000000) : Tal (addE D p) (bump c p) := by
  unfold addE
  split
  · rename_i hf
    have hk := fi_key hf
    have hv := h.val _ (enAt_mem hf)
    rw [hk] at hv
    have hv' : valE D p = c p := hv.1
    have hw : IntKind.i64.wrap (valE D p + 1) = c p + 1 := by rw [hv']; exact w64 _ (by omega) (by omega)
    rw [hw]
    have hkeys : (D.set (fi D p) (p, c p + 1)).map (·.1) = D.map (·.1) := by
      rw [List.map_set]
      refine List.ext_getElem (by simp) fun j h1 h2 => ?_
      rw [List.getElem_set]
      split
      · rename_i hj
        subst hj
        have : (D.map (·.1))[fi D p] = (enAt D (fi D p)).1 := by
          rw [List.getElem_map, enAt, List.getD_eq_getElem?_getD, List.getElem?_eq_getElem hf]; rfl
        rw [this, hk]
      · rfl
    refine ⟨by rw [hkeys]; exact h.nodup, fun e he => ?_, fun q hq => ?_⟩
    · obtain ⟨j, hj, rfl⟩ := List.getElem_of_mem he
      rw [List.length_set] at hj
      rw [List.getElem_set]
      split
      · rw [bump, if_pos rfl]; exact ⟨rfl, by simp only; omega⟩
      · rename_i hne
        have hj' : D[j] = enAt D j := by rw [enAt, List.getD_eq_getElem?_getD, List.getElem?_eq_getElem hj]; rfl
        rw [hj']
        have hkne : (enAt D j).1 ≠ p := fun e => hne (h.uniq hf hj (by rw [hk, e]))
        rw [bump, if_neg hkne]
        exact h.val _ (enAt_mem hj)
    · have : q ∈ (D.set (fi D p) (p, c p + 1)).map (·.1) := by
        rw [hkeys]
        by_cases e : q = p
        · subst e
          exact List.mem_map.2 ⟨_, enAt_mem hf, hk⟩
        · rw [bump, if_neg e] at hq
          obtain ⟨e, he, h'⟩ := h.all q hq
          exact List.mem_map.2 ⟨e, he, h'⟩
      obtain ⟨e, he, h'⟩ := List.mem_map.1 this
      exact ⟨e, he, h'⟩
  · rename_i hf
    have hno := fi_none hf
    have hc0 : c p = 0 := by
      by_cases h1 : 1 ≤ c p
      · obtain ⟨e, he, h'⟩ := h.all p h1
        exact absurd h' (hno e he)
      · omega
    refine ⟨?_, fun e he => ?_, fun q hq => ?_⟩
    · rw [List.map_append, List.nodup_append]
      refine ⟨h.nodup, by simp, fun a ha b hb => ?_⟩
      obtain ⟨e, he, rfl⟩ := List.mem_map.1 ha
      rw [List.map_singleton, List.mem_singleton] at hb
      subst hb
      exact hno e he
    · rcases List.mem_append.1 he with he | he
      · rw [bump, if_neg (hno e he)]; exact h.val e he
      · rw [List.mem_singleton] at he
        subst he
        rw [bump, if_pos rfl, hc0]
        exact ⟨rfl, Int.le_refl _⟩
    · by_cases e : q = p
      · subst e
        exact ⟨_, List.mem_append.2 (.inr List.mem_cons_self), rfl⟩
      · rw [bump, if_neg e] at hq
        obtain ⟨e, he, h'⟩ := h.all q hq
        exact ⟨e, List.mem_append.2 (.inl he), h'⟩
theorem tal_tal (l : List De) (hl : l.length ≤ 1000000) : Tal (tal l) (cN l) := by
  induction l using snoc_ind with
  | h0 => exact ⟨List.nodup_nil, fun e h => (by cases h), fun p h => (by rw [cN_nil] at h; omega)⟩
  | h1 l d ih =>
    rw [List.length_append, List.length_singleton] at hl
    rw [tal_snoc, cN_snoc]
    have := cN_le l d.pl
    exact (ih (by omega)).add ⟨this.1, by omega⟩
theorem addE_len (D : Ens) (p : Pc) : (addE D p).length ≤ D.length + 1 := by
  unfold addE; split <;> simp
theorem tal_len (l : List De) : (tal l).length ≤ l.length := by
  induction l using snoc_ind with
  | h0 => simp [tal]
  | h1 l d ih =>
    rw [tal_snoc, List.length_append, List.length_singleton]
    have := addE_len (tal l) d.pl
    omega
theorem addE_key {D : Ens} {p : Pc} {e : Pc × Int} (h : e ∈ addE D p) : e.1 = p ∨ ∃ e', e' ∈ D ∧ e.1 = e'.1 := by
  unfold addE at h
  split at h
  · rcases List.mem_or_eq_of_mem_set h with h | h
    · exact .inr ⟨e, h, rfl⟩
    · exact .inl (by rw [h])
  · rcases List.mem_append.1 h with h | h
    · exact .inr ⟨e, h, rfl⟩
    · rw [List.mem_singleton] at h
      exact .inl (by rw [h])
theorem tal_key (l : List De) : ∀ e, e ∈ tal l → ∃ d, d ∈ l ∧ e.1 = d.pl := by
  induction l using snoc_ind with
  | h0 => intro e h; cases h
  | h1 l d ih =>
    intro e h
    rw [tal_snoc] at h
    rcases addE_key h with h | ⟨e', h1, h2⟩
    · exact ⟨d, List.mem_append.2 (.inr List.mem_cons_self), h⟩
    · obtain ⟨d', hd, h3⟩ := ih e' h1
      exact ⟨d', List.mem_append.2 (.inl hd), by rw [h2, h3]⟩
/-- The tallies of a map's sorted keys. -/
def taE (D : Ens) (p : Pc) : Ta := ⟨p.t, p.c, p.f, valE D p⟩
theorem Tal.valE {D : Ens} {c : Pc → Int} (h : Tal D c) {p : Pc} (hp : p ∈ D.map (·.1)) : fi D p < D.length ∧ valE D p = c p ∧ 1 ≤ valE D p := by
  have hf : fi D p < D.length := by
    refine Classical.byContradiction fun hn => ?_
    obtain ⟨e, he, h'⟩ := List.mem_map.1 hp
    exact fi_none hn e he h'
  have := h.val _ (enAt_mem hf)
  rw [fi_key hf] at this
  exact ⟨hf, this⟩
theorem Tal.rep {D : Ens} {c : Pc → Int} (h : Tal D c) {ks : List Pc} (hp : ks.Perm (D.map (·.1))) (hs : ks.Pairwise fun a b => ltP b a = false) : Rep (ks.map (taE D)) c := by
  have hnd : ks.Nodup := hp.nodup_iff.2 h.nodup
  refine ⟨?_, fun x hx => ?_, fun p hq => ?_⟩
  · rw [List.pairwise_map]
    refine (List.Pairwise.and hs hnd).imp fun {a b} hab => ?_
    show ltP a b = true
    cases hlt : ltP a b with
    | true => rfl
    | false => exact absurd (ltP_tri hlt hab.1) hab.2
  · obtain ⟨p, hpk, rfl⟩ := List.mem_map.1 hx
    exact (h.valE (hp.mem_iff.1 hpk)).2
  · obtain ⟨e, he, rfl⟩ := h.all p hq
    exact ⟨taE D e.1, List.mem_map.2 ⟨e.1, hp.mem_iff.2 (List.mem_map.2 ⟨e, he, rfl⟩), rfl⟩, rfl⟩
theorem tal_cnt {l : List De} (hl : l.length ≤ 1000000) {ks : List Pc} (hp : ks.Perm ((tal l).map (·.1))) (hs : ks.Pairwise fun a b => ltP b a = false) : ks.map (taE (tal l)) = cnt l :=
  ((tal_tal l hl).rep hp hs).eq (cnt_rep l hl)
end
end Go.Proofs.Ytaaplpbjjnechaa
