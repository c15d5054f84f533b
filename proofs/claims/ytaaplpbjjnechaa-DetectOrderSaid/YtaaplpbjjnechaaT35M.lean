import Derived.Test.YtaaplpbjjnechaaT35L
import Derived.Test.YtaaplpbjjnechaaT35J
namespace Go.Proofs.Ytaaplpbjjnechaa
open Go.Sym
set_option linter.unusedVariables false
set_option linter.unusedSimpArgs false

/-! ### The map of the counts, plainly -/
def fi (D : Ens) (p : Pc) : Nat := D.findIdx fun e => decide (e.1 = p)
def enAt (D : Ens) (i : Nat) : Pc × Int := D.getD i (zPc, 0)
def valE (D : Ens) (p : Pc) : Int := (enAt D (fi D p)).2
def addE (D : Ens) (p : Pc) : Ens := if fi D p < D.length then D.set (fi D p) (p, IntKind.i64.wrap (valE D p + 1)) else D ++ [(p, 1)]
def tal (l : List De) : Ens := l.foldl (fun D d => addE D d.pl) []
theorem tal_snoc (l : List De) (d : De) : tal (l ++ [d]) = addE (tal l) d.pl := by simp [tal]
theorem fi_key {D : Ens} {p : Pc} (h : fi D p < D.length) : (enAt D (fi D p)).1 = p := by
  have := List.findIdx_getElem (p := fun e : Pc × Int => decide (e.1 = p)) (xs := D) (w := h)
  rw [decide_eq_true_eq] at this
  rw [enAt, List.getD_eq_getElem?_getD, List.getElem?_eq_getElem h]
  exact this
theorem fi_none {D : Ens} {p : Pc} (h : ¬ fi D p < D.length) : ∀ e, e ∈ D → e.1 ≠ p := fun e he hp => h (List.findIdx_lt_length_of_exists ⟨e, he, by rw [hp]; simp⟩)
theorem enAt_mem {D : Ens} {i : Nat} (h : i < D.length) : enAt D i ∈ D := by
  rw [enAt, List.getD_eq_getElem?_getD, List.getElem?_eq_getElem h]
  exact List.getElem_mem h
structure Tal (D : Ens) (c : Pc → Int) : Prop where
  nodup : (D.map (·.1)).Nodup
  val : ∀ e, e ∈ D → e.2 = c e.1 ∧ 1 ≤ e.2
  all : ∀ p, 1 ≤ c p → ∃ e, e ∈ D ∧ e.1 = p
theorem Tal.uniq {D : Ens} {c : Pc → Int} (h : Tal D c) {i j : Nat} (hi : i < D.length) (hj : j < D.length) (he : (enAt D i).1 = (enAt D j).1) : i = j := by
  have hn := h.nodup
  have e : ∀ k (hk : k < D.length), (D.map (·.1))[k]'(by simpa using hk) = (enAt D k).1 := fun k hk => by
    rw [List.getElem_map, enAt, List.getD_eq_getElem?_getD, List.getElem?_eq_getElem hk]; rfl
  rw [List.Nodup, List.pairwise_iff_getElem] at hn
  rcases Nat.lt_trichotomy i j with h | h | h
  · exact absurd (by rw [e i hi, e j hj]; exact he) (hn i j (by simpa using hi) (by simpa using hj) h)
  · exact h
  · exact absurd (by rw [e i hi, e j hj]; exact he.symm) (hn j i (by simpa using hj) (by simpa using hi) h)
theorem Tal.add {D : Ens} {c : Pc → Int} {p : Pc} (h : Tal D c) (hc : 0 ≤ c p ∧ c p ≤ 1000000) : Tal (addE D p) (bump c p) := by
  unfold addE
  split
  · rename_i hf
    have hk := fi_key hf
    have hv := h.val _ (enAt_mem hf)
    rw [hk] at hv
    have hv' : valE D p = c p := hv.1
    have hw : IntKind.i64.wrap (valE D p + 1) = c p + 1 := by rw [hv']; exact w64 _ (by omega) (by omega)
    rw [hw]
    have hkeys : (D.set (fi D p) (p, c p + 1)).map (·.1) = D.map (·.1) := by
      rw [List.map_set]
      refine List.ext_getElem (by simp) fun j h1 h2 => ?_
      rw [List.getElem_set]
      split
      · rename_i hj
        subst hj
        have : (D.map (·.1))[fi D p] = (enAt D (fi D p)).1 := by
          rw [List.getElem_map, enAt, List.getD_eq_getElem?_getD, List.getElem?_eq_getElem hf]; rfl
        rw [this, hk]
      · rfl
    refine ⟨by rw [hkeys]; exact h.nodup, fun e he => ?_, fun q hq => ?_⟩
    · obtain ⟨j, hj, rfl⟩ := List.getElem_of_mem he
      rw [List.length_set] at hj
      rw [List.getElem_set]
      split
      · rw [bump, if_pos rfl]; exact ⟨rfl, by simp only; omega⟩
      · rename_i hne
        have hj' : D[j] = enAt D j := by rw [enAt, List.getD_eq_getElem?_getD, List.getElem?_eq_getElem hj]; rfl
        rw [hj']
        have hkne : (enAt D j).1 ≠ p := fun e => hne (h.uniq hf hj (by rw [hk, e]))
        rw [bump, if_neg hkne]
        exact h.val _ (enAt_mem hj)
    · have : q ∈ (D.set (fi D p) (p, c p + 1)).map (·.1) := by
        rw [hkeys]
        by_cases e : q = p
        · subst e
          exact List.mem_map.2 ⟨_, enAt_mem hf, hk⟩
        · rw [bump, if_neg e] at hq
          obtain ⟨e, he, h'⟩ := h.all q hq
          exact List.mem_map.2 ⟨e, he, h'⟩
      obtain ⟨e, he, h'⟩ := List.mem_map.1 this
      exact ⟨e, he, h'⟩
  · rename_i hf
    have hno := fi_none hf
    have hc0 : c p = 0 := by
      by_cases h1 : 1 ≤ c p
      · obtain ⟨e, he, h'⟩ := h.all p h1
        exact absurd h' (hno e he)
      · omega
    refine ⟨?_, fun e he => ?_, fun q hq => ?_⟩
    · rw [List.map_append, List.nodup_append]
      refine ⟨h.nodup, by simp, fun a ha b hb => ?_⟩
      obtain ⟨e, he, rfl⟩ := List.mem_map.1 ha
      rw [List.map_singleton, List.mem_singleton] at hb
      subst hb
      exact hno e he
    · rcases List.mem_append.1 he with he | he
      · rw [bump, if_neg (hno e he)]; exact h.val e he
      · rw [List.mem_singleton] at he
        subst he
        rw [bump, if_pos rfl, hc0]
        exact ⟨rfl, Int.le_refl _⟩
    · by_cases e : q = p
      · subst e
        exact ⟨_, List.mem_append.2 (.inr List.mem_cons_self), rfl⟩
      · rw [bump, if_neg e] at hq
        obtain ⟨e, he, h'⟩ := h.all q hq
        exact ⟨e, List.mem_append.2 (.inl he), h'⟩
theorem tal_tal (l : List De) (hl : l.length ≤ 1000000) : Tal (tal l) (cN l) := by
  induction l using snoc_ind with
  | h0 => exact ⟨List.nodup_nil, fun e h => (by cases h), fun p h => (by rw [cN_nil] at h; omega)⟩
  | h1 l d ih =>
    rw [List.length_append, List.length_singleton] at hl
    rw [tal_snoc, cN_snoc]
    have := cN_le l d.pl
    exact (ih (by omega)).add ⟨this.1, by omega⟩
theorem addE_len (D : Ens) (p : Pc) : (addE D p).length ≤ D.length + 1 := by
  unfold addE; split <;> simp
theorem tal_len (l : List De) : (tal l).length ≤ l.length := by
  induction l using snoc_ind with
  | h0 => simp [tal]
  | h1 l d ih =>
    rw [tal_snoc, List.length_append, List.length_singleton]
    have := addE_len (tal l) d.pl
    omega
theorem addE_key {D : Ens} {p : Pc} {e : Pc × Int} (h : e ∈ addE D p) : e.1 = p ∨ ∃ e', e' ∈ D ∧ e.1 = e'.1 := by
  unfold addE at h
  split at h
  · rcases List.mem_or_eq_of_mem_set h with h | h
    · exact .inr ⟨e, h, rfl⟩
    · exact .inl (by rw [h])
  · rcases List.mem_append.1 h with h | h
    · exact .inr ⟨e, h, rfl⟩
    · rw [List.mem_singleton] at h
      exact .inl (by rw [h])
theorem tal_key (l : List De) : ∀ e, e ∈ tal l → ∃ d, d ∈ l ∧ e.1 = d.pl := by
  induction l using snoc_ind with
  | h0 => intro e h; cases h
  | h1 l d ih =>
    intro e h
    rw [tal_snoc] at h
    rcases addE_key h with h | ⟨e', h1, h2⟩
    · exact ⟨d, List.mem_append.2 (.inr List.mem_cons_self), h⟩
    · obtain ⟨d', hd, h3⟩ := ih e' h1
      exact ⟨d', List.mem_append.2 (.inl hd), by rw [h2, h3]⟩
/-- The tallies of a map's sorted keys. -/
def taE (D : Ens) (p : Pc) : Ta := ⟨p.t, p.c, p.f, valE D p⟩
theorem Tal.valE {D : Ens} {c : Pc → Int} (h : Tal D c) {p : Pc} (hp : p ∈ D.map (·.1)) : fi D p < D.length ∧ valE D p = c p ∧ 1 ≤ valE D p := by
  have hf : fi D p < D.length := by
    refine Classical.byContradiction fun hn => ?_
    obtain ⟨e, he, h'⟩ := List.mem_map.1 hp
    exact fi_none hn e he h'
  have := h.val _ (enAt_mem hf)
  rw [fi_key hf] at this
  exact ⟨hf, this⟩
theorem Tal.rep {D : Ens} {c : Pc → Int} (h : Tal D c) {ks : List Pc} (hp : ks.Perm (D.map (·.1))) (hs : ks.Pairwise fun a b => ltP b a = false) : Rep (ks.map (taE D)) c := by
  have hnd : ks.Nodup := hp.nodup_iff.2 h.nodup
  refine ⟨?_, fun x hx => ?_, fun p hq => ?_⟩
  · rw [List.pairwise_map]
    refine (List.Pairwise.and hs hnd).imp fun {a b} hab => ?_
    show ltP a b = true
    cases hlt : ltP a b with
    | true => rfl
    | false => exact absurd (ltP_tri hlt hab.1) hab.2
  · obtain ⟨p, hpk, rfl⟩ := List.mem_map.1 hx
    exact (h.valE (hp.mem_iff.1 hpk)).2
  · obtain ⟨e, he, rfl⟩ := h.all p hq
    exact ⟨taE D e.1, List.mem_map.2 ⟨e.1, hp.mem_iff.2 (List.mem_map.2 ⟨e, he, rfl⟩), rfl⟩, rfl⟩
theorem tal_cnt {l : List De} (hl : l.length ≤ 1000000) {ks : List Pc} (hp : ks.Perm ((tal l).map (·.1))) (hs : ks.Pairwise fun a b => ltP b a = false) : ks.map (taE (tal l)) = cnt l :=
  ((tal_tal l hl).rep hp hs).eq (cnt_rep l hl)
end Go.Proofs.Ytaaplpbjjnechaa
