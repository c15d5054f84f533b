/-
  THE SYMBOLIC LAYER, PART FF: contracts of functions that are handed two rows, of which one changes (and may move).
-/
import Derived.Test.YtaaplpbjjnechaaSymW
namespace Go.Sym
open Go.RowKit
set_option linter.unusedVariables false
set_option linter.unusedSimpArgs false

variable {P : Program}

theorem getD_toArray (xs : List Value) (j : Nat) : xs.toArray.getD j undef = xs.getD j undef := by
  simp [List.getD_eq_getElem?_getD]
theorem RelLK.app {K : Know} {a b : List C} {x y : List Value} (h1 : RelLK K a x.toArray) (h2 : RelLK K b y.toArray) : RelLK K (a ++ b) (x ++ y).toArray := by
  have l1 : x.length = a.length := by simpa using h1.1
  have l2 : y.length = b.length := by simpa using h2.1
  refine ⟨by simp [l1, l2], fun j hj => ?_⟩
  rw [getD_toArray]
  rw [List.length_append] at hj
  by_cases h : j < a.length
  · have := h1.2 j h
    rw [getD_toArray] at this
    simp only [List.getD_eq_getElem?_getD] at this ⊢
    rw [List.getElem?_append_left h, List.getElem?_append_left (by omega)]
    exact this
  · have := h2.2 (j - a.length) (by omega)
    rw [getD_toArray] at this
    simp only [List.getD_eq_getElem?_getD] at this ⊢
    rw [List.getElem?_append_right (by omega), List.getElem?_append_right (by omega), l1]
    exact this
theorem RelLK.takes {K : Know} {a : List C} {x : List Value} (h : RelLK K a x.toArray) (k : Nat) : RelLK K (a.take k) (x.take k).toArray := by
  have l1 : x.length = a.length := by simpa using h.1
  refine ⟨by simp [l1], fun j hj => ?_⟩
  rw [List.length_take] at hj
  have := h.2 j (by omega)
  rw [getD_toArray] at this ⊢
  simp only [List.getD_eq_getElem?_getD] at this ⊢
  rw [List.getElem?_take_of_lt (by omega), List.getElem?_take_of_lt (by omega)]
  exact this
theorem RelLK.drops {K : Know} {a : List C} {x : List Value} (h : RelLK K a x.toArray) (k : Nat) : RelLK K (a.drop k) (x.drop k).toArray := by
  have l1 : x.length = a.length := by simpa using h.1
  refine ⟨by simp [l1], fun j hj => ?_⟩
  rw [List.length_drop] at hj
  have := h.2 (k + j) (by omega)
  rw [getD_toArray] at this ⊢
  simp only [List.getD_eq_getElem?_getD] at this ⊢
  rw [List.getElem?_drop, List.getElem?_drop]
  exact this
theorem flatten_take {sz : Nat} : ∀ (css : List (List C)) (i : Nat), (∀ c, c ∈ css → c.length = sz) → (css.take i).flatten = css.flatten.take (i * sz)
  | [], i, _ => by simp
  | c :: css, 0, _ => by simp
  | c :: css, i + 1, h => by
    have hc := h c List.mem_cons_self
    rw [List.take_succ_cons, List.flatten_cons, List.flatten_cons, flatten_take css i fun d hd => h d (List.mem_cons_of_mem _ hd), List.take_append, hc,
      List.take_of_length_le (l := c) (by rw [hc, Nat.add_mul]; omega), show (i + 1) * sz - sz = i * sz by rw [Nat.add_mul]; omega]
theorem flatten_drop {sz : Nat} : ∀ (css : List (List C)) (i : Nat), (∀ c, c ∈ css → c.length = sz) → (css.drop i).flatten = css.flatten.drop (i * sz)
  | [], i, _ => by simp
  | c :: css, 0, _ => by simp
  | c :: css, i + 1, h => by
    have hc := h c List.mem_cons_self
    rw [List.drop_succ_cons, List.flatten_cons, flatten_drop css i fun d hd => h d (List.mem_cons_of_mem _ hd), List.drop_append, hc,
      List.drop_of_length_le (l := c) (by rw [hc, Nat.add_mul]; omega), show (i + 1) * sz - sz = i * sz by rw [Nat.add_mul]; omega, List.nil_append]
theorem rel_ins {K : Know} {css : List (List C)} {cx : List C} {xs ys : List Value} {i sz : Nat} (hl : ∀ c, c ∈ css → c.length = sz) (h1 : RelLK K css.flatten xs.toArray) (h2 : RelLK K cx ys.toArray) :
    RelLK K (css.take i ++ cx :: css.drop i).flatten (xs.take (i * sz) ++ ys ++ xs.drop (i * sz)).toArray := by
  rw [List.flatten_append, List.flatten_cons, flatten_take css i hl, flatten_drop css i hl, List.append_assoc]
  exact (h1.takes _).app (h2.app (h1.drops _))

theorem own_row_in2 {E : Env} {w : World} {r e sz : Nat} {css : List (List C)} {m0 : List (Nat × MO)} {u : Value} (hm : (r, MO.row e sz css) ∈ m0) (hat : OwnAt E m0 w) (hu : Rel E (.row r css.length) u) :
    0 < sz ∧ (∀ c, c ∈ css → c.length = sz) ∧ E.rw r = some (u, css.length) ∧ ∃ xs, w.ownsRow 0 e sz u css.length xs ∧ RelLK E.K css.flatten xs.toArray := by
  obtain ⟨h1, h2, hd, xs, h3, h4, h5⟩ : MRel E w r (.row e sz css) := hat.mem r _ hm
  obtain ⟨hd', len, g1, g2, g3⟩ := hu
  rw [h3] at g1
  cases g1
  have := g3 rfl
  subst this
  exact ⟨h1, h2, h3, xs, h4, h5⟩

theorem own_row_out2 {hid : List Nat} {E : Env} {w w' : World} {r q e sz e2 sz2 : Nat} {css css' css2 : List (List C)} {u u' : Value} {xs' : List Value} (hK : Knows E.K w) (hat : OwnAt E [(r, .row e sz css), (q, .row e2 sz2 css2)] w) (hrq : q ≠ r) (hrw : E.rw r = some (u, css.length)) (hsz : 0 < sz) (hl : ∀ c, c ∈ css' → c.length = sz)
    (hg : w.grownBy w' u.ownBlock) (hown : w'.ownsRow 0 e sz u' css'.length xs') (hrel : RelLK E.K css'.flatten xs'.toArray) (hb : ∀ b, u'.ownBlock = some b → u.ownBlock = some b ∨ (w.heap.size ≤ b ∧ b < w'.heap.size)) (hh : hasN hid r = true) :
    OwnOut hid E [(r, .row e sz css'), (q, .row e2 sz2 css2)] w E.K (fun n => if n = r then some (u', css'.length) else E.rw n) w' := by
  have hblk : ∀ b, u.ownBlock = some b → E.holds r b := fun b h => .inr (.inr ⟨u, _, hrw, h⟩)
  have hne : ∀ b, b < w.heap.size → (∀ n, ¬ E.holds n b) → w'.heap[b]? = w.heap[b]? := fun b h1 h2 => hg.block b h1 fun e => h2 r (hblk b e.symm)
  have hholds : ∀ n b, (E.upd E.K (fun n => if n = r then some (u', css'.length) else E.rw n)).holds n b → E.holds n b ∨ (n = r ∧ w.heap.size ≤ b ∧ b < w'.heap.size) := fun n b h => by
    rcases h with h | h | ⟨hd, len, h, h'⟩
    · exact .inl (.inl h)
    · exact .inl (.inr (.inl h))
    · simp only [Env.upd] at h
      by_cases hn : n = r
      · subst hn
        rw [if_pos rfl] at h
        cases h
        rcases hb b h' with h | h
        · exact .inl (hblk b h)
        · exact .inr ⟨rfl, h⟩
      · rw [if_neg hn] at h
        exact .inl (.inr (.inr ⟨hd, len, h, h'⟩))
  refine
  { le := Know.le_refl _
    nk := fun b _ h => h
    know := fun b o h => by
      have h1 := hK b o h
      rw [hne b (Array.getElem?_eq_some_iff.1 h1).1 fun n hn => by have := (hat.place n b hn).1; rw [h] at this; cases this]
      exact h1
    same := fun n hn => ?_
    mem := fun n o h => ?_
    inj := fun n n' b h h' => by
      rcases hholds n b h with h1 | ⟨h1, h2, _⟩ <;> rcases hholds n' b h' with h3 | ⟨h3, h4, _⟩
      · exact hat.inj n n' b h1 h3
      · have := (hat.place n b h1).2; omega
      · have := (hat.place n' b h3).2; omega
      · rw [h1, h3]
    place := fun n b h => by
      rcases hholds n b h with h1 | ⟨h1, h2, h3⟩
      · have h2 := hat.place n b h1
        exact ⟨h2.1, Nat.lt_of_lt_of_le h2.2 hg.size, .inr ⟨n, h1⟩⟩
      · refine ⟨?_, h3, .inl h2⟩
        cases hk : E.K b with
        | none => rfl
        | some o => have := (Array.getElem?_eq_some_iff.1 (hK b o hk)).1; omega
    os := hg.os
    tape := hg.tape
    output := hg.output
    size := hg.size
    old := hne }
  · by_cases hr : n = r
    · subst hr
      rw [hn] at hh; cases hh
    · rw [if_neg hr]
  · simp only [List.mem_cons, List.not_mem_nil, or_false, Prod.mk.injEq] at h
    rcases h with ⟨rfl, rfl⟩ | ⟨rfl, rfl⟩
    · exact ⟨hsz, hl, u', xs', by simp [Env.upd], hown, hrel⟩
    · obtain ⟨g1, g2, hd, ys, g3, g4, g5⟩ : MRel E w n (.row e2 sz2 css2) := hat.mem n _ (List.mem_cons_of_mem _ List.mem_cons_self)
      refine ⟨g1, g2, hd, ys, by simp [Env.upd, hrq, g3], g4.kept hg ?_, g5⟩
      cases hv : hd.ownBlock with
      | none => exact .inl rfl
      | some b =>
        refine .inr fun heq => hrq (hat.inj n r b (.inr (.inr ⟨hd, _, g3, hv⟩)) (hblk b heq.symm))
end Go.Sym
