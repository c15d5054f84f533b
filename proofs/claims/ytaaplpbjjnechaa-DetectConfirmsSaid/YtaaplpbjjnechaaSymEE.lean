/-
  THE SYMBOLIC LAYER, PART EE: a list without an element, handed to a function: nil, or not.
-/
import Derived.Test.YtaaplpbjjnechaaSymU
import Derived.Test.YtaaplpbjjnechaaSymV
set_option linter.unusedVariables false
namespace Go.Sym
open Go.RowKit
variable {P : Program}

theorem rel_lst0 {K : Know} {sz : Nat} {f : Nat → List C} {u : Value} (h : RelK K (.lst sz 0 f) u) : (u = .slice none 0 0 ∧ RelK K .nil u) ∨ ∃ a cp, u = .slice (some a) 0 cp ∧ RelK K (.lit (.slice (some a) 0 cp)) u := by
  cases h with
  | lst0 => exact .inl ⟨rfl, .nil⟩
  | lst1 _ _ a => exact .inr ⟨a, 0, rfl, .lit _ rfl⟩
  | lst _ _ _ b off cap arr T fz g hK hg hl hr ho hcap => exact .inr ⟨⟨b, off, none⟩, cap, rfl, .lit _ rfl⟩

theorem getD_mid2 {α : Type} (pre post : List α) (x y d : α) (j : Nat) : (pre ++ x :: post).getD j d = if j = pre.length then x else (pre ++ y :: post).getD j d := by
  simp only [List.getD_eq_getElem?_getD]
  by_cases h : j = pre.length
  · subst h; simp
  · rw [if_neg h]
    by_cases h2 : j < pre.length
    · rw [List.getElem?_append_left h2, List.getElem?_append_left h2]
    · rw [List.getElem?_append_right (by omega), List.getElem?_append_right (by omega)]
      obtain ⟨k, hk⟩ : ∃ k, j - pre.length = k + 1 := ⟨j - pre.length - 1, by omega⟩
      rw [hk]; rfl

theorem FCall.split {f : FuncId} {r : SB} (pre post : List CV) (sz : Nat) (fn : Nat → List C) (h0 : FCall P f (pre ++ .c .nil :: post) r)
    (h1 : ∀ a cp, FCall P f (pre ++ .c (.lit (.slice (some a) 0 cp)) :: post) r) : FCall P f (pre ++ .c (.lst sz 0 fn) :: post) r := by
  refine ⟨h0.1, fun K w vs hK hsz hrel => ?_⟩
  have hp := hrel pre.length (by simp)
  have hpe : (pre ++ CV.c (.lst sz 0 fn) :: post).getD pre.length (.c .junk) = .c (.lst sz 0 fn) := by simp [List.getD_eq_getElem?_getD]
  rw [hpe] at hp
  have key : ∀ c, RelCVK K (.c c) (vs.getD pre.length undef) → ∀ j, j < (pre ++ CV.c c :: post).length → RelCVK K ((pre ++ CV.c c :: post).getD j (.c .junk)) (vs.getD j undef) := fun c hcv j hj => by
    rw [getD_mid2 pre post _ (.c (.lst sz 0 fn))]
    by_cases h : j = pre.length
    · rw [if_pos h, h]; exact hcv
    · rw [if_neg h]
      refine hrel j ?_
      simp only [List.length_append, List.length_cons] at hj ⊢
      omega
  rcases rel_lst0 hp.1 with ⟨_, h⟩ | ⟨a, cp, _, h⟩
  · exact h0.2 K w vs hK (by simpa using hsz) (key _ ⟨h, hp.2⟩)
  · exact (h1 a cp).2 K w vs hK (by simpa using hsz) (key _ ⟨h, hp.2⟩)

theorem FOwn.split {f : FuncId} {r : SB} {hid : List Nat} {m0 m1 : List (Nat × MO)} (pre post : List CV) (sz : Nat) (fn : Nat → List C) (h0 : FOwn P f hid (pre ++ .c .nil :: post) m0 r m1)
    (h1 : ∀ a cp, FOwn P f hid (pre ++ .c (.lit (.slice (some a) 0 cp)) :: post) m0 r m1) : FOwn P f hid (pre ++ .c (.lst sz 0 fn) :: post) m0 r m1 := by
  refine ⟨h0.1, fun E w vs hK hm hsz hrel => ?_⟩
  have hp := hrel pre.length (by simp)
  have hpe : (pre ++ CV.c (.lst sz 0 fn) :: post).getD pre.length (.c .junk) = .c (.lst sz 0 fn) := by simp [List.getD_eq_getElem?_getD]
  rw [hpe] at hp
  have key : ∀ c, RelCV E (.c c) (vs.getD pre.length undef) → ∀ j, j < (pre ++ CV.c c :: post).length → RelCV E ((pre ++ CV.c c :: post).getD j (.c .junk)) (vs.getD j undef) := fun c hcv j hj => by
    rw [getD_mid2 pre post _ (.c (.lst sz 0 fn))]
    by_cases h : j = pre.length
    · rw [if_pos h, h]; exact hcv
    · rw [if_neg h]
      refine hrel j ?_
      simp only [List.length_append, List.length_cons] at hj ⊢
      omega
  rcases rel_lst0 hp.1 with ⟨_, h⟩ | ⟨a, cp, _, h⟩
  · exact h0.2 E w vs hK hm (by simpa using hsz) (key _ ⟨h, hp.2⟩)
  · exact (h1 a cp).2 E w vs hK hm (by simpa using hsz) (key _ ⟨h, hp.2⟩)
end Go.Sym
