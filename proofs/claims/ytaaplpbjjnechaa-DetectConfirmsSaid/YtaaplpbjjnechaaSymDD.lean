/-
  THE SYMBOLIC LAYER, PART DD: own rows that are known up to their order.
-/
import Derived.Test.YtaaplpbjjnechaaSymZ
namespace Go.Sym
open Go.RowKit

variable {P : Program}

/-- A contract for a row in each order is one for the row in an order that nobody knows. -/
theorem fown_bag {f : FuncId} {hid : List Nat} {args : List CV} {n e sz : Nat} {css : List (List C)} {r : SB} {m1 : List (Nat × MO)} (h : ∀ css', css'.Perm css → FOwn P f hid args [(n, .row e sz css')] r m1) :
    FOwn P f hid args [(n, .bag e sz css)] r m1 := by
  refine ⟨(h css (List.Perm.refl _)).1, fun E w vs hK hat hs hr => ?_⟩
  obtain ⟨css', hp, hrow⟩ : ∃ css' : List (List C), css'.Perm css ∧ MRel E w n (.row e sz css') := hat.mem n _ List.mem_cons_self
  refine (h css' hp).2 E w vs hK ⟨fun k o hk => ?_, hat.inj, hat.place, fun k b hk => ?_, fun k x hk => ?_, fun k b hk => ?_⟩ hs hr
  · simp only [List.mem_singleton, Prod.mk.injEq] at hk
    obtain ⟨rfl, rfl⟩ := hk
    exact hrow
  · obtain ⟨cs, h1 | h1⟩ := hat.cel k b hk <;> simp at h1
  · obtain ⟨o, h1, _⟩ := hat.rw k x hk
    simp only [List.mem_singleton, Prod.mk.injEq] at h1
    exact ⟨_, by rw [h1.1]; exact List.mem_singleton.2 rfl, rfl⟩
  · obtain ⟨kagg, agg, ents, h1⟩ := hat.mp k b hk
    simp at h1

/-- The order of a row is forgotten. -/
theorem wk_bag {s : S} (n e sz : Nat) (css css' : List (List C)) (hm : s.m[n]? = some (some (.row e sz css'))) (hp : css'.Perm css) : Wk P s { s with m := s.m.set n (some (.bag e sz css)) } := by
  intro B E a w hs
  have hc := hs.core
  have hne : ∀ {k : Nat} {o : MO}, s.m[k]? = some (some o) → (∀ c, o ≠ .row e sz c) → k ≠ n := fun h1 h2 e => by
    subst e
    rw [hm] at h1
    exact h2 css' (Option.some.inj (Option.some.inj h1)).symm
  refine ⟨E, ⟨{ hc with mem := fun k o hk => ?_, cel := fun k b hk => ?_, rw := fun k x hk => ?_, mp := fun k b hk => ?_ }, hs.size, hs.defers, hs.slot⟩, rfl, rfl, fun _ _ h => h⟩
  · by_cases hkn : k = n
    · subst hkn
      rw [getElem?_set_eq hm] at hk
      cases hk
      exact ⟨css', hp, hc.mem k _ hm⟩
    · rw [getElem?_set_ne hkn] at hk
      exact hc.mem k o hk
  · obtain ⟨cs, h1 | h1⟩ := hc.cel k b hk
    · exact ⟨cs, .inl (by rw [getElem?_set_ne (hne h1 (fun c h => by cases h))]; exact h1)⟩
    · exact ⟨cs, .inr (by rw [getElem?_set_ne (hne h1 (fun c h => by cases h))]; exact h1)⟩
  · by_cases hkn : k = n
    · subst hkn
      exact ⟨_, getElem?_set_eq hm, rfl⟩
    · obtain ⟨o, h1, h2⟩ := hc.rw k x hk
      exact ⟨o, by rw [getElem?_set_ne hkn]; exact h1, h2⟩
  · obtain ⟨kagg, agg, ents, h1⟩ := hc.mp k b hk
    exact ⟨kagg, agg, ents, by rw [getElem?_set_ne (hne h1 (fun c h => by cases h))]; exact h1⟩

end Go.Sym
