import Derived.Test.YtaaplpbjjnechaaT35G
import Derived.Test.YtaaplpbjjnechaaT35I
namespace Go.Proofs.Ytaaplpbjjnechaa
open Go.Sym
set_option linter.unusedVariables false
set_option linter.unusedSimpArgs false

/-! ### What the sort asks of the comparison -/
theorem ltcmp {p q : Pc} (hp : exB p = true) (hq : exB q = true) : cmpP p q < 0 ↔ ltP p q = true := (cmp_lt hp hq).1
theorem ltP_ntr {a b c : Pc} (h1 : ltP a b = false) (h2 : ltP b c = false) : ltP a c = false := by
  rw [Bool.eq_false_iff] at *
  rw [Ne, lt_iff] at *
  omega
/-- Two lists of the same places, each of them sorted. -/
theorem sorted_perm_eq : ∀ {a b : List Pc}, a.Perm b → a.Pairwise (fun x y => ltP y x = false) → b.Pairwise (fun x y => ltP y x = false) → a = b
  | [], b, hp, _, _ => (List.Perm.nil_eq hp)
  | x :: a, b, hp, ha, hb => by
    cases b with
    | nil => exact absurd hp.length_eq (by simp)
    | cons y b =>
      have h1 : ltP y x = false := by
        rcases List.mem_cons.1 (hp.mem_iff.2 List.mem_cons_self : y ∈ x :: a) with h | h
        · rw [h]; exact ltP_irrefl
        · exact List.rel_of_pairwise_cons ha h
      have h2 : ltP x y = false := by
        rcases List.mem_cons.1 (hp.mem_iff.1 List.mem_cons_self : x ∈ y :: b) with h | h
        · rw [h]; exact ltP_irrefl
        · exact List.rel_of_pairwise_cons hb h
      obtain rfl := ltP_tri h2 h1
      rw [sorted_perm_eq hp.cons_inv (List.Pairwise.of_cons ha) (List.Pairwise.of_cons hb)]
def decPc : List C → Pc
  | [.int _ a, .int _ b, .int _ c] => ⟨a, b, c⟩
  | _ => zPc
theorem dec_enc (p : Pc) : decPc (encPc p) = p := rfl
/-- A row of places in another order. -/
theorem perm_rowPc {css : List (List C)} {ks : List Pc} (h : css.Perm (rowPc ks)) : ∃ ks', ks'.Perm ks ∧ css = rowPc ks' := by
  refine ⟨css.map decPc, ?_, ?_⟩
  · have h1 := h.map decPc
    rw [rowPc, List.map_map, show (decPc ∘ encPc) = id from funext dec_enc, List.map_id] at h1
    exact h1
  · rw [rowPc, List.map_map]
    refine (List.map_id' css).symm.trans (List.map_congr_left fun c hc => ?_)
    obtain ⟨p, _, rfl⟩ := List.mem_map.1 (h.mem_iff.1 hc)
    rfl
end Go.Proofs.Ytaaplpbjjnechaa
