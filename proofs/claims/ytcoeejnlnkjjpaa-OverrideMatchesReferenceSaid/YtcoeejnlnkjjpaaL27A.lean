/- The law OverrideMatchesReference returns true for every input, and leaves its arguments as they were. Conditions: none beyond the row's own. -/
import Derived.Test.YtcoeejnlnkjjpaaT27J
import Derived.Test.YtcoeejnlnkjjpaaSymT
import Derived.Test.YtcoeejnlnkjjpaaRows
import Derived.WalkKit
import Derived.ProofKit
import Derived.JoinedOf
namespace Go.Proofs.Ytcoeejnlnkjjpaa
open Go.Sym Go.RowKit
set_option linter.unusedVariables false
set_option linter.unusedSimpArgs false

theorem own : ownKnob Try.prog.godebug = none := by kernel_rfl
theorem laidOut : laidOutB Try.prog = true := by kernel_rfl

def shI : Sh := .int .i64
def shOv : Sh := .cat shI (.cat shI (.cat shI (.cat shI (.cat shI (.cat shI (.cat shI .nil))))))
theorem ov_of {cs : List C} (h : shOv.ok cs) : ∃ o : Ov, cs = encOv o := by
  obtain ⟨_, _, rfl, ⟨a, rfl, _⟩, _, _, rfl, ⟨b, rfl, _⟩, _, _, rfl, ⟨c, rfl, _⟩, _, _, rfl, ⟨d, rfl, _⟩, _, _, rfl, ⟨e, rfl, _⟩, _, _, rfl, ⟨f, rfl, _⟩, _, _, rfl, ⟨g, rfl, _⟩, rfl⟩ := h
  exact ⟨⟨a, b, c, d, e, f, g⟩, rfl⟩
theorem lst_ov {cs : List C} (h : (Sh.sl 7 shOv).ok cs) : ∃ (l : List Ov) (f : Nat → List C), cs = [.lst 7 l.length f] ∧ l.length ≤ maxLen ∧ ∀ i, i < l.length → f i = elOv l i := lst_of (z := zOv) (fun _ _ => rfl) (fun _ h => ov_of h) h

theorem law3 (css : List (List C)) (h : argsOk [.sl 7 shOv, shI, shI, shI, shI] css) : FCall Try.prog 3 (argCVs Try.prog Try.f3.params.toList css) (.v (.c (.bool true))) := by
  obtain ⟨_, _, rfl, h1, k1⟩ := argsOk_cons h
  obtain ⟨_, _, rfl, ⟨t, rfl, _⟩, k2⟩ := argsOk_cons k1
  obtain ⟨_, _, rfl, ⟨p, rfl, _⟩, k3⟩ := argsOk_cons k2
  obtain ⟨_, _, rfl, ⟨u, rfl, _⟩, k4⟩ := argsOk_cons k3
  obtain ⟨_, _, rfl, ⟨m, rfl, _⟩, k5⟩ := argsOk_cons k4
  obtain rfl := argsOk_nil k5
  obtain ⟨l, f, rfl, _, hf⟩ := lst_ov h1
  rw [show argCVs Try.prog Try.f3.params.toList [[.lst 7 l.length f], [.int .i64 t], [.int .i64 p], [.int .i64 u], [.int .i64 m]] = [.c (.lst 7 l.length f), vI t, vI p, vI u, vI m] by kernel_rfl]
  exact (f3 l t p u m).of_le ⟨CVle.lst hf, CVle.refl _, CVle.refl _, CVle.refl _, CVle.refl _, trivial⟩

theorem lifted3 (os : Os) (started : os.Started) (H : Type) (enc : TypeId × Value → H) :
    ReturnsInHanded {} Try.checked os 3 .any (Rows.overrideMatchesReferenceSpec.pre6 enc Try.prog Try.f3 Rows.overrideMatchesReferenceRow.domain false) (Rows.overrideMatchesReferenceSpec.post enc Try.prog Try.f3 false true false false) := by
  refine returnsInHanded_of_change (C := Try.checked) own started (by kernel_rfl) Try.func3
    (ChangeSpec.witness6 (enc := enc) (C := Try.checked) false ⟨#[], #[.slice none 0 0, .int .i64 0, .int .i64 0, .int .i64 0, .int .i64 0], []⟩ 8 (by kernel_rfl) (by kernel_rfl) (by kernel_rfl) (by kernel_rfl)) ?_
  intro W base args ds gs before hval hW _ _
  exact law_contract (C := Try.checked) (tb := 4) rfl (fun H ds hd => by
    match ds, hd with
    | [_, _, _, _, _], _ => rfl) laidOut (by kernel_rfl) (by kernel_rfl) (by kernel_rfl) (ss := [.sl 7 shOv, shI, shI, shI, shI]) (by kernel_rfl) law3 W base args ds gs before hval hW

theorem overrideMatchesReference_holds : Rows.OverrideMatchesReferenceSaid :=
  OpenClaim.holds_of_wide 3 Try.f3 rfl rfl rfl rfl rfl rfl rfl ⟨rfl, rfl, rfl, rfl, rfl⟩ rfl rfl rfl rfl rfl (by kernel_rfl) Try.func3 (by kernel_rfl)
    (of_decide_eq_true (by kernel_rfl)) (by unfold Func.isWrapper; first | (rw [if_pos (by decide +kernel)]; kernel_rfl) | (rw [if_neg (by decide +kernel)]; exact ⟨rfl, rfl⟩))
    (fun os started H enc _ => lifted3 os started H enc)

end Go.Proofs.Ytcoeejnlnkjjpaa
