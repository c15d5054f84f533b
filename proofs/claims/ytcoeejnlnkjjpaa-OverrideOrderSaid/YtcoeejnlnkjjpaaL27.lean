/- The five laws of the overrides each return true for every input, and leave their arguments as they were. Conditions: none beyond the rows' own. -/
import Derived.Test.YtcoeejnlnkjjpaaT27L
import Derived.Test.YtcoeejnlnkjjpaaSymT
import Derived.Test.YtcoeejnlnkjjpaaRows
import Derived.WalkKit
import Derived.ProofKit
import Derived.JoinedOf
namespace Go.Proofs.Ytcoeejnlnkjjpaa
open Go.Sym Go.RowKit
set_option linter.unusedVariables false
set_option linter.unusedSimpArgs false

theorem own : ownKnob Try.prog.godebug = none := by kernel_rfl
theorem laidOut : laidOutB Try.prog = true := by kernel_rfl

def shI : Sh := .int .i64
def shOv : Sh := .cat shI (.cat shI (.cat shI (.cat shI (.cat shI (.cat shI (.cat shI .nil))))))
theorem ov_of {cs : List C} (h : shOv.ok cs) : ∃ o : Ov, cs = encOv o := by
  obtain ⟨_, _, rfl, ⟨a, rfl, _⟩, _, _, rfl, ⟨b, rfl, _⟩, _, _, rfl, ⟨c, rfl, _⟩, _, _, rfl, ⟨d, rfl, _⟩, _, _, rfl, ⟨e, rfl, _⟩, _, _, rfl, ⟨f, rfl, _⟩, _, _, rfl, ⟨g, rfl, _⟩, rfl⟩ := h
  exact ⟨⟨a, b, c, d, e, f, g⟩, rfl⟩
theorem lst_ov {cs : List C} (h : (Sh.sl 7 shOv).ok cs) : ∃ (l : List Ov) (f : Nat → List C), cs = [.lst 7 l.length f] ∧ l.length ≤ maxLen ∧ ∀ i, i < l.length → f i = elOv l i := lst_of (z := zOv) (fun _ _ => rfl) (fun _ h => ov_of h) h

theorem law3 (css : List (List C)) (h : argsOk [.sl 7 shOv, shI, shI, shI, shI] css) : FCall Try.prog 3 (argCVs Try.prog Try.f3.params.toList css) (.v (.c (.bool true))) := by
  obtain ⟨_, _, rfl, h1, k1⟩ := argsOk_cons h
  obtain ⟨_, _, rfl, ⟨t, rfl, _⟩, k2⟩ := argsOk_cons k1
  obtain ⟨_, _, rfl, ⟨p, rfl, _⟩, k3⟩ := argsOk_cons k2
  obtain ⟨_, _, rfl, ⟨u, rfl, _⟩, k4⟩ := argsOk_cons k3
  obtain ⟨_, _, rfl, ⟨m, rfl, _⟩, k5⟩ := argsOk_cons k4
  obtain rfl := argsOk_nil k5
  obtain ⟨l, f, rfl, _, hf⟩ := lst_ov h1
  rw [show argCVs Try.prog Try.f3.params.toList [[.lst 7 l.length f], [.int .i64 t], [.int .i64 p], [.int .i64 u], [.int .i64 m]] = [.c (.lst 7 l.length f), vI t, vI p, vI u, vI m] by kernel_rfl]
  exact (f3 l t p u m).of_le ⟨CVle.lst hf, CVle.refl _, CVle.refl _, CVle.refl _, CVle.refl _, trivial⟩
theorem lifted3 (os : Os) (started : os.Started) (H : Type) (enc : TypeId × Value → H) :
    ReturnsInHanded {} Try.checked os 3 .any (Rows.overrideMatchesReferenceSpec.pre6 enc Try.prog Try.f3 Rows.overrideMatchesReferenceRow.domain false) (Rows.overrideMatchesReferenceSpec.post enc Try.prog Try.f3 false true false false) := by
  refine returnsInHanded_of_change (C := Try.checked) own started (by kernel_rfl) Try.func3
    (ChangeSpec.witness6 (enc := enc) (C := Try.checked) false ⟨#[], #[.slice none 0 0, .int .i64 0, .int .i64 0, .int .i64 0, .int .i64 0], []⟩ 8 (by kernel_rfl) (by kernel_rfl) (by kernel_rfl) (by kernel_rfl)) ?_
  intro W base args ds gs before hval hW _ _
  exact law_contract (C := Try.checked) (tb := 4) rfl (fun H ds hd => by
    match ds, hd with
    | [_, _, _, _, _], _ => rfl) laidOut (by kernel_rfl) (by kernel_rfl) (by kernel_rfl) (ss := [.sl 7 shOv, shI, shI, shI, shI]) (by kernel_rfl) law3 W base args ds gs before hval hW
theorem overrideMatchesReference_holds : Rows.OverrideMatchesReferenceSaid :=
  OpenClaim.holds_of_wide 3 Try.f3 rfl rfl rfl rfl rfl rfl rfl ⟨rfl, rfl, rfl, rfl, rfl⟩ rfl rfl rfl rfl rfl (by kernel_rfl) Try.func3 (by kernel_rfl)
    (of_decide_eq_true (by kernel_rfl)) (by unfold Func.isWrapper; first | (rw [if_pos (by decide +kernel)]; kernel_rfl) | (rw [if_neg (by decide +kernel)]; exact ⟨rfl, rfl⟩))
    (fun os started H enc _ => lifted3 os started H enc)

theorem law4 (css : List (List C)) (h : argsOk [.sl 7 shOv, shOv, shI] css) : FCall Try.prog 4 (argCVs Try.prog Try.f4.params.toList css) (.v (.c (.bool true))) := by
  obtain ⟨_, _, rfl, h1, k1⟩ := argsOk_cons h
  obtain ⟨_, _, rfl, h2, k2⟩ := argsOk_cons k1
  obtain ⟨o, rfl⟩ := ov_of h2
  obtain ⟨_, _, rfl, ⟨m, rfl, _⟩, k3⟩ := argsOk_cons k2
  obtain rfl := argsOk_nil k3
  obtain ⟨l, f, rfl, _, hf⟩ := lst_ov h1
  rw [show argCVs Try.prog Try.f4.params.toList [[.lst 7 l.length f], encOv o, [.int .i64 m]] = [.c (.lst 7 l.length f), .agg (encOv o), vI m] by kernel_rfl]
  exact (f4 l o m).of_le ⟨CVle.lst hf, CVle.refl _, CVle.refl _, trivial⟩
theorem lifted4 (os : Os) (started : os.Started) (H : Type) (enc : TypeId × Value → H) :
    ReturnsInHanded {} Try.checked os 4 .any (Rows.overrideActiveSpec.pre6 enc Try.prog Try.f4 Rows.overrideActiveRow.domain false) (Rows.overrideActiveSpec.post enc Try.prog Try.f4 false true false false) := by
  refine returnsInHanded_of_change (C := Try.checked) own started (by kernel_rfl) Try.func4
    (ChangeSpec.witness6 (enc := enc) (C := Try.checked) false ⟨#[], #[.slice none 0 0, .agg #[.int .i64 0, .int .i64 0, .int .i64 0, .int .i64 0, .int .i64 0, .int .i64 0, .int .i64 0], .int .i64 0], []⟩ 8 (by kernel_rfl) (by kernel_rfl) (by kernel_rfl) (by kernel_rfl)) ?_
  intro W base args ds gs before hval hW _ _
  exact law_contract (C := Try.checked) (tb := 4) rfl (fun H ds hd => by
    match ds, hd with
    | [_, _, _], _ => rfl) laidOut (by kernel_rfl) (by kernel_rfl) (by kernel_rfl) (ss := [.sl 7 shOv, shOv, shI]) (by kernel_rfl) law4 W base args ds gs before hval hW
theorem overrideActive_holds : Rows.OverrideActiveSaid :=
  OpenClaim.holds_of_wide 4 Try.f4 rfl rfl rfl rfl rfl rfl rfl ⟨rfl, rfl, rfl, rfl, rfl⟩ rfl rfl rfl rfl rfl (by kernel_rfl) Try.func4 (by kernel_rfl)
    (of_decide_eq_true (by kernel_rfl)) (by unfold Func.isWrapper; first | (rw [if_pos (by decide +kernel)]; kernel_rfl) | (rw [if_neg (by decide +kernel)]; exact ⟨rfl, rfl⟩))
    (fun os started H enc _ => lifted4 os started H enc)

theorem law5 (css : List (List C)) (h : argsOk [.sl 7 shOv, shI, shI, shI, shI] css) : FCall Try.prog 5 (argCVs Try.prog Try.f5.params.toList css) (.v (.c (.bool true))) := by
  obtain ⟨_, _, rfl, h1, k1⟩ := argsOk_cons h
  obtain ⟨_, _, rfl, ⟨t, rfl, _⟩, k2⟩ := argsOk_cons k1
  obtain ⟨_, _, rfl, ⟨p, rfl, _⟩, k3⟩ := argsOk_cons k2
  obtain ⟨_, _, rfl, ⟨u, rfl, _⟩, k4⟩ := argsOk_cons k3
  obtain ⟨_, _, rfl, ⟨m, rfl, _⟩, k5⟩ := argsOk_cons k4
  obtain rfl := argsOk_nil k5
  obtain ⟨l, f, rfl, _, hf⟩ := lst_ov h1
  rw [show argCVs Try.prog Try.f5.params.toList [[.lst 7 l.length f], [.int .i64 t], [.int .i64 p], [.int .i64 u], [.int .i64 m]] = [.c (.lst 7 l.length f), vI t, vI p, vI u, vI m] by kernel_rfl]
  exact (f5 l t p u m).of_le ⟨CVle.lst hf, CVle.refl _, CVle.refl _, CVle.refl _, CVle.refl _, trivial⟩
theorem lifted5 (os : Os) (started : os.Started) (H : Type) (enc : TypeId × Value → H) :
    ReturnsInHanded {} Try.checked os 5 .any (Rows.overrideExcludesSpec.pre6 enc Try.prog Try.f5 Rows.overrideExcludesRow.domain false) (Rows.overrideExcludesSpec.post enc Try.prog Try.f5 false true false false) := by
  refine returnsInHanded_of_change (C := Try.checked) own started (by kernel_rfl) Try.func5
    (ChangeSpec.witness6 (enc := enc) (C := Try.checked) false ⟨#[], #[.slice none 0 0, .int .i64 0, .int .i64 0, .int .i64 0, .int .i64 0], []⟩ 8 (by kernel_rfl) (by kernel_rfl) (by kernel_rfl) (by kernel_rfl)) ?_
  intro W base args ds gs before hval hW _ _
  exact law_contract (C := Try.checked) (tb := 4) rfl (fun H ds hd => by
    match ds, hd with
    | [_, _, _, _, _], _ => rfl) laidOut (by kernel_rfl) (by kernel_rfl) (by kernel_rfl) (ss := [.sl 7 shOv, shI, shI, shI, shI]) (by kernel_rfl) law5 W base args ds gs before hval hW
theorem overrideExcludes_holds : Rows.OverrideExcludesSaid :=
  OpenClaim.holds_of_wide 5 Try.f5 rfl rfl rfl rfl rfl rfl rfl ⟨rfl, rfl, rfl, rfl, rfl⟩ rfl rfl rfl rfl rfl (by kernel_rfl) Try.func5 (by kernel_rfl)
    (of_decide_eq_true (by kernel_rfl)) (by unfold Func.isWrapper; first | (rw [if_pos (by decide +kernel)]; kernel_rfl) | (rw [if_neg (by decide +kernel)]; exact ⟨rfl, rfl⟩))
    (fun os started H enc _ => lifted5 os started H enc)

theorem law6 (css : List (List C)) (h : argsOk [.sl 7 shOv, shOv, shI, shI, shI, shI] css) : FCall Try.prog 6 (argCVs Try.prog Try.f6.params.toList css) (.v (.c (.bool true))) := by
  obtain ⟨_, _, rfl, h1, k1⟩ := argsOk_cons h
  obtain ⟨_, _, rfl, h2, k2⟩ := argsOk_cons k1
  obtain ⟨o, rfl⟩ := ov_of h2
  obtain ⟨_, _, rfl, ⟨t, rfl, _⟩, k3⟩ := argsOk_cons k2
  obtain ⟨_, _, rfl, ⟨p, rfl, _⟩, k4⟩ := argsOk_cons k3
  obtain ⟨_, _, rfl, ⟨u, rfl, _⟩, k5⟩ := argsOk_cons k4
  obtain ⟨_, _, rfl, ⟨m, rfl, _⟩, k6⟩ := argsOk_cons k5
  obtain rfl := argsOk_nil k6
  obtain ⟨l, f, rfl, _, hf⟩ := lst_ov h1
  rw [show argCVs Try.prog Try.f6.params.toList [[.lst 7 l.length f], encOv o, [.int .i64 t], [.int .i64 p], [.int .i64 u], [.int .i64 m]] = [.c (.lst 7 l.length f), .agg (encOv o), vI t, vI p, vI u, vI m] by kernel_rfl]
  exact (f6 l o t p u m).of_le ⟨CVle.lst hf, CVle.refl _, CVle.refl _, CVle.refl _, CVle.refl _, CVle.refl _, trivial⟩
theorem lifted6 (os : Os) (started : os.Started) (H : Type) (enc : TypeId × Value → H) :
    ReturnsInHanded {} Try.checked os 6 .any (Rows.overrideFurtherSpec.pre6 enc Try.prog Try.f6 Rows.overrideFurtherRow.domain false) (Rows.overrideFurtherSpec.post enc Try.prog Try.f6 false true false false) := by
  refine returnsInHanded_of_change (C := Try.checked) own started (by kernel_rfl) Try.func6
    (ChangeSpec.witness6 (enc := enc) (C := Try.checked) false ⟨#[], #[.slice none 0 0, .agg #[.int .i64 0, .int .i64 0, .int .i64 0, .int .i64 0, .int .i64 0, .int .i64 0, .int .i64 0], .int .i64 0, .int .i64 0, .int .i64 0, .int .i64 0], []⟩ 8 (by kernel_rfl) (by kernel_rfl) (by kernel_rfl) (by kernel_rfl)) ?_
  intro W base args ds gs before hval hW _ _
  exact law_contract (C := Try.checked) (tb := 4) rfl (fun H ds hd => by
    match ds, hd with
    | [_, _, _, _, _, _], _ => rfl) laidOut (by kernel_rfl) (by kernel_rfl) (by kernel_rfl) (ss := [.sl 7 shOv, shOv, shI, shI, shI, shI]) (by kernel_rfl) law6 W base args ds gs before hval hW
theorem overrideFurther_holds : Rows.OverrideFurtherSaid :=
  OpenClaim.holds_of_wide 6 Try.f6 rfl rfl rfl rfl rfl rfl rfl ⟨rfl, rfl, rfl, rfl, rfl⟩ rfl rfl rfl rfl rfl (by kernel_rfl) Try.func6 (by kernel_rfl)
    (of_decide_eq_true (by kernel_rfl)) (by unfold Func.isWrapper; first | (rw [if_pos (by decide +kernel)]; kernel_rfl) | (rw [if_neg (by decide +kernel)]; exact ⟨rfl, rfl⟩))
    (fun os started H enc _ => lifted6 os started H enc)

theorem law7 (css : List (List C)) (h : argsOk [.sl 7 shOv, shI, shI, shI, shI, shI] css) : FCall Try.prog 7 (argCVs Try.prog Try.f7.params.toList css) (.v (.c (.bool true))) := by
  obtain ⟨_, _, rfl, h1, k1⟩ := argsOk_cons h
  obtain ⟨_, _, rfl, ⟨t, rfl, _⟩, k2⟩ := argsOk_cons k1
  obtain ⟨_, _, rfl, ⟨p, rfl, _⟩, k3⟩ := argsOk_cons k2
  obtain ⟨_, _, rfl, ⟨u, rfl, _⟩, k4⟩ := argsOk_cons k3
  obtain ⟨_, _, rfl, ⟨m, rfl, _⟩, k5⟩ := argsOk_cons k4
  obtain ⟨_, _, rfl, ⟨n, rfl, _⟩, k6⟩ := argsOk_cons k5
  obtain rfl := argsOk_nil k6
  obtain ⟨l, f, rfl, _, hf⟩ := lst_ov h1
  rw [show argCVs Try.prog Try.f7.params.toList [[.lst 7 l.length f], [.int .i64 t], [.int .i64 p], [.int .i64 u], [.int .i64 m], [.int .i64 n]] = [.c (.lst 7 l.length f), vI t, vI p, vI u, vI m, vI n] by kernel_rfl]
  exact (f7 l t p u m n).of_le ⟨CVle.lst hf, CVle.refl _, CVle.refl _, CVle.refl _, CVle.refl _, CVle.refl _, trivial⟩
theorem lifted7 (os : Os) (started : os.Started) (H : Type) (enc : TypeId × Value → H) :
    ReturnsInHanded {} Try.checked os 7 .any (Rows.overrideOrderSpec.pre6 enc Try.prog Try.f7 Rows.overrideOrderRow.domain false) (Rows.overrideOrderSpec.post enc Try.prog Try.f7 false true false false) := by
  refine returnsInHanded_of_change (C := Try.checked) own started (by kernel_rfl) Try.func7
    (ChangeSpec.witness6 (enc := enc) (C := Try.checked) false ⟨#[], #[.slice none 0 0, .int .i64 0, .int .i64 0, .int .i64 0, .int .i64 0, .int .i64 0], []⟩ 8 (by kernel_rfl) (by kernel_rfl) (by kernel_rfl) (by kernel_rfl)) ?_
  intro W base args ds gs before hval hW _ _
  exact law_contract (C := Try.checked) (tb := 4) rfl (fun H ds hd => by
    match ds, hd with
    | [_, _, _, _, _, _], _ => rfl) laidOut (by kernel_rfl) (by kernel_rfl) (by kernel_rfl) (ss := [.sl 7 shOv, shI, shI, shI, shI, shI]) (by kernel_rfl) law7 W base args ds gs before hval hW
theorem overrideOrder_holds : Rows.OverrideOrderSaid :=
  OpenClaim.holds_of_wide 7 Try.f7 rfl rfl rfl rfl rfl rfl rfl ⟨rfl, rfl, rfl, rfl, rfl⟩ rfl rfl rfl rfl rfl (by kernel_rfl) Try.func7 (by kernel_rfl)
    (of_decide_eq_true (by kernel_rfl)) (by unfold Func.isWrapper; first | (rw [if_pos (by decide +kernel)]; kernel_rfl) | (rw [if_neg (by decide +kernel)]; exact ⟨rfl, rfl⟩))
    (fun os started H enc _ => lifted7 os started H enc)

end Go.Proofs.Ytcoeejnlnkjjpaa
