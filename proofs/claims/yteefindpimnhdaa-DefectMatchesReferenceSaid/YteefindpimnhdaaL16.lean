/- The six laws of the defects each return true for every input, and leave their arguments as they were. Conditions: none beyond the rows' own. -/
import Derived.Test.YteefindpimnhdaaT16O
import Derived.Test.YteefindpimnhdaaSymT
import Derived.Test.YteefindpimnhdaaRows
import Derived.WalkKit
import Derived.ProofKit
import Derived.JoinedOf
namespace Go.Proofs.Yteefindpimnhdaa
open Go.Sym Go.RowKit
set_option linter.unusedVariables false
set_option linter.unusedSimpArgs false

theorem own : ownKnob Try.prog.godebug = none := by kernel_rfl
theorem laidOut : laidOutB Try.prog = true := by kernel_rfl

def shI : Sh := .int .i64
def shDf : Sh := .cat shI (.cat shI (.cat shI (.cat shI (.cat shI .nil))))
theorem df_of {cs : List C} (h : shDf.ok cs) : ∃ o : Df, cs = encDf o := by
  obtain ⟨_, _, rfl, ⟨a, rfl, _⟩, _, _, rfl, ⟨b, rfl, _⟩, _, _, rfl, ⟨c, rfl, _⟩, _, _, rfl, ⟨d, rfl, _⟩, _, _, rfl, ⟨e, rfl, _⟩, rfl⟩ := h
  exact ⟨⟨a, b, c, d, e⟩, rfl⟩
theorem lst_df {cs : List C} (h : (Sh.sl 5 shDf).ok cs) : ∃ (l : List Df) (f : Nat → List C), cs = [.lst 5 l.length f] ∧ l.length ≤ maxLen ∧ ∀ i, i < l.length → f i = elDf l i := lst_of (z := zDf) (fun _ _ => rfl) (fun _ h => df_of h) h

theorem law3 (css : List (List C)) (h : argsOk [.sl 5 shDf, shI, shI, shI, shI, shI] css) : FCall Try.prog 3 (argCVs Try.prog Try.f3.params.toList css) (.v (.c (.bool true))) := by
  obtain ⟨_, _, rfl, h0, k1⟩ := argsOk_cons h
  obtain ⟨_, _, rfl, ⟨x1, rfl, _⟩, k2⟩ := argsOk_cons k1
  obtain ⟨_, _, rfl, ⟨x2, rfl, _⟩, k3⟩ := argsOk_cons k2
  obtain ⟨_, _, rfl, ⟨x3, rfl, _⟩, k4⟩ := argsOk_cons k3
  obtain ⟨_, _, rfl, ⟨x4, rfl, _⟩, k5⟩ := argsOk_cons k4
  obtain ⟨_, _, rfl, ⟨x5, rfl, _⟩, k6⟩ := argsOk_cons k5
  obtain rfl := argsOk_nil k6
  obtain ⟨l, f, rfl, _, hf⟩ := lst_df h0
  rw [show argCVs Try.prog Try.f3.params.toList [[.lst 5 l.length f], [.int .i64 x1], [.int .i64 x2], [.int .i64 x3], [.int .i64 x4], [.int .i64 x5]] = [.c (.lst 5 l.length f), vI x1, vI x2, vI x3, vI x4, vI x5] by kernel_rfl]
  exact (f3 l x1 x2 x3 x4 x5).of_le ⟨CVle.lst hf, CVle.refl _, CVle.refl _, CVle.refl _, CVle.refl _, CVle.refl _, trivial⟩
theorem lifted3 (os : Os) (started : os.Started) (H : Type) (enc : TypeId × Value → H) :
    ReturnsInHanded {} Try.checked os 3 .any (Rows.defectMatchesReferenceSpec.pre6 enc Try.prog Try.f3 Rows.defectMatchesReferenceRow.domain false) (Rows.defectMatchesReferenceSpec.post enc Try.prog Try.f3 false true false false) := by
  refine returnsInHanded_of_change (C := Try.checked) own started (by kernel_rfl) Try.func3
    (ChangeSpec.witness6 (enc := enc) (C := Try.checked) false ⟨#[], #[.slice none 0 0, .int .i64 0, .int .i64 0, .int .i64 0, .int .i64 0, .int .i64 0], []⟩ 8 (by kernel_rfl) (by kernel_rfl) (by kernel_rfl) (by kernel_rfl)) ?_
  intro W base args ds gs before hval hW _ _
  exact law_contract (C := Try.checked) (tb := 4) rfl (fun H ds hd => by
    match ds, hd with
    | [_, _, _, _, _, _], _ => rfl) laidOut (by kernel_rfl) (by kernel_rfl) (by kernel_rfl) (ss := [.sl 5 shDf, shI, shI, shI, shI, shI]) (by kernel_rfl) law3 W base args ds gs before hval hW
theorem defectMatchesReference_holds : Rows.DefectMatchesReferenceSaid :=
  OpenClaim.holds_of_wide 3 Try.f3 rfl rfl rfl rfl rfl rfl rfl ⟨rfl, rfl, rfl, rfl, rfl⟩ rfl rfl rfl rfl rfl (by kernel_rfl) Try.func3 (by kernel_rfl)
    (of_decide_eq_true (by kernel_rfl)) (by unfold Func.isWrapper; first | (rw [if_pos (by decide +kernel)]; kernel_rfl) | (rw [if_neg (by decide +kernel)]; exact ⟨rfl, rfl⟩))
    (fun os started H enc _ => lifted3 os started H enc)

theorem law4 (css : List (List C)) (h : argsOk [.sl 5 shDf, shI, shI, shI, shI] css) : FCall Try.prog 4 (argCVs Try.prog Try.f4.params.toList css) (.v (.c (.bool true))) := by
  obtain ⟨_, _, rfl, h0, k1⟩ := argsOk_cons h
  obtain ⟨_, _, rfl, ⟨x1, rfl, _⟩, k2⟩ := argsOk_cons k1
  obtain ⟨_, _, rfl, ⟨x2, rfl, _⟩, k3⟩ := argsOk_cons k2
  obtain ⟨_, _, rfl, ⟨x3, rfl, _⟩, k4⟩ := argsOk_cons k3
  obtain ⟨_, _, rfl, ⟨x4, rfl, _⟩, k5⟩ := argsOk_cons k4
  obtain rfl := argsOk_nil k5
  obtain ⟨l, f, rfl, _, hf⟩ := lst_df h0
  rw [show argCVs Try.prog Try.f4.params.toList [[.lst 5 l.length f], [.int .i64 x1], [.int .i64 x2], [.int .i64 x3], [.int .i64 x4]] = [.c (.lst 5 l.length f), vI x1, vI x2, vI x3, vI x4] by kernel_rfl]
  exact (f4 l x1 x2 x3 x4).of_le ⟨CVle.lst hf, CVle.refl _, CVle.refl _, CVle.refl _, CVle.refl _, trivial⟩
theorem lifted4 (os : Os) (started : os.Started) (H : Type) (enc : TypeId × Value → H) :
    ReturnsInHanded {} Try.checked os 4 .any (Rows.defectMasksSpec.pre6 enc Try.prog Try.f4 Rows.defectMasksRow.domain false) (Rows.defectMasksSpec.post enc Try.prog Try.f4 false true false false) := by
  refine returnsInHanded_of_change (C := Try.checked) own started (by kernel_rfl) Try.func4
    (ChangeSpec.witness6 (enc := enc) (C := Try.checked) false ⟨#[], #[.slice none 0 0, .int .i64 0, .int .i64 0, .int .i64 0, .int .i64 0], []⟩ 8 (by kernel_rfl) (by kernel_rfl) (by kernel_rfl) (by kernel_rfl)) ?_
  intro W base args ds gs before hval hW _ _
  exact law_contract (C := Try.checked) (tb := 4) rfl (fun H ds hd => by
    match ds, hd with
    | [_, _, _, _, _], _ => rfl) laidOut (by kernel_rfl) (by kernel_rfl) (by kernel_rfl) (ss := [.sl 5 shDf, shI, shI, shI, shI]) (by kernel_rfl) law4 W base args ds gs before hval hW
theorem defectMasks_holds : Rows.DefectMasksSaid :=
  OpenClaim.holds_of_wide 4 Try.f4 rfl rfl rfl rfl rfl rfl rfl ⟨rfl, rfl, rfl, rfl, rfl⟩ rfl rfl rfl rfl rfl (by kernel_rfl) Try.func4 (by kernel_rfl)
    (of_decide_eq_true (by kernel_rfl)) (by unfold Func.isWrapper; first | (rw [if_pos (by decide +kernel)]; kernel_rfl) | (rw [if_neg (by decide +kernel)]; exact ⟨rfl, rfl⟩))
    (fun os started H enc _ => lifted4 os started H enc)

theorem law5 (css : List (List C)) (h : argsOk [.sl 5 shDf, shI, shI, shI, shI] css) : FCall Try.prog 5 (argCVs Try.prog Try.f5.params.toList css) (.v (.c (.bool true))) := by
  obtain ⟨_, _, rfl, h0, k1⟩ := argsOk_cons h
  obtain ⟨_, _, rfl, ⟨x1, rfl, _⟩, k2⟩ := argsOk_cons k1
  obtain ⟨_, _, rfl, ⟨x2, rfl, _⟩, k3⟩ := argsOk_cons k2
  obtain ⟨_, _, rfl, ⟨x3, rfl, _⟩, k4⟩ := argsOk_cons k3
  obtain ⟨_, _, rfl, ⟨x4, rfl, _⟩, k5⟩ := argsOk_cons k4
  obtain rfl := argsOk_nil k5
  obtain ⟨l, f, rfl, _, hf⟩ := lst_df h0
  rw [show argCVs Try.prog Try.f5.params.toList [[.lst 5 l.length f], [.int .i64 x1], [.int .i64 x2], [.int .i64 x3], [.int .i64 x4]] = [.c (.lst 5 l.length f), vI x1, vI x2, vI x3, vI x4] by kernel_rfl]
  exact (f5 l x1 x2 x3 x4).of_le ⟨CVle.lst hf, CVle.refl _, CVle.refl _, CVle.refl _, CVle.refl _, trivial⟩
theorem lifted5 (os : Os) (started : os.Started) (H : Type) (enc : TypeId × Value → H) :
    ReturnsInHanded {} Try.checked os 5 .any (Rows.defectChangesSpec.pre6 enc Try.prog Try.f5 Rows.defectChangesRow.domain false) (Rows.defectChangesSpec.post enc Try.prog Try.f5 false true false false) := by
  refine returnsInHanded_of_change (C := Try.checked) own started (by kernel_rfl) Try.func5
    (ChangeSpec.witness6 (enc := enc) (C := Try.checked) false ⟨#[], #[.slice none 0 0, .int .i64 0, .int .i64 0, .int .i64 0, .int .i64 0], []⟩ 8 (by kernel_rfl) (by kernel_rfl) (by kernel_rfl) (by kernel_rfl)) ?_
  intro W base args ds gs before hval hW _ _
  exact law_contract (C := Try.checked) (tb := 4) rfl (fun H ds hd => by
    match ds, hd with
    | [_, _, _, _, _], _ => rfl) laidOut (by kernel_rfl) (by kernel_rfl) (by kernel_rfl) (ss := [.sl 5 shDf, shI, shI, shI, shI]) (by kernel_rfl) law5 W base args ds gs before hval hW
theorem defectChanges_holds : Rows.DefectChangesSaid :=
  OpenClaim.holds_of_wide 5 Try.f5 rfl rfl rfl rfl rfl rfl rfl ⟨rfl, rfl, rfl, rfl, rfl⟩ rfl rfl rfl rfl rfl (by kernel_rfl) Try.func5 (by kernel_rfl)
    (of_decide_eq_true (by kernel_rfl)) (by unfold Func.isWrapper; first | (rw [if_pos (by decide +kernel)]; kernel_rfl) | (rw [if_neg (by decide +kernel)]; exact ⟨rfl, rfl⟩))
    (fun os started H enc _ => lifted5 os started H enc)

theorem law6 (css : List (List C)) (h : argsOk [.sl 5 shDf, shI, shI, shI, shI, shI] css) : FCall Try.prog 6 (argCVs Try.prog Try.f6.params.toList css) (.v (.c (.bool true))) := by
  obtain ⟨_, _, rfl, h0, k1⟩ := argsOk_cons h
  obtain ⟨_, _, rfl, ⟨x1, rfl, _⟩, k2⟩ := argsOk_cons k1
  obtain ⟨_, _, rfl, ⟨x2, rfl, _⟩, k3⟩ := argsOk_cons k2
  obtain ⟨_, _, rfl, ⟨x3, rfl, _⟩, k4⟩ := argsOk_cons k3
  obtain ⟨_, _, rfl, ⟨x4, rfl, _⟩, k5⟩ := argsOk_cons k4
  obtain ⟨_, _, rfl, ⟨x5, rfl, _⟩, k6⟩ := argsOk_cons k5
  obtain rfl := argsOk_nil k6
  obtain ⟨l, f, rfl, _, hf⟩ := lst_df h0
  rw [show argCVs Try.prog Try.f6.params.toList [[.lst 5 l.length f], [.int .i64 x1], [.int .i64 x2], [.int .i64 x3], [.int .i64 x4], [.int .i64 x5]] = [.c (.lst 5 l.length f), vI x1, vI x2, vI x3, vI x4, vI x5] by kernel_rfl]
  exact (f6 l x1 x2 x3 x4 x5).of_le ⟨CVle.lst hf, CVle.refl _, CVle.refl _, CVle.refl _, CVle.refl _, CVle.refl _, trivial⟩
theorem lifted6 (os : Os) (started : os.Started) (H : Type) (enc : TypeId × Value → H) :
    ReturnsInHanded {} Try.checked os 6 .any (Rows.defectOrderSpec.pre6 enc Try.prog Try.f6 Rows.defectOrderRow.domain false) (Rows.defectOrderSpec.post enc Try.prog Try.f6 false true false false) := by
  refine returnsInHanded_of_change (C := Try.checked) own started (by kernel_rfl) Try.func6
    (ChangeSpec.witness6 (enc := enc) (C := Try.checked) false ⟨#[], #[.slice none 0 0, .int .i64 0, .int .i64 0, .int .i64 0, .int .i64 0, .int .i64 0], []⟩ 8 (by kernel_rfl) (by kernel_rfl) (by kernel_rfl) (by kernel_rfl)) ?_
  intro W base args ds gs before hval hW _ _
  exact law_contract (C := Try.checked) (tb := 4) rfl (fun H ds hd => by
    match ds, hd with
    | [_, _, _, _, _, _], _ => rfl) laidOut (by kernel_rfl) (by kernel_rfl) (by kernel_rfl) (ss := [.sl 5 shDf, shI, shI, shI, shI, shI]) (by kernel_rfl) law6 W base args ds gs before hval hW
theorem defectOrder_holds : Rows.DefectOrderSaid :=
  OpenClaim.holds_of_wide 6 Try.f6 rfl rfl rfl rfl rfl rfl rfl ⟨rfl, rfl, rfl, rfl, rfl⟩ rfl rfl rfl rfl rfl (by kernel_rfl) Try.func6 (by kernel_rfl)
    (of_decide_eq_true (by kernel_rfl)) (by unfold Func.isWrapper; first | (rw [if_pos (by decide +kernel)]; kernel_rfl) | (rw [if_neg (by decide +kernel)]; exact ⟨rfl, rfl⟩))
    (fun os started H enc _ => lifted6 os started H enc)

theorem law7 (css : List (List C)) (h : argsOk [.sl 5 shDf, shDf, shI, shI, shI] css) : FCall Try.prog 7 (argCVs Try.prog Try.f7.params.toList css) (.v (.c (.bool true))) := by
  obtain ⟨_, _, rfl, h0, k1⟩ := argsOk_cons h
  obtain ⟨_, _, rfl, h1, k2⟩ := argsOk_cons k1
  obtain ⟨x1, rfl⟩ := df_of h1
  obtain ⟨_, _, rfl, ⟨x2, rfl, _⟩, k3⟩ := argsOk_cons k2
  obtain ⟨_, _, rfl, ⟨x3, rfl, _⟩, k4⟩ := argsOk_cons k3
  obtain ⟨_, _, rfl, ⟨x4, rfl, _⟩, k5⟩ := argsOk_cons k4
  obtain rfl := argsOk_nil k5
  obtain ⟨l, f, rfl, _, hf⟩ := lst_df h0
  rw [show argCVs Try.prog Try.f7.params.toList [[.lst 5 l.length f], encDf x1, [.int .i64 x2], [.int .i64 x3], [.int .i64 x4]] = [.c (.lst 5 l.length f), .agg (encDf x1), vI x2, vI x3, vI x4] by kernel_rfl]
  exact (f7 l x1 x2 x3 x4).of_le ⟨CVle.lst hf, CVle.refl _, CVle.refl _, CVle.refl _, CVle.refl _, trivial⟩
theorem lifted7 (os : Os) (started : os.Started) (H : Type) (enc : TypeId × Value → H) :
    ReturnsInHanded {} Try.checked os 7 .any (Rows.defectFurtherSpec.pre6 enc Try.prog Try.f7 Rows.defectFurtherRow.domain false) (Rows.defectFurtherSpec.post enc Try.prog Try.f7 false true false false) := by
  refine returnsInHanded_of_change (C := Try.checked) own started (by kernel_rfl) Try.func7
    (ChangeSpec.witness6 (enc := enc) (C := Try.checked) false ⟨#[], #[.slice none 0 0, .agg #[.int .i64 0, .int .i64 0, .int .i64 0, .int .i64 0, .int .i64 0], .int .i64 0, .int .i64 0, .int .i64 0], []⟩ 8 (by kernel_rfl) (by kernel_rfl) (by kernel_rfl) (by kernel_rfl)) ?_
  intro W base args ds gs before hval hW _ _
  exact law_contract (C := Try.checked) (tb := 4) rfl (fun H ds hd => by
    match ds, hd with
    | [_, _, _, _, _], _ => rfl) laidOut (by kernel_rfl) (by kernel_rfl) (by kernel_rfl) (ss := [.sl 5 shDf, shDf, shI, shI, shI]) (by kernel_rfl) law7 W base args ds gs before hval hW
theorem defectFurther_holds : Rows.DefectFurtherSaid :=
  OpenClaim.holds_of_wide 7 Try.f7 rfl rfl rfl rfl rfl rfl rfl ⟨rfl, rfl, rfl, rfl, rfl⟩ rfl rfl rfl rfl rfl (by kernel_rfl) Try.func7 (by kernel_rfl)
    (of_decide_eq_true (by kernel_rfl)) (by unfold Func.isWrapper; first | (rw [if_pos (by decide +kernel)]; kernel_rfl) | (rw [if_neg (by decide +kernel)]; exact ⟨rfl, rfl⟩))
    (fun os started H enc _ => lifted7 os started H enc)

theorem law8 (css : List (List C)) (h : argsOk [.sl 5 shDf, shI, shI, shI, shI, shI] css) : FCall Try.prog 8 (argCVs Try.prog Try.f8.params.toList css) (.v (.c (.bool true))) := by
  obtain ⟨_, _, rfl, h0, k1⟩ := argsOk_cons h
  obtain ⟨_, _, rfl, ⟨x1, rfl, _⟩, k2⟩ := argsOk_cons k1
  obtain ⟨_, _, rfl, ⟨x2, rfl, _⟩, k3⟩ := argsOk_cons k2
  obtain ⟨_, _, rfl, ⟨x3, rfl, _⟩, k4⟩ := argsOk_cons k3
  obtain ⟨_, _, rfl, ⟨x4, rfl, _⟩, k5⟩ := argsOk_cons k4
  obtain ⟨_, _, rfl, ⟨x5, rfl, _⟩, k6⟩ := argsOk_cons k5
  obtain rfl := argsOk_nil k6
  obtain ⟨l, f, rfl, _, hf⟩ := lst_df h0
  rw [show argCVs Try.prog Try.f8.params.toList [[.lst 5 l.length f], [.int .i64 x1], [.int .i64 x2], [.int .i64 x3], [.int .i64 x4], [.int .i64 x5]] = [.c (.lst 5 l.length f), vI x1, vI x2, vI x3, vI x4, vI x5] by kernel_rfl]
  exact (f8 l x1 x2 x3 x4 x5).of_le ⟨CVle.lst hf, CVle.refl _, CVle.refl _, CVle.refl _, CVle.refl _, CVle.refl _, trivial⟩
theorem lifted8 (os : Os) (started : os.Started) (H : Type) (enc : TypeId × Value → H) :
    ReturnsInHanded {} Try.checked os 8 .any (Rows.defectBetweenSpec.pre6 enc Try.prog Try.f8 Rows.defectBetweenRow.domain false) (Rows.defectBetweenSpec.post enc Try.prog Try.f8 false true false false) := by
  refine returnsInHanded_of_change (C := Try.checked) own started (by kernel_rfl) Try.func8
    (ChangeSpec.witness6 (enc := enc) (C := Try.checked) false ⟨#[], #[.slice none 0 0, .int .i64 0, .int .i64 0, .int .i64 0, .int .i64 0, .int .i64 0], []⟩ 8 (by kernel_rfl) (by kernel_rfl) (by kernel_rfl) (by kernel_rfl)) ?_
  intro W base args ds gs before hval hW _ _
  exact law_contract (C := Try.checked) (tb := 4) rfl (fun H ds hd => by
    match ds, hd with
    | [_, _, _, _, _, _], _ => rfl) laidOut (by kernel_rfl) (by kernel_rfl) (by kernel_rfl) (ss := [.sl 5 shDf, shI, shI, shI, shI, shI]) (by kernel_rfl) law8 W base args ds gs before hval hW
theorem defectBetween_holds : Rows.DefectBetweenSaid :=
  OpenClaim.holds_of_wide 8 Try.f8 rfl rfl rfl rfl rfl rfl rfl ⟨rfl, rfl, rfl, rfl, rfl⟩ rfl rfl rfl rfl rfl (by kernel_rfl) Try.func8 (by kernel_rfl)
    (of_decide_eq_true (by kernel_rfl)) (by unfold Func.isWrapper; first | (rw [if_pos (by decide +kernel)]; kernel_rfl) | (rw [if_neg (by decide +kernel)]; exact ⟨rfl, rfl⟩))
    (fun os started H enc _ => lifted8 os started H enc)

end Go.Proofs.Yteefindpimnhdaa

