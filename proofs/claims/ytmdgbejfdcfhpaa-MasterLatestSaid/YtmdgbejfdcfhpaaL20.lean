/- The six laws of the master calibration and the median each return true for every input, and leave their arguments as they were. Conditions: none beyond the rows' own. -/
import Derived.Test.YtmdgbejfdcfhpaaT20O
import Derived.Test.YtmdgbejfdcfhpaaSymT
import Derived.Test.YtmdgbejfdcfhpaaRows
import Derived.WalkKit
import Derived.ProofKit
import Derived.JoinedOf
namespace Go.Proofs.Ytmdgbejfdcfhpaa
open Go.Sym Go.RowKit
set_option linter.unusedVariables false
set_option linter.unusedSimpArgs false

theorem own : ownKnob Try.prog.godebug = none := by kernel_rfl
theorem laidOut : laidOutB Try.prog = true := by kernel_rfl

def shCa : Sh := .cat (.cat (.int .i64) (.cat (.int .i64) (.cat (.int .i64) (.cat (.int .i64) .nil)))) (.cat (.int .i64) (.cat (.cat (.int .i64) (.cat (.int .i64) (.cat (.int .i64) (.cat (.int .i64) .nil)))) .nil))
theorem of_Ca {cs : List C} (h : shCa.ok cs) : ∃ x : Ca, cs = encCa x := by
  obtain ⟨_, _, rfl, ⟨_, _, rfl, ⟨x0, rfl, _⟩, _, _, rfl, ⟨x1, rfl, _⟩, _, _, rfl, ⟨x2, rfl, _⟩, _, _, rfl, ⟨x3, rfl, _⟩, rfl⟩, _, _, rfl, ⟨x4, rfl, _⟩, _, _, rfl, ⟨_, _, rfl, ⟨x5, rfl, _⟩, _, _, rfl, ⟨x6, rfl, _⟩, _, _, rfl, ⟨x7, rfl, _⟩, _, _, rfl, ⟨x8, rfl, _⟩, rfl⟩, rfl⟩ := h
  exact ⟨⟨x0, x1, x2, x3, x4, x5, x6, x7, x8⟩, rfl⟩
theorem lst_Ca {cs : List C} (h : (Sh.sl 9 shCa).ok cs) : ∃ (l : List Ca) (f : Nat → List C), cs = [.lst 9 l.length f] ∧ l.length ≤ maxLen ∧ ∀ i, i < l.length → f i = elCa l i := lst_of (z := zCa) (fun _ _ => rfl) (fun _ h => of_Ca h) h
theorem of_int {cs : List C} (h : (Sh.int .i64).ok cs) : ∃ x : Int, cs = [cI x] := by
  obtain ⟨x, rfl, _⟩ := h
  exact ⟨x, rfl⟩
theorem lst_int {cs : List C} (h : (Sh.sl 1 (.int .i64)).ok cs) : ∃ (l : List Int) (f : Nat → List C), cs = [.lst 1 l.length f] ∧ l.length ≤ maxLen ∧ ∀ i, i < l.length → f i = elI l i := lst_of (z := 0) (fun _ _ => rfl) (fun _ h => of_int h) h

theorem law3 (css : List (List C)) (h : argsOk [.sl 9 shCa, (.int .i64), (.int .i64), (.int .i64), (.int .i64), (.int .i64), .sl 1 (.int .i64)] css) : FCall Try.prog 3 (argCVs Try.prog Try.f3.params.toList css) (.v (.c (.bool true))) := by
  obtain ⟨_, _, rfl, h0, k1⟩ := argsOk_cons h
  obtain ⟨_, _, rfl, ⟨x1, rfl, b1⟩, k2⟩ := argsOk_cons k1
  obtain ⟨_, _, rfl, ⟨x2, rfl, b2⟩, k3⟩ := argsOk_cons k2
  obtain ⟨_, _, rfl, ⟨x3, rfl, b3⟩, k4⟩ := argsOk_cons k3
  obtain ⟨_, _, rfl, ⟨x4, rfl, b4⟩, k5⟩ := argsOk_cons k4
  obtain ⟨_, _, rfl, ⟨x5, rfl, b5⟩, k6⟩ := argsOk_cons k5
  obtain ⟨_, _, rfl, h6, k7⟩ := argsOk_cons k6
  obtain rfl := argsOk_nil k7
  obtain ⟨l0, f0, rfl, _, hf0⟩ := lst_Ca h0
  obtain ⟨l6, f6, rfl, _, hf6⟩ := lst_int h6
  rw [show argCVs Try.prog Try.f3.params.toList [[.lst 9 l0.length f0], [.int .i64 x1], [.int .i64 x2], [.int .i64 x3], [.int .i64 x4], [.int .i64 x5], [.lst 1 l6.length f6]] = [.c (.lst 9 l0.length f0), .c (.int .i64 x1), .c (.int .i64 x2), .c (.int .i64 x3), .c (.int .i64 x4), .c (.int .i64 x5), .c (.lst 1 l6.length f6)] by kernel_rfl]
  exact (f3 l0 x1 x2 x3 x4 x5 l6).of_le ⟨CVle.lst hf0, CVle.refl _, CVle.refl _, CVle.refl _, CVle.refl _, CVle.refl _, CVle.lst hf6, trivial⟩
theorem lifted3 (os : Os) (started : os.Started) (H : Type) (enc : TypeId × Value → H) :
    ReturnsInHanded {} Try.checked os 3 .any (Rows.masterMatchesReferenceSpec.pre6 enc Try.prog Try.f3 Rows.masterMatchesReferenceRow.domain false) (Rows.masterMatchesReferenceSpec.post enc Try.prog Try.f3 false true false false) := by
  refine returnsInHanded_of_change (C := Try.checked) own started (by kernel_rfl) Try.func3
    (ChangeSpec.witness6 (enc := enc) (C := Try.checked) false ⟨#[], #[.slice none 0 0, .int .i64 0, .int .i64 0, .int .i64 0, .int .i64 0, .int .i64 0, .slice none 0 0], []⟩ 8 (by kernel_rfl) (by kernel_rfl) (by kernel_rfl) (by kernel_rfl)) ?_
  intro W base args ds gs before hval hW _ _
  exact law_contract (C := Try.checked) (tb := 4) rfl (fun H ds hd => by
    match ds, hd with
    | [_, _, _, _, _, _, _], _ => rfl) laidOut (by kernel_rfl) (by kernel_rfl) (by kernel_rfl) (ss := [.sl 9 shCa, (.int .i64), (.int .i64), (.int .i64), (.int .i64), (.int .i64), .sl 1 (.int .i64)]) (by kernel_rfl) law3 W base args ds gs before hval hW
theorem masterMatchesReference_holds : Rows.MasterMatchesReferenceSaid :=
  OpenClaim.holds_of_wide 3 Try.f3 rfl rfl rfl rfl rfl rfl rfl ⟨rfl, rfl, rfl, rfl, rfl⟩ rfl rfl rfl rfl rfl (by kernel_rfl) Try.func3 (by kernel_rfl)
    (of_decide_eq_true (by kernel_rfl)) (by unfold Func.isWrapper; first | (rw [if_pos (by decide +kernel)]; kernel_rfl) | (rw [if_neg (by decide +kernel)]; exact ⟨rfl, rfl⟩))
    (fun os started H enc _ => lifted3 os started H enc)

theorem law4 (css : List (List C)) (h : argsOk [.sl 1 (.int .i64)] css) : FCall Try.prog 4 (argCVs Try.prog Try.f4.params.toList css) (.v (.c (.bool true))) := by
  obtain ⟨_, _, rfl, h0, k1⟩ := argsOk_cons h
  obtain rfl := argsOk_nil k1
  obtain ⟨l0, f0, rfl, _, hf0⟩ := lst_int h0
  rw [show argCVs Try.prog Try.f4.params.toList [[.lst 1 l0.length f0]] = [.c (.lst 1 l0.length f0)] by kernel_rfl]
  exact (f4 l0).of_le ⟨CVle.lst hf0, trivial⟩
theorem lifted4 (os : Os) (started : os.Started) (H : Type) (enc : TypeId × Value → H) :
    ReturnsInHanded {} Try.checked os 4 .any (Rows.medianMiddleSpec.pre6 enc Try.prog Try.f4 Rows.medianMiddleRow.domain false) (Rows.medianMiddleSpec.post enc Try.prog Try.f4 false true false false) := by
  refine returnsInHanded_of_change (C := Try.checked) own started (by kernel_rfl) Try.func4
    (ChangeSpec.witness6 (enc := enc) (C := Try.checked) false ⟨#[], #[.slice none 0 0], []⟩ 8 (by kernel_rfl) (by kernel_rfl) (by kernel_rfl) (by kernel_rfl)) ?_
  intro W base args ds gs before hval hW _ _
  exact law_contract (C := Try.checked) (tb := 4) rfl (fun H ds hd => by
    match ds, hd with
    | [_], _ => rfl) laidOut (by kernel_rfl) (by kernel_rfl) (by kernel_rfl) (ss := [.sl 1 (.int .i64)]) (by kernel_rfl) law4 W base args ds gs before hval hW
theorem medianMiddle_holds : Rows.MedianMiddleSaid :=
  OpenClaim.holds_of_wide 4 Try.f4 rfl rfl rfl rfl rfl rfl rfl ⟨rfl, rfl, rfl, rfl, rfl⟩ rfl rfl rfl rfl rfl (by kernel_rfl) Try.func4 (by kernel_rfl)
    (of_decide_eq_true (by kernel_rfl)) (by unfold Func.isWrapper; first | (rw [if_pos (by decide +kernel)]; kernel_rfl) | (rw [if_neg (by decide +kernel)]; exact ⟨rfl, rfl⟩))
    (fun os started H enc _ => lifted4 os started H enc)

theorem law5 (css : List (List C)) (h : argsOk [.sl 1 (.int .i64), (.int .i64), (.int .u8), (.int .u16)] css) : FCall Try.prog 5 (argCVs Try.prog Try.f5.params.toList css) (.v (.c (.bool true))) := by
  obtain ⟨_, _, rfl, h0, k1⟩ := argsOk_cons h
  obtain ⟨_, _, rfl, ⟨x1, rfl, b1⟩, k2⟩ := argsOk_cons k1
  obtain ⟨_, _, rfl, ⟨x2, rfl, b2⟩, k3⟩ := argsOk_cons k2
  obtain ⟨_, _, rfl, ⟨x3, rfl, b3⟩, k4⟩ := argsOk_cons k3
  obtain rfl := argsOk_nil k4
  obtain ⟨l0, f0, rfl, _, hf0⟩ := lst_int h0
  rw [show argCVs Try.prog Try.f5.params.toList [[.lst 1 l0.length f0], [.int .i64 x1], [.int .u8 x2], [.int .u16 x3]] = [.c (.lst 1 l0.length f0), .c (.int .i64 x1), .c (.int .u8 x2), .c (.int .u16 x3)] by kernel_rfl]
  exact (f5 l0 x1 x2 x3 b2 b3).of_le ⟨CVle.lst hf0, CVle.refl _, CVle.refl _, CVle.refl _, trivial⟩
theorem lifted5 (os : Os) (started : os.Started) (H : Type) (enc : TypeId × Value → H) :
    ReturnsInHanded {} Try.checked os 5 .any (Rows.medianShiftsSpec.pre6 enc Try.prog Try.f5 Rows.medianShiftsRow.domain false) (Rows.medianShiftsSpec.post enc Try.prog Try.f5 false true false false) := by
  refine returnsInHanded_of_change (C := Try.checked) own started (by kernel_rfl) Try.func5
    (ChangeSpec.witness6 (enc := enc) (C := Try.checked) false ⟨#[], #[.slice none 0 0, .int .i64 0, .int .u8 0, .int .u16 0], []⟩ 8 (by kernel_rfl) (by kernel_rfl) (by kernel_rfl) (by kernel_rfl)) ?_
  intro W base args ds gs before hval hW _ _
  exact law_contract (C := Try.checked) (tb := 4) rfl (fun H ds hd => by
    match ds, hd with
    | [_, _, _, _], _ => rfl) laidOut (by kernel_rfl) (by kernel_rfl) (by kernel_rfl) (ss := [.sl 1 (.int .i64), (.int .i64), (.int .u8), (.int .u16)]) (by kernel_rfl) law5 W base args ds gs before hval hW
theorem medianShifts_holds : Rows.MedianShiftsSaid :=
  OpenClaim.holds_of_wide 5 Try.f5 rfl rfl rfl rfl rfl rfl rfl ⟨rfl, rfl, rfl, rfl, rfl⟩ rfl rfl rfl rfl rfl (by kernel_rfl) Try.func5 (by kernel_rfl)
    (of_decide_eq_true (by kernel_rfl)) (by unfold Func.isWrapper; first | (rw [if_pos (by decide +kernel)]; kernel_rfl) | (rw [if_neg (by decide +kernel)]; exact ⟨rfl, rfl⟩))
    (fun os started H enc _ => lifted5 os started H enc)

theorem law6 (css : List (List C)) (h : argsOk [.sl 9 shCa, (.int .i64), (.int .i64), (.int .i64), (.int .i64), (.int .i64)] css) : FCall Try.prog 6 (argCVs Try.prog Try.f6.params.toList css) (.v (.c (.bool true))) := by
  obtain ⟨_, _, rfl, h0, k1⟩ := argsOk_cons h
  obtain ⟨_, _, rfl, ⟨x1, rfl, b1⟩, k2⟩ := argsOk_cons k1
  obtain ⟨_, _, rfl, ⟨x2, rfl, b2⟩, k3⟩ := argsOk_cons k2
  obtain ⟨_, _, rfl, ⟨x3, rfl, b3⟩, k4⟩ := argsOk_cons k3
  obtain ⟨_, _, rfl, ⟨x4, rfl, b4⟩, k5⟩ := argsOk_cons k4
  obtain ⟨_, _, rfl, ⟨x5, rfl, b5⟩, k6⟩ := argsOk_cons k5
  obtain rfl := argsOk_nil k6
  obtain ⟨l0, f0, rfl, _, hf0⟩ := lst_Ca h0
  rw [show argCVs Try.prog Try.f6.params.toList [[.lst 9 l0.length f0], [.int .i64 x1], [.int .i64 x2], [.int .i64 x3], [.int .i64 x4], [.int .i64 x5]] = [.c (.lst 9 l0.length f0), .c (.int .i64 x1), .c (.int .i64 x2), .c (.int .i64 x3), .c (.int .i64 x4), .c (.int .i64 x5)] by kernel_rfl]
  exact (f6 l0 x1 x2 x3 x4 x5).of_le ⟨CVle.lst hf0, CVle.refl _, CVle.refl _, CVle.refl _, CVle.refl _, CVle.refl _, trivial⟩
theorem lifted6 (os : Os) (started : os.Started) (H : Type) (enc : TypeId × Value → H) :
    ReturnsInHanded {} Try.checked os 6 .any (Rows.masterRobustSpec.pre6 enc Try.prog Try.f6 Rows.masterRobustRow.domain false) (Rows.masterRobustSpec.post enc Try.prog Try.f6 false true false false) := by
  refine returnsInHanded_of_change (C := Try.checked) own started (by kernel_rfl) Try.func6
    (ChangeSpec.witness6 (enc := enc) (C := Try.checked) false ⟨#[], #[.slice none 0 0, .int .i64 0, .int .i64 0, .int .i64 0, .int .i64 0, .int .i64 0], []⟩ 8 (by kernel_rfl) (by kernel_rfl) (by kernel_rfl) (by kernel_rfl)) ?_
  intro W base args ds gs before hval hW _ _
  exact law_contract (C := Try.checked) (tb := 4) rfl (fun H ds hd => by
    match ds, hd with
    | [_, _, _, _, _, _], _ => rfl) laidOut (by kernel_rfl) (by kernel_rfl) (by kernel_rfl) (ss := [.sl 9 shCa, (.int .i64), (.int .i64), (.int .i64), (.int .i64), (.int .i64)]) (by kernel_rfl) law6 W base args ds gs before hval hW
theorem masterRobust_holds : Rows.MasterRobustSaid :=
  OpenClaim.holds_of_wide 6 Try.f6 rfl rfl rfl rfl rfl rfl rfl ⟨rfl, rfl, rfl, rfl, rfl⟩ rfl rfl rfl rfl rfl (by kernel_rfl) Try.func6 (by kernel_rfl)
    (of_decide_eq_true (by kernel_rfl)) (by unfold Func.isWrapper; first | (rw [if_pos (by decide +kernel)]; kernel_rfl) | (rw [if_neg (by decide +kernel)]; exact ⟨rfl, rfl⟩))
    (fun os started H enc _ => lifted6 os started H enc)

theorem law7 (css : List (List C)) (h : argsOk [.sl 9 shCa, shCa, (.int .i64), (.int .i64), (.int .i64), (.int .i64), (.int .i64), (.int .u8)] css) : FCall Try.prog 7 (argCVs Try.prog Try.f7.params.toList css) (.v (.c (.bool true))) := by
  obtain ⟨_, _, rfl, h0, k1⟩ := argsOk_cons h
  obtain ⟨_, _, rfl, h1, k2⟩ := argsOk_cons k1
  obtain ⟨_, _, rfl, ⟨x2, rfl, b2⟩, k3⟩ := argsOk_cons k2
  obtain ⟨_, _, rfl, ⟨x3, rfl, b3⟩, k4⟩ := argsOk_cons k3
  obtain ⟨_, _, rfl, ⟨x4, rfl, b4⟩, k5⟩ := argsOk_cons k4
  obtain ⟨_, _, rfl, ⟨x5, rfl, b5⟩, k6⟩ := argsOk_cons k5
  obtain ⟨_, _, rfl, ⟨x6, rfl, b6⟩, k7⟩ := argsOk_cons k6
  obtain ⟨_, _, rfl, ⟨x7, rfl, b7⟩, k8⟩ := argsOk_cons k7
  obtain rfl := argsOk_nil k8
  obtain ⟨l0, f0, rfl, _, hf0⟩ := lst_Ca h0
  obtain ⟨x1, rfl⟩ := of_Ca h1
  rw [show argCVs Try.prog Try.f7.params.toList [[.lst 9 l0.length f0], encCa x1, [.int .i64 x2], [.int .i64 x3], [.int .i64 x4], [.int .i64 x5], [.int .i64 x6], [.int .u8 x7]] = [.c (.lst 9 l0.length f0), .agg (encCa x1), .c (.int .i64 x2), .c (.int .i64 x3), .c (.int .i64 x4), .c (.int .i64 x5), .c (.int .i64 x6), .c (.int .u8 x7)] by kernel_rfl]
  exact (f7 l0 x1 x2 x3 x4 x5 x6 x7 b7).of_le ⟨CVle.lst hf0, CVle.refl _, CVle.refl _, CVle.refl _, CVle.refl _, CVle.refl _, CVle.refl _, CVle.refl _, trivial⟩
theorem lifted7 (os : Os) (started : os.Started) (H : Type) (enc : TypeId × Value → H) :
    ReturnsInHanded {} Try.checked os 7 .any (Rows.masterKnowsSpec.pre6 enc Try.prog Try.f7 Rows.masterKnowsRow.domain false) (Rows.masterKnowsSpec.post enc Try.prog Try.f7 false true false false) := by
  refine returnsInHanded_of_change (C := Try.checked) own started (by kernel_rfl) Try.func7
    (ChangeSpec.witness6 (enc := enc) (C := Try.checked) false ⟨#[], #[.slice none 0 0, .agg #[.int .i64 0, .int .i64 0, .int .i64 0, .int .i64 0, .int .i64 0, .int .i64 0, .int .i64 0, .int .i64 0, .int .i64 0], .int .i64 0, .int .i64 0, .int .i64 0, .int .i64 0, .int .i64 0, .int .u8 0], []⟩ 8 (by kernel_rfl) (by kernel_rfl) (by kernel_rfl) (by kernel_rfl)) ?_
  intro W base args ds gs before hval hW _ _
  exact law_contract (C := Try.checked) (tb := 4) rfl (fun H ds hd => by
    match ds, hd with
    | [_, _, _, _, _, _, _, _], _ => rfl) laidOut (by kernel_rfl) (by kernel_rfl) (by kernel_rfl) (ss := [.sl 9 shCa, shCa, (.int .i64), (.int .i64), (.int .i64), (.int .i64), (.int .i64), (.int .u8)]) (by kernel_rfl) law7 W base args ds gs before hval hW
theorem masterKnows_holds : Rows.MasterKnowsSaid :=
  OpenClaim.holds_of_wide 7 Try.f7 rfl rfl rfl rfl rfl rfl rfl ⟨rfl, rfl, rfl, rfl, rfl⟩ rfl rfl rfl rfl rfl (by kernel_rfl) Try.func7 (by kernel_rfl)
    (of_decide_eq_true (by kernel_rfl)) (by unfold Func.isWrapper; first | (rw [if_pos (by decide +kernel)]; kernel_rfl) | (rw [if_neg (by decide +kernel)]; exact ⟨rfl, rfl⟩))
    (fun os started H enc _ => lifted7 os started H enc)

theorem law8 (css : List (List C)) (h : argsOk [.sl 9 shCa, shCa, (.int .i64), (.int .i64), (.int .i64), (.int .i64), (.int .i64), (.int .u8)] css) : FCall Try.prog 8 (argCVs Try.prog Try.f8.params.toList css) (.v (.c (.bool true))) := by
  obtain ⟨_, _, rfl, h0, k1⟩ := argsOk_cons h
  obtain ⟨_, _, rfl, h1, k2⟩ := argsOk_cons k1
  obtain ⟨_, _, rfl, ⟨x2, rfl, b2⟩, k3⟩ := argsOk_cons k2
  obtain ⟨_, _, rfl, ⟨x3, rfl, b3⟩, k4⟩ := argsOk_cons k3
  obtain ⟨_, _, rfl, ⟨x4, rfl, b4⟩, k5⟩ := argsOk_cons k4
  obtain ⟨_, _, rfl, ⟨x5, rfl, b5⟩, k6⟩ := argsOk_cons k5
  obtain ⟨_, _, rfl, ⟨x6, rfl, b6⟩, k7⟩ := argsOk_cons k6
  obtain ⟨_, _, rfl, ⟨x7, rfl, b7⟩, k8⟩ := argsOk_cons k7
  obtain rfl := argsOk_nil k8
  obtain ⟨l0, f0, rfl, _, hf0⟩ := lst_Ca h0
  obtain ⟨x1, rfl⟩ := of_Ca h1
  rw [show argCVs Try.prog Try.f8.params.toList [[.lst 9 l0.length f0], encCa x1, [.int .i64 x2], [.int .i64 x3], [.int .i64 x4], [.int .i64 x5], [.int .i64 x6], [.int .u8 x7]] = [.c (.lst 9 l0.length f0), .agg (encCa x1), .c (.int .i64 x2), .c (.int .i64 x3), .c (.int .i64 x4), .c (.int .i64 x5), .c (.int .i64 x6), .c (.int .u8 x7)] by kernel_rfl]
  exact (f8 l0 x1 x2 x3 x4 x5 x6 x7 b7).of_le ⟨CVle.lst hf0, CVle.refl _, CVle.refl _, CVle.refl _, CVle.refl _, CVle.refl _, CVle.refl _, CVle.refl _, trivial⟩
theorem lifted8 (os : Os) (started : os.Started) (H : Type) (enc : TypeId × Value → H) :
    ReturnsInHanded {} Try.checked os 8 .any (Rows.masterLatestSpec.pre6 enc Try.prog Try.f8 Rows.masterLatestRow.domain false) (Rows.masterLatestSpec.post enc Try.prog Try.f8 false true false false) := by
  refine returnsInHanded_of_change (C := Try.checked) own started (by kernel_rfl) Try.func8
    (ChangeSpec.witness6 (enc := enc) (C := Try.checked) false ⟨#[], #[.slice none 0 0, .agg #[.int .i64 0, .int .i64 0, .int .i64 0, .int .i64 0, .int .i64 0, .int .i64 0, .int .i64 0, .int .i64 0, .int .i64 0], .int .i64 0, .int .i64 0, .int .i64 0, .int .i64 0, .int .i64 0, .int .u8 0], []⟩ 8 (by kernel_rfl) (by kernel_rfl) (by kernel_rfl) (by kernel_rfl)) ?_
  intro W base args ds gs before hval hW _ _
  exact law_contract (C := Try.checked) (tb := 4) rfl (fun H ds hd => by
    match ds, hd with
    | [_, _, _, _, _, _, _, _], _ => rfl) laidOut (by kernel_rfl) (by kernel_rfl) (by kernel_rfl) (ss := [.sl 9 shCa, shCa, (.int .i64), (.int .i64), (.int .i64), (.int .i64), (.int .i64), (.int .u8)]) (by kernel_rfl) law8 W base args ds gs before hval hW
theorem masterLatest_holds : Rows.MasterLatestSaid :=
  OpenClaim.holds_of_wide 8 Try.f8 rfl rfl rfl rfl rfl rfl rfl ⟨rfl, rfl, rfl, rfl, rfl⟩ rfl rfl rfl rfl rfl (by kernel_rfl) Try.func8 (by kernel_rfl)
    (of_decide_eq_true (by kernel_rfl)) (by unfold Func.isWrapper; first | (rw [if_pos (by decide +kernel)]; kernel_rfl) | (rw [if_neg (by decide +kernel)]; exact ⟨rfl, rfl⟩))
    (fun os started H enc _ => lifted8 os started H enc)

end Go.Proofs.Ytmdgbejfdcfhpaa

