/- The seven laws of the stabbing points each return true for every input, and leave their arguments as they were. Conditions: none beyond the rows' own. -/
import Derived.Test.YtakaeaekeeoicaaT19I
import Derived.Test.YtakaeaekeeoicaaSymT
import Derived.Test.YtakaeaekeeoicaaRows
import Derived.WalkKit
import Derived.ProofKit
import Derived.JoinedOf
namespace Go.Proofs.Ytakaeaekeeoicaa
open Go.Sym Go.RowKit
set_option linter.unusedVariables false
set_option linter.unusedSimpArgs false

theorem own : ownKnob Try.prog.godebug = none := by kernel_rfl
theorem laidOut : laidOutB Try.prog = true := by kernel_rfl

def shSp : Sh := .cat (.int .i64) (.cat (.int .i64) .nil)
theorem of_Sp {cs : List C} (h : shSp.ok cs) : ∃ x : Sp, cs = encSp x := by
  obtain ⟨_, _, rfl, ⟨x0, rfl, _⟩, _, _, rfl, ⟨x1, rfl, _⟩, rfl⟩ := h
  exact ⟨⟨x0, x1⟩, rfl⟩
theorem lst_Sp {cs : List C} (h : (Sh.sl 2 shSp).ok cs) : ∃ (l : List Sp) (f : Nat → List C), cs = [.lst 2 l.length f] ∧ l.length ≤ maxLen ∧ ∀ i, i < l.length → f i = elSp l i := lst_of (z := zSp) (fun _ _ => rfl) (fun _ h => of_Sp h) h
theorem of_int {cs : List C} (h : (Sh.int .i64).ok cs) : ∃ x : Int, cs = [cI x] := by
  obtain ⟨x, rfl, _⟩ := h
  exact ⟨x, rfl⟩
theorem lst_int {cs : List C} (h : (Sh.sl 1 (.int .i64)).ok cs) : ∃ (l : List Int) (f : Nat → List C), cs = [.lst 1 l.length f] ∧ l.length ≤ maxLen ∧ ∀ i, i < l.length → f i = elI l i := lst_of (z := 0) (fun _ _ => rfl) (fun _ h => of_int h) h

theorem law3 (css : List (List C)) (h : argsOk [.sl 2 shSp, .sl 1 (.int .i64), .sl 1 (.int .i64)] css) : FCall Try.prog 3 (argCVs Try.prog Try.f3.params.toList css) (.v (.c (.bool true))) := by
  obtain ⟨_, _, rfl, h0, k1⟩ := argsOk_cons h
  obtain ⟨_, _, rfl, h1, k2⟩ := argsOk_cons k1
  obtain ⟨_, _, rfl, h2, k3⟩ := argsOk_cons k2
  obtain rfl := argsOk_nil k3
  obtain ⟨l0, f0, rfl, _, hf0⟩ := lst_Sp h0
  obtain ⟨l1, f1, rfl, _, hf1⟩ := lst_int h1
  obtain ⟨l2, f2, rfl, _, hf2⟩ := lst_int h2
  rw [show argCVs Try.prog Try.f3.params.toList [[.lst 2 l0.length f0], [.lst 1 l1.length f1], [.lst 1 l2.length f2]] = [.c (.lst 2 l0.length f0), .c (.lst 1 l1.length f1), .c (.lst 1 l2.length f2)] by kernel_rfl]
  exact (f3 l0 l1 l2).of_le ⟨CVle.lst hf0, CVle.lst hf1, CVle.lst hf2, trivial⟩
theorem lifted3 (os : Os) (started : os.Started) (H : Type) (enc : TypeId × Value → H) :
    ReturnsInHanded {} Try.checked os 3 .any (Rows.stabMatchesReferenceSpec.pre6 enc Try.prog Try.f3 Rows.stabMatchesReferenceRow.domain false) (Rows.stabMatchesReferenceSpec.post enc Try.prog Try.f3 false true false false) := by
  refine returnsInHanded_of_change (C := Try.checked) own started (by kernel_rfl) Try.func3
    (ChangeSpec.witness6 (enc := enc) (C := Try.checked) false ⟨#[], #[.slice none 0 0, .slice none 0 0, .slice none 0 0], []⟩ 8 (by kernel_rfl) (by kernel_rfl) (by kernel_rfl) (by kernel_rfl)) ?_
  intro W base args ds gs before hval hW _ _
  exact law_contract (C := Try.checked) (tb := 4) rfl (fun H ds hd => by
    match ds, hd with
    | [_, _, _], _ => rfl) laidOut (by kernel_rfl) (by kernel_rfl) (by kernel_rfl) (ss := [.sl 2 shSp, .sl 1 (.int .i64), .sl 1 (.int .i64)]) (by kernel_rfl) law3 W base args ds gs before hval hW
theorem stabMatchesReference_holds : Rows.StabMatchesReferenceSaid :=
  OpenClaim.holds_of_wide 3 Try.f3 rfl rfl rfl rfl rfl rfl rfl ⟨rfl, rfl, rfl, rfl, rfl⟩ rfl rfl rfl rfl rfl (by kernel_rfl) Try.func3 (by kernel_rfl)
    (of_decide_eq_true (by kernel_rfl)) (by unfold Func.isWrapper; first | (rw [if_pos (by decide +kernel)]; kernel_rfl) | (rw [if_neg (by decide +kernel)]; exact ⟨rfl, rfl⟩))
    (fun os started H enc _ => lifted3 os started H enc)

theorem law4 (css : List (List C)) (h : argsOk [.sl 2 shSp] css) : FCall Try.prog 4 (argCVs Try.prog Try.f4.params.toList css) (.v (.c (.bool true))) := by
  obtain ⟨_, _, rfl, h0, k1⟩ := argsOk_cons h
  obtain rfl := argsOk_nil k1
  obtain ⟨l0, f0, rfl, _, hf0⟩ := lst_Sp h0
  rw [show argCVs Try.prog Try.f4.params.toList [[.lst 2 l0.length f0]] = [.c (.lst 2 l0.length f0)] by kernel_rfl]
  exact (f4 l0).of_le ⟨CVle.lst hf0, trivial⟩
theorem lifted4 (os : Os) (started : os.Started) (H : Type) (enc : TypeId × Value → H) :
    ReturnsInHanded {} Try.checked os 4 .any (Rows.stabAcceptsSpec.pre6 enc Try.prog Try.f4 Rows.stabAcceptsRow.domain false) (Rows.stabAcceptsSpec.post enc Try.prog Try.f4 false true false false) := by
  refine returnsInHanded_of_change (C := Try.checked) own started (by kernel_rfl) Try.func4
    (ChangeSpec.witness6 (enc := enc) (C := Try.checked) false ⟨#[], #[.slice none 0 0], []⟩ 8 (by kernel_rfl) (by kernel_rfl) (by kernel_rfl) (by kernel_rfl)) ?_
  intro W base args ds gs before hval hW _ _
  exact law_contract (C := Try.checked) (tb := 4) rfl (fun H ds hd => by
    match ds, hd with
    | [_], _ => rfl) laidOut (by kernel_rfl) (by kernel_rfl) (by kernel_rfl) (ss := [.sl 2 shSp]) (by kernel_rfl) law4 W base args ds gs before hval hW
theorem stabAccepts_holds : Rows.StabAcceptsSaid :=
  OpenClaim.holds_of_wide 4 Try.f4 rfl rfl rfl rfl rfl rfl rfl ⟨rfl, rfl, rfl, rfl, rfl⟩ rfl rfl rfl rfl rfl (by kernel_rfl) Try.func4 (by kernel_rfl)
    (of_decide_eq_true (by kernel_rfl)) (by unfold Func.isWrapper; first | (rw [if_pos (by decide +kernel)]; kernel_rfl) | (rw [if_neg (by decide +kernel)]; exact ⟨rfl, rfl⟩))
    (fun os started H enc _ => lifted4 os started H enc)

theorem law5 (css : List (List C)) (h : argsOk [.sl 2 shSp, .sl 1 (.int .i64), .sl 1 (.int .i64), .sl 1 (.int .i64)] css) : FCall Try.prog 5 (argCVs Try.prog Try.f5.params.toList css) (.v (.c (.bool true))) := by
  obtain ⟨_, _, rfl, h0, k1⟩ := argsOk_cons h
  obtain ⟨_, _, rfl, h1, k2⟩ := argsOk_cons k1
  obtain ⟨_, _, rfl, h2, k3⟩ := argsOk_cons k2
  obtain ⟨_, _, rfl, h3, k4⟩ := argsOk_cons k3
  obtain rfl := argsOk_nil k4
  obtain ⟨l0, f0, rfl, _, hf0⟩ := lst_Sp h0
  obtain ⟨l1, f1, rfl, _, hf1⟩ := lst_int h1
  obtain ⟨l2, f2, rfl, _, hf2⟩ := lst_int h2
  obtain ⟨l3, f3, rfl, _, hf3⟩ := lst_int h3
  rw [show argCVs Try.prog Try.f5.params.toList [[.lst 2 l0.length f0], [.lst 1 l1.length f1], [.lst 1 l2.length f2], [.lst 1 l3.length f3]] = [.c (.lst 2 l0.length f0), .c (.lst 1 l1.length f1), .c (.lst 1 l2.length f2), .c (.lst 1 l3.length f3)] by kernel_rfl]
  exact (f5 l0 l1 l2 l3).of_le ⟨CVle.lst hf0, CVle.lst hf1, CVle.lst hf2, CVle.lst hf3, trivial⟩
theorem lifted5 (os : Os) (started : os.Started) (H : Type) (enc : TypeId × Value → H) :
    ReturnsInHanded {} Try.checked os 5 .any (Rows.stabLeastSpec.pre6 enc Try.prog Try.f5 Rows.stabLeastRow.domain false) (Rows.stabLeastSpec.post enc Try.prog Try.f5 false true false false) := by
  refine returnsInHanded_of_change (C := Try.checked) own started (by kernel_rfl) Try.func5
    (ChangeSpec.witness6 (enc := enc) (C := Try.checked) false ⟨#[], #[.slice none 0 0, .slice none 0 0, .slice none 0 0, .slice none 0 0], []⟩ 8 (by kernel_rfl) (by kernel_rfl) (by kernel_rfl) (by kernel_rfl)) ?_
  intro W base args ds gs before hval hW _ _
  exact law_contract (C := Try.checked) (tb := 4) rfl (fun H ds hd => by
    match ds, hd with
    | [_, _, _, _], _ => rfl) laidOut (by kernel_rfl) (by kernel_rfl) (by kernel_rfl) (ss := [.sl 2 shSp, .sl 1 (.int .i64), .sl 1 (.int .i64), .sl 1 (.int .i64)]) (by kernel_rfl) law5 W base args ds gs before hval hW
theorem stabLeast_holds : Rows.StabLeastSaid :=
  OpenClaim.holds_of_wide 5 Try.f5 rfl rfl rfl rfl rfl rfl rfl ⟨rfl, rfl, rfl, rfl, rfl⟩ rfl rfl rfl rfl rfl (by kernel_rfl) Try.func5 (by kernel_rfl)
    (of_decide_eq_true (by kernel_rfl)) (by unfold Func.isWrapper; first | (rw [if_pos (by decide +kernel)]; kernel_rfl) | (rw [if_neg (by decide +kernel)]; exact ⟨rfl, rfl⟩))
    (fun os started H enc _ => lifted5 os started H enc)

theorem law6 (css : List (List C)) (h : argsOk [.sl 2 shSp] css) : FCall Try.prog 6 (argCVs Try.prog Try.f6.params.toList css) (.v (.c (.bool true))) := by
  obtain ⟨_, _, rfl, h0, k1⟩ := argsOk_cons h
  obtain rfl := argsOk_nil k1
  obtain ⟨l0, f0, rfl, _, hf0⟩ := lst_Sp h0
  rw [show argCVs Try.prog Try.f6.params.toList [[.lst 2 l0.length f0]] = [.c (.lst 2 l0.length f0)] by kernel_rfl]
  exact (f6 l0).of_le ⟨CVle.lst hf0, trivial⟩
theorem lifted6 (os : Os) (started : os.Started) (H : Type) (enc : TypeId × Value → H) :
    ReturnsInHanded {} Try.checked os 6 .any (Rows.stabOrderSpec.pre6 enc Try.prog Try.f6 Rows.stabOrderRow.domain false) (Rows.stabOrderSpec.post enc Try.prog Try.f6 false true false false) := by
  refine returnsInHanded_of_change (C := Try.checked) own started (by kernel_rfl) Try.func6
    (ChangeSpec.witness6 (enc := enc) (C := Try.checked) false ⟨#[], #[.slice none 0 0], []⟩ 8 (by kernel_rfl) (by kernel_rfl) (by kernel_rfl) (by kernel_rfl)) ?_
  intro W base args ds gs before hval hW _ _
  exact law_contract (C := Try.checked) (tb := 4) rfl (fun H ds hd => by
    match ds, hd with
    | [_], _ => rfl) laidOut (by kernel_rfl) (by kernel_rfl) (by kernel_rfl) (ss := [.sl 2 shSp]) (by kernel_rfl) law6 W base args ds gs before hval hW
theorem stabOrder_holds : Rows.StabOrderSaid :=
  OpenClaim.holds_of_wide 6 Try.f6 rfl rfl rfl rfl rfl rfl rfl ⟨rfl, rfl, rfl, rfl, rfl⟩ rfl rfl rfl rfl rfl (by kernel_rfl) Try.func6 (by kernel_rfl)
    (of_decide_eq_true (by kernel_rfl)) (by unfold Func.isWrapper; first | (rw [if_pos (by decide +kernel)]; kernel_rfl) | (rw [if_neg (by decide +kernel)]; exact ⟨rfl, rfl⟩))
    (fun os started H enc _ => lifted6 os started H enc)

theorem law7 (css : List (List C)) (h : argsOk [.sl 2 shSp, shSp, (.int .u8), (.int .u8), (.int .u8)] css) : FCall Try.prog 7 (argCVs Try.prog Try.f7.params.toList css) (.v (.c (.bool true))) := by
  obtain ⟨_, _, rfl, h0, k1⟩ := argsOk_cons h
  obtain ⟨_, _, rfl, h1, k2⟩ := argsOk_cons k1
  obtain ⟨_, _, rfl, ⟨x2, rfl, b2⟩, k3⟩ := argsOk_cons k2
  obtain ⟨_, _, rfl, ⟨x3, rfl, b3⟩, k4⟩ := argsOk_cons k3
  obtain ⟨_, _, rfl, ⟨x4, rfl, b4⟩, k5⟩ := argsOk_cons k4
  obtain rfl := argsOk_nil k5
  obtain ⟨l0, f0, rfl, _, hf0⟩ := lst_Sp h0
  obtain ⟨x1, rfl⟩ := of_Sp h1
  rw [show argCVs Try.prog Try.f7.params.toList [[.lst 2 l0.length f0], encSp x1, [.int .u8 x2], [.int .u8 x3], [.int .u8 x4]] = [.c (.lst 2 l0.length f0), .agg (encSp x1), .c (.int .u8 x2), .c (.int .u8 x3), .c (.int .u8 x4)] by kernel_rfl]
  exact (f7 l0 x1 x2 x3 x4 b2 b3 b4).of_le ⟨CVle.lst hf0, CVle.refl _, CVle.refl _, CVle.refl _, CVle.refl _, trivial⟩
theorem lifted7 (os : Os) (started : os.Started) (H : Type) (enc : TypeId × Value → H) :
    ReturnsInHanded {} Try.checked os 7 .any (Rows.stabFurtherSpec.pre6 enc Try.prog Try.f7 Rows.stabFurtherRow.domain false) (Rows.stabFurtherSpec.post enc Try.prog Try.f7 false true false false) := by
  refine returnsInHanded_of_change (C := Try.checked) own started (by kernel_rfl) Try.func7
    (ChangeSpec.witness6 (enc := enc) (C := Try.checked) false ⟨#[], #[.slice none 0 0, .agg #[.int .i64 0, .int .i64 0], .int .u8 0, .int .u8 0, .int .u8 0], []⟩ 8 (by kernel_rfl) (by kernel_rfl) (by kernel_rfl) (by kernel_rfl)) ?_
  intro W base args ds gs before hval hW _ _
  exact law_contract (C := Try.checked) (tb := 4) rfl (fun H ds hd => by
    match ds, hd with
    | [_, _, _, _, _], _ => rfl) laidOut (by kernel_rfl) (by kernel_rfl) (by kernel_rfl) (ss := [.sl 2 shSp, shSp, (.int .u8), (.int .u8), (.int .u8)]) (by kernel_rfl) law7 W base args ds gs before hval hW
theorem stabFurther_holds : Rows.StabFurtherSaid :=
  OpenClaim.holds_of_wide 7 Try.f7 rfl rfl rfl rfl rfl rfl rfl ⟨rfl, rfl, rfl, rfl, rfl⟩ rfl rfl rfl rfl rfl (by kernel_rfl) Try.func7 (by kernel_rfl)
    (of_decide_eq_true (by kernel_rfl)) (by unfold Func.isWrapper; first | (rw [if_pos (by decide +kernel)]; kernel_rfl) | (rw [if_neg (by decide +kernel)]; exact ⟨rfl, rfl⟩))
    (fun os started H enc _ => lifted7 os started H enc)

theorem law8 (css : List (List C)) (h : argsOk [.sl 2 shSp, (.int .i16)] css) : FCall Try.prog 8 (argCVs Try.prog Try.f8.params.toList css) (.v (.c (.bool true))) := by
  obtain ⟨_, _, rfl, h0, k1⟩ := argsOk_cons h
  obtain ⟨_, _, rfl, ⟨x1, rfl, b1⟩, k2⟩ := argsOk_cons k1
  obtain rfl := argsOk_nil k2
  obtain ⟨l0, f0, rfl, _, hf0⟩ := lst_Sp h0
  rw [show argCVs Try.prog Try.f8.params.toList [[.lst 2 l0.length f0], [.int .i16 x1]] = [.c (.lst 2 l0.length f0), .c (.int .i16 x1)] by kernel_rfl]
  exact (f8 l0 x1 b1).of_le ⟨CVle.lst hf0, CVle.refl _, trivial⟩
theorem lifted8 (os : Os) (started : os.Started) (H : Type) (enc : TypeId × Value → H) :
    ReturnsInHanded {} Try.checked os 8 .any (Rows.stabMovesSpec.pre6 enc Try.prog Try.f8 Rows.stabMovesRow.domain false) (Rows.stabMovesSpec.post enc Try.prog Try.f8 false true false false) := by
  refine returnsInHanded_of_change (C := Try.checked) own started (by kernel_rfl) Try.func8
    (ChangeSpec.witness6 (enc := enc) (C := Try.checked) false ⟨#[], #[.slice none 0 0, .int .i16 0], []⟩ 8 (by kernel_rfl) (by kernel_rfl) (by kernel_rfl) (by kernel_rfl)) ?_
  intro W base args ds gs before hval hW _ _
  exact law_contract (C := Try.checked) (tb := 4) rfl (fun H ds hd => by
    match ds, hd with
    | [_, _], _ => rfl) laidOut (by kernel_rfl) (by kernel_rfl) (by kernel_rfl) (ss := [.sl 2 shSp, (.int .i16)]) (by kernel_rfl) law8 W base args ds gs before hval hW
theorem stabMoves_holds : Rows.StabMovesSaid :=
  OpenClaim.holds_of_wide 8 Try.f8 rfl rfl rfl rfl rfl rfl rfl ⟨rfl, rfl, rfl, rfl, rfl⟩ rfl rfl rfl rfl rfl (by kernel_rfl) Try.func8 (by kernel_rfl)
    (of_decide_eq_true (by kernel_rfl)) (by unfold Func.isWrapper; first | (rw [if_pos (by decide +kernel)]; kernel_rfl) | (rw [if_neg (by decide +kernel)]; exact ⟨rfl, rfl⟩))
    (fun os started H enc _ => lifted8 os started H enc)

theorem law9 (css : List (List C)) (h : argsOk [.sl 2 shSp, .sl 2 shSp] css) : FCall Try.prog 9 (argCVs Try.prog Try.f9.params.toList css) (.v (.c (.bool true))) := by
  obtain ⟨_, _, rfl, h0, k1⟩ := argsOk_cons h
  obtain ⟨_, _, rfl, h1, k2⟩ := argsOk_cons k1
  obtain rfl := argsOk_nil k2
  obtain ⟨l0, f0, rfl, _, hf0⟩ := lst_Sp h0
  obtain ⟨l1, f1, rfl, _, hf1⟩ := lst_Sp h1
  rw [show argCVs Try.prog Try.f9.params.toList [[.lst 2 l0.length f0], [.lst 2 l1.length f1]] = [.c (.lst 2 l0.length f0), .c (.lst 2 l1.length f1)] by kernel_rfl]
  exact (f9 l0 l1).of_le ⟨CVle.lst hf0, CVle.lst hf1, trivial⟩
theorem lifted9 (os : Os) (started : os.Started) (H : Type) (enc : TypeId × Value → H) :
    ReturnsInHanded {} Try.checked os 9 .any (Rows.stabSeparateSpec.pre6 enc Try.prog Try.f9 Rows.stabSeparateRow.domain false) (Rows.stabSeparateSpec.post enc Try.prog Try.f9 false true false false) := by
  refine returnsInHanded_of_change (C := Try.checked) own started (by kernel_rfl) Try.func9
    (ChangeSpec.witness6 (enc := enc) (C := Try.checked) false ⟨#[], #[.slice none 0 0, .slice none 0 0], []⟩ 8 (by kernel_rfl) (by kernel_rfl) (by kernel_rfl) (by kernel_rfl)) ?_
  intro W base args ds gs before hval hW _ _
  exact law_contract (C := Try.checked) (tb := 4) rfl (fun H ds hd => by
    match ds, hd with
    | [_, _], _ => rfl) laidOut (by kernel_rfl) (by kernel_rfl) (by kernel_rfl) (ss := [.sl 2 shSp, .sl 2 shSp]) (by kernel_rfl) law9 W base args ds gs before hval hW
theorem stabSeparate_holds : Rows.StabSeparateSaid :=
  OpenClaim.holds_of_wide 9 Try.f9 rfl rfl rfl rfl rfl rfl rfl ⟨rfl, rfl, rfl, rfl, rfl⟩ rfl rfl rfl rfl rfl (by kernel_rfl) Try.func9 (by kernel_rfl)
    (of_decide_eq_true (by kernel_rfl)) (by unfold Func.isWrapper; first | (rw [if_pos (by decide +kernel)]; kernel_rfl) | (rw [if_neg (by decide +kernel)]; exact ⟨rfl, rfl⟩))
    (fun os started H enc _ => lifted9 os started H enc)

end Go.Proofs.Ytakaeaekeeoicaa

