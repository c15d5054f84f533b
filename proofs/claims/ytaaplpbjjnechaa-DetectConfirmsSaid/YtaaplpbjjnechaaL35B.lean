/- Three laws of the detections (the reference, additions, confirmations) each return true for every input, and leave their arguments as they were. Conditions: none beyond the rows' own. -/
import Derived.Test.YtaaplpbjjnechaaT35U
import Derived.Test.YtaaplpbjjnechaaSymT
import Derived.Test.YtaaplpbjjnechaaRows
import Derived.WalkKit
import Derived.ProofKit
import Derived.JoinedOf
namespace Go.Proofs.Ytaaplpbjjnechaa
open Go.Sym Go.RowKit
set_option linter.unusedVariables false
set_option linter.unusedSimpArgs false

theorem own : ownKnob Try.prog.godebug = none := by kernel_rfl
theorem laidOut : laidOutB Try.prog = true := by kernel_rfl

def shDe : Sh := .cat (.int .i64) (.cat (.int .i64) (.cat (.int .i64) (.cat (.int .i64) (.cat (.int .i64) .nil))))
theorem of_De {cs : List C} (h : shDe.ok cs) : ∃ x : De, cs = encDe x := by
  obtain ⟨_, _, rfl, ⟨x0, rfl, _⟩, _, _, rfl, ⟨x1, rfl, _⟩, _, _, rfl, ⟨x2, rfl, _⟩, _, _, rfl, ⟨x3, rfl, _⟩, _, _, rfl, ⟨x4, rfl, _⟩, rfl⟩ := h
  exact ⟨⟨x0, x1, x2, x3, x4⟩, rfl⟩
theorem lst_De {cs : List C} (h : (Sh.sl 5 shDe).ok cs) : ∃ (l : List De) (f : Nat → List C), cs = [.lst 5 l.length f] ∧ l.length ≤ maxLen ∧ ∀ i, i < l.length → f i = elDe l i := lst_of (z := zDe) (fun _ _ => rfl) (fun _ h => of_De h) h
def shTa : Sh := .cat (.int .i64) (.cat (.int .i64) (.cat (.int .i64) (.cat (.int .i64) .nil)))
theorem of_Ta {cs : List C} (h : shTa.ok cs) : ∃ x : Ta, cs = encTa x := by
  obtain ⟨_, _, rfl, ⟨x0, rfl, _⟩, _, _, rfl, ⟨x1, rfl, _⟩, _, _, rfl, ⟨x2, rfl, _⟩, _, _, rfl, ⟨x3, rfl, _⟩, rfl⟩ := h
  exact ⟨⟨x0, x1, x2, x3⟩, rfl⟩
theorem lst_Ta {cs : List C} (h : (Sh.sl 4 shTa).ok cs) : ∃ (l : List Ta) (f : Nat → List C), cs = [.lst 4 l.length f] ∧ l.length ≤ maxLen ∧ ∀ i, i < l.length → f i = elTa l i := lst_of (z := zTa) (fun _ _ => rfl) (fun _ h => of_Ta h) h
def shV4 : Sh := .cat (.int .i64) (.cat (.int .i64) (.cat (.int .i64) (.cat (.int .i64) .nil)))
theorem of_V4 {cs : List C} (h : shV4.ok cs) : ∃ x : V4, cs = encV x := by
  obtain ⟨_, _, rfl, ⟨x0, rfl, _⟩, _, _, rfl, ⟨x1, rfl, _⟩, _, _, rfl, ⟨x2, rfl, _⟩, _, _, rfl, ⟨x3, rfl, _⟩, rfl⟩ := h
  exact ⟨⟨x0, x1, x2, x3⟩, rfl⟩
def shM4 : Sh := .cat .bool (.cat .bool (.cat .bool (.cat .bool .nil)))
theorem of_M4 {cs : List C} (h : shM4.ok cs) : ∃ x : M4, cs = encM x := by
  obtain ⟨_, _, rfl, ⟨x0, rfl⟩, _, _, rfl, ⟨x1, rfl⟩, _, _, rfl, ⟨x2, rfl⟩, _, _, rfl, ⟨x3, rfl⟩, rfl⟩ := h
  exact ⟨⟨x0, x1, x2, x3⟩, rfl⟩
theorem of_int {cs : List C} (h : (Sh.int .i64).ok cs) : ∃ x : Int, cs = [cI x] := by
  obtain ⟨x, rfl, _⟩ := h
  exact ⟨x, rfl⟩

theorem law6 (css : List (List C)) (h : argsOk [(.int .i64), (.int .i64), (.int .i64), shM4, shV4, .sl 5 shDe, .sl 4 shTa, shDe, (.int .i64)] css) : FCall Try.prog 6 (argCVs Try.prog Try.f6.params.toList css) (.v (.c (.bool true))) := by
  obtain ⟨_, _, rfl, ⟨x0, rfl, b0⟩, k1⟩ := argsOk_cons h
  obtain ⟨_, _, rfl, ⟨x1, rfl, b1⟩, k2⟩ := argsOk_cons k1
  obtain ⟨_, _, rfl, ⟨x2, rfl, b2⟩, k3⟩ := argsOk_cons k2
  obtain ⟨_, _, rfl, h3, k4⟩ := argsOk_cons k3
  obtain ⟨_, _, rfl, h4, k5⟩ := argsOk_cons k4
  obtain ⟨_, _, rfl, h5, k6⟩ := argsOk_cons k5
  obtain ⟨_, _, rfl, h6, k7⟩ := argsOk_cons k6
  obtain ⟨_, _, rfl, h7, k8⟩ := argsOk_cons k7
  obtain ⟨_, _, rfl, ⟨x8, rfl, b8⟩, k9⟩ := argsOk_cons k8
  obtain rfl := argsOk_nil k9
  obtain ⟨x3, rfl⟩ := of_M4 h3
  obtain ⟨x4, rfl⟩ := of_V4 h4
  obtain ⟨l5, gf5, rfl, _, hf5⟩ := lst_De h5
  obtain ⟨l6, gf6, rfl, _, hf6⟩ := lst_Ta h6
  obtain ⟨x7, rfl⟩ := of_De h7
  rw [show argCVs Try.prog Try.f6.params.toList [[.int .i64 x0], [.int .i64 x1], [.int .i64 x2], encM x3, encV x4, [.lst 5 l5.length gf5], [.lst 4 l6.length gf6], encDe x7, [.int .i64 x8]] = [.c (.int .i64 x0), .c (.int .i64 x1), .c (.int .i64 x2), .agg (encM x3), .agg (encV x4), .c (.lst 5 l5.length gf5), .c (.lst 4 l6.length gf6), .agg (encDe x7), .c (.int .i64 x8)] by kernel_rfl]
  exact (f6 x0 x1 x2 x3 x4 l5 l6 x7 x8).of_le ⟨CVle.refl _, CVle.refl _, CVle.refl _, CVle.refl _, CVle.refl _, CVle.lst hf5, CVle.lst hf6, CVle.refl _, CVle.refl _, trivial⟩
set_option maxRecDepth 100000 in
theorem lifted6 (os : Os) (started : os.Started) (H : Type) (enc : TypeId × Value → H) :
    ReturnsInHanded {} Try.checked os 6 .any (Rows.detectMatchesReferenceSpec.pre6 enc Try.prog Try.f6 Rows.detectMatchesReferenceRow.domain false) (Rows.detectMatchesReferenceSpec.post enc Try.prog Try.f6 false true false false) := by
  refine returnsInHanded_of_change (C := Try.checked) own started (by kernel_rfl) Try.func6
    (ChangeSpec.witness6 (enc := enc) (C := Try.checked) false ⟨#[], #[.int .i64 0, .int .i64 0, .int .i64 0, .agg #[.bool false, .bool false, .bool false, .bool false], .agg #[.int .i64 0, .int .i64 0, .int .i64 0, .int .i64 0], .slice none 0 0, .slice none 0 0, .agg #[.int .i64 0, .int .i64 0, .int .i64 0, .int .i64 0, .int .i64 0], .int .i64 0], []⟩ 8 (by kernel_rfl) (by kernel_rfl) (by kernel_rfl) (by kernel_rfl)) ?_
  intro W base args ds gs before hval hW _ _
  exact law_contract (C := Try.checked) (tb := 4) rfl (fun H ds hd => by
    match ds, hd with
    | [_, _, _, _, _, _, _, _, _], _ => rfl) laidOut (by kernel_rfl) (by kernel_rfl) (by kernel_rfl) (ss := [(.int .i64), (.int .i64), (.int .i64), shM4, shV4, .sl 5 shDe, .sl 4 shTa, shDe, (.int .i64)]) (by kernel_rfl) law6 W base args ds gs before hval hW
theorem detectMatchesReference_holds : Rows.DetectMatchesReferenceSaid :=
  OpenClaim.holds_of_wide 6 Try.f6 rfl rfl rfl rfl rfl rfl rfl ⟨rfl, rfl, rfl, rfl, rfl⟩ rfl rfl rfl rfl rfl (by kernel_rfl) Try.func6 (by kernel_rfl)
    (of_decide_eq_true (by kernel_rfl)) (by unfold Func.isWrapper; first | (rw [if_pos (by decide +kernel)]; kernel_rfl) | (rw [if_neg (by decide +kernel)]; exact ⟨rfl, rfl⟩))
    (fun os started H enc _ => lifted6 os started H enc)

theorem law7 (css : List (List C)) (h : argsOk [.sl 5 shDe, shDe] css) : FCall Try.prog 7 (argCVs Try.prog Try.f7.params.toList css) (.v (.c (.bool true))) := by
  obtain ⟨_, _, rfl, h0, k1⟩ := argsOk_cons h
  obtain ⟨_, _, rfl, h1, k2⟩ := argsOk_cons k1
  obtain rfl := argsOk_nil k2
  obtain ⟨l0, gf0, rfl, _, hf0⟩ := lst_De h0
  obtain ⟨x1, rfl⟩ := of_De h1
  rw [show argCVs Try.prog Try.f7.params.toList [[.lst 5 l0.length gf0], encDe x1] = [.c (.lst 5 l0.length gf0), .agg (encDe x1)] by kernel_rfl]
  exact (f7 l0 x1).of_le ⟨CVle.lst hf0, CVle.refl _, trivial⟩
set_option maxRecDepth 100000 in
theorem lifted7 (os : Os) (started : os.Started) (H : Type) (enc : TypeId × Value → H) :
    ReturnsInHanded {} Try.checked os 7 .any (Rows.detectAddsSpec.pre6 enc Try.prog Try.f7 Rows.detectAddsRow.domain false) (Rows.detectAddsSpec.post enc Try.prog Try.f7 false true false false) := by
  refine returnsInHanded_of_change (C := Try.checked) own started (by kernel_rfl) Try.func7
    (ChangeSpec.witness6 (enc := enc) (C := Try.checked) false ⟨#[], #[.slice none 0 0, .agg #[.int .i64 0, .int .i64 0, .int .i64 0, .int .i64 0, .int .i64 0]], []⟩ 8 (by kernel_rfl) (by kernel_rfl) (by kernel_rfl) (by kernel_rfl)) ?_
  intro W base args ds gs before hval hW _ _
  exact law_contract (C := Try.checked) (tb := 4) rfl (fun H ds hd => by
    match ds, hd with
    | [_, _], _ => rfl) laidOut (by kernel_rfl) (by kernel_rfl) (by kernel_rfl) (ss := [.sl 5 shDe, shDe]) (by kernel_rfl) law7 W base args ds gs before hval hW
theorem detectAdds_holds : Rows.DetectAddsSaid :=
  OpenClaim.holds_of_wide 7 Try.f7 rfl rfl rfl rfl rfl rfl rfl ⟨rfl, rfl, rfl, rfl, rfl⟩ rfl rfl rfl rfl rfl (by kernel_rfl) Try.func7 (by kernel_rfl)
    (of_decide_eq_true (by kernel_rfl)) (by unfold Func.isWrapper; first | (rw [if_pos (by decide +kernel)]; kernel_rfl) | (rw [if_neg (by decide +kernel)]; exact ⟨rfl, rfl⟩))
    (fun os started H enc _ => lifted7 os started H enc)

theorem law8 (css : List (List C)) (h : argsOk [.sl 4 shTa, shDe, (.int .i64), (.int .i64)] css) : FCall Try.prog 8 (argCVs Try.prog Try.f8.params.toList css) (.v (.c (.bool true))) := by
  obtain ⟨_, _, rfl, h0, k1⟩ := argsOk_cons h
  obtain ⟨_, _, rfl, h1, k2⟩ := argsOk_cons k1
  obtain ⟨_, _, rfl, ⟨x2, rfl, b2⟩, k3⟩ := argsOk_cons k2
  obtain ⟨_, _, rfl, ⟨x3, rfl, b3⟩, k4⟩ := argsOk_cons k3
  obtain rfl := argsOk_nil k4
  obtain ⟨l0, gf0, rfl, _, hf0⟩ := lst_Ta h0
  obtain ⟨x1, rfl⟩ := of_De h1
  rw [show argCVs Try.prog Try.f8.params.toList [[.lst 4 l0.length gf0], encDe x1, [.int .i64 x2], [.int .i64 x3]] = [.c (.lst 4 l0.length gf0), .agg (encDe x1), .c (.int .i64 x2), .c (.int .i64 x3)] by kernel_rfl]
  exact (f8 l0 x1 x2 x3).of_le ⟨CVle.lst hf0, CVle.refl _, CVle.refl _, CVle.refl _, trivial⟩
set_option maxRecDepth 100000 in
theorem lifted8 (os : Os) (started : os.Started) (H : Type) (enc : TypeId × Value → H) :
    ReturnsInHanded {} Try.checked os 8 .any (Rows.detectConfirmsSpec.pre6 enc Try.prog Try.f8 Rows.detectConfirmsRow.domain false) (Rows.detectConfirmsSpec.post enc Try.prog Try.f8 false true false false) := by
  refine returnsInHanded_of_change (C := Try.checked) own started (by kernel_rfl) Try.func8
    (ChangeSpec.witness6 (enc := enc) (C := Try.checked) false ⟨#[], #[.slice none 0 0, .agg #[.int .i64 0, .int .i64 0, .int .i64 0, .int .i64 0, .int .i64 0], .int .i64 0, .int .i64 0], []⟩ 8 (by kernel_rfl) (by kernel_rfl) (by kernel_rfl) (by kernel_rfl)) ?_
  intro W base args ds gs before hval hW _ _
  exact law_contract (C := Try.checked) (tb := 4) rfl (fun H ds hd => by
    match ds, hd with
    | [_, _, _, _], _ => rfl) laidOut (by kernel_rfl) (by kernel_rfl) (by kernel_rfl) (ss := [.sl 4 shTa, shDe, (.int .i64), (.int .i64)]) (by kernel_rfl) law8 W base args ds gs before hval hW
theorem detectConfirms_holds : Rows.DetectConfirmsSaid :=
  OpenClaim.holds_of_wide 8 Try.f8 rfl rfl rfl rfl rfl rfl rfl ⟨rfl, rfl, rfl, rfl, rfl⟩ rfl rfl rfl rfl rfl (by kernel_rfl) Try.func8 (by kernel_rfl)
    (of_decide_eq_true (by kernel_rfl)) (by unfold Func.isWrapper; first | (rw [if_pos (by decide +kernel)]; kernel_rfl) | (rw [if_neg (by decide +kernel)]; exact ⟨rfl, rfl⟩))
    (fun os started H enc _ => lifted8 os started H enc)

end Go.Proofs.Ytaaplpbjjnechaa

