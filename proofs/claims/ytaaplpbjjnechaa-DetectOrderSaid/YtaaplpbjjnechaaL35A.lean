/- Three laws of the detections (frames, counts, order) each return true for every input, and leave their arguments as they were. Conditions: none beyond the rows' own. -/
import Derived.Test.YtaaplpbjjnechaaT35Q
import Derived.Test.YtaaplpbjjnechaaSymT
import Derived.Test.YtaaplpbjjnechaaRows
import Derived.WalkKit
import Derived.ProofKit
import Derived.JoinedOf
namespace Go.Proofs.Ytaaplpbjjnechaa
open Go.Sym Go.RowKit
set_option linter.unusedVariables false
set_option linter.unusedSimpArgs false

theorem own : ownKnob Try.prog.godebug = none := by kernel_rfl
theorem laidOut : laidOutB Try.prog = true := by kernel_rfl

def shDe : Sh := .cat (.int .i64) (.cat (.int .i64) (.cat (.int .i64) (.cat (.int .i64) (.cat (.int .i64) .nil))))
theorem of_De {cs : List C} (h : shDe.ok cs) : ∃ x : De, cs = encDe x := by
  obtain ⟨_, _, rfl, ⟨x0, rfl, _⟩, _, _, rfl, ⟨x1, rfl, _⟩, _, _, rfl, ⟨x2, rfl, _⟩, _, _, rfl, ⟨x3, rfl, _⟩, _, _, rfl, ⟨x4, rfl, _⟩, rfl⟩ := h
  exact ⟨⟨x0, x1, x2, x3, x4⟩, rfl⟩
theorem lst_De {cs : List C} (h : (Sh.sl 5 shDe).ok cs) : ∃ (l : List De) (f : Nat → List C), cs = [.lst 5 l.length f] ∧ l.length ≤ maxLen ∧ ∀ i, i < l.length → f i = elDe l i := lst_of (z := zDe) (fun _ _ => rfl) (fun _ h => of_De h) h
def shV4 : Sh := .cat (.int .i64) (.cat (.int .i64) (.cat (.int .i64) (.cat (.int .i64) .nil)))
theorem of_V4 {cs : List C} (h : shV4.ok cs) : ∃ x : V4, cs = encV x := by
  obtain ⟨_, _, rfl, ⟨x0, rfl, _⟩, _, _, rfl, ⟨x1, rfl, _⟩, _, _, rfl, ⟨x2, rfl, _⟩, _, _, rfl, ⟨x3, rfl, _⟩, rfl⟩ := h
  exact ⟨⟨x0, x1, x2, x3⟩, rfl⟩
def shM4 : Sh := .cat .bool (.cat .bool (.cat .bool (.cat .bool .nil)))
theorem of_M4 {cs : List C} (h : shM4.ok cs) : ∃ x : M4, cs = encM x := by
  obtain ⟨_, _, rfl, ⟨x0, rfl⟩, _, _, rfl, ⟨x1, rfl⟩, _, _, rfl, ⟨x2, rfl⟩, _, _, rfl, ⟨x3, rfl⟩, rfl⟩ := h
  exact ⟨⟨x0, x1, x2, x3⟩, rfl⟩
theorem of_int {cs : List C} (h : (Sh.int .i64).ok cs) : ∃ x : Int, cs = [cI x] := by
  obtain ⟨x, rfl, _⟩ := h
  exact ⟨x, rfl⟩

theorem law3 (css : List (List C)) (h : argsOk [(.int .i64), (.int .i64), (.int .i64), shM4, shV4] css) : FCall Try.prog 3 (argCVs Try.prog Try.f3.params.toList css) (.v (.c (.bool true))) := by
  obtain ⟨_, _, rfl, ⟨x0, rfl, b0⟩, k1⟩ := argsOk_cons h
  obtain ⟨_, _, rfl, ⟨x1, rfl, b1⟩, k2⟩ := argsOk_cons k1
  obtain ⟨_, _, rfl, ⟨x2, rfl, b2⟩, k3⟩ := argsOk_cons k2
  obtain ⟨_, _, rfl, h3, k4⟩ := argsOk_cons k3
  obtain ⟨_, _, rfl, h4, k5⟩ := argsOk_cons k4
  obtain rfl := argsOk_nil k5
  obtain ⟨x3, rfl⟩ := of_M4 h3
  obtain ⟨x4, rfl⟩ := of_V4 h4
  rw [show argCVs Try.prog Try.f3.params.toList [[.int .i64 x0], [.int .i64 x1], [.int .i64 x2], encM x3, encV x4] = [.c (.int .i64 x0), .c (.int .i64 x1), .c (.int .i64 x2), .agg (encM x3), .agg (encV x4)] by kernel_rfl]
  exact (f3 x0 x1 x2 x3 x4).of_le ⟨CVle.refl _, CVle.refl _, CVle.refl _, CVle.refl _, CVle.refl _, trivial⟩
set_option maxRecDepth 100000 in
theorem lifted3 (os : Os) (started : os.Started) (H : Type) (enc : TypeId × Value → H) :
    ReturnsInHanded {} Try.checked os 3 .any (Rows.detectFramesSpec.pre6 enc Try.prog Try.f3 Rows.detectFramesRow.domain false) (Rows.detectFramesSpec.post enc Try.prog Try.f3 false true false false) := by
  refine returnsInHanded_of_change (C := Try.checked) own started (by kernel_rfl) Try.func3
    (ChangeSpec.witness6 (enc := enc) (C := Try.checked) false ⟨#[], #[.int .i64 0, .int .i64 0, .int .i64 0, .agg #[.bool false, .bool false, .bool false, .bool false], .agg #[.int .i64 0, .int .i64 0, .int .i64 0, .int .i64 0]], []⟩ 8 (by kernel_rfl) (by kernel_rfl) (by kernel_rfl) (by kernel_rfl)) ?_
  intro W base args ds gs before hval hW _ _
  exact law_contract (C := Try.checked) (tb := 4) rfl (fun H ds hd => by
    match ds, hd with
    | [_, _, _, _, _], _ => rfl) laidOut (by kernel_rfl) (by kernel_rfl) (by kernel_rfl) (ss := [(.int .i64), (.int .i64), (.int .i64), shM4, shV4]) (by kernel_rfl) law3 W base args ds gs before hval hW
theorem detectFrames_holds : Rows.DetectFramesSaid :=
  OpenClaim.holds_of_wide 3 Try.f3 rfl rfl rfl rfl rfl rfl rfl ⟨rfl, rfl, rfl, rfl, rfl⟩ rfl rfl rfl rfl rfl (by kernel_rfl) Try.func3 (by kernel_rfl)
    (of_decide_eq_true (by kernel_rfl)) (by unfold Func.isWrapper; first | (rw [if_pos (by decide +kernel)]; kernel_rfl) | (rw [if_neg (by decide +kernel)]; exact ⟨rfl, rfl⟩))
    (fun os started H enc _ => lifted3 os started H enc)

theorem law4 (css : List (List C)) (h : argsOk [.sl 5 shDe] css) : FCall Try.prog 4 (argCVs Try.prog Try.f4.params.toList css) (.v (.c (.bool true))) := by
  obtain ⟨_, _, rfl, h0, k1⟩ := argsOk_cons h
  obtain rfl := argsOk_nil k1
  obtain ⟨l0, f0, rfl, _, hf0⟩ := lst_De h0
  rw [show argCVs Try.prog Try.f4.params.toList [[.lst 5 l0.length f0]] = [.c (.lst 5 l0.length f0)] by kernel_rfl]
  exact (f4 l0).of_le ⟨CVle.lst hf0, trivial⟩
set_option maxRecDepth 100000 in
theorem lifted4 (os : Os) (started : os.Started) (H : Type) (enc : TypeId × Value → H) :
    ReturnsInHanded {} Try.checked os 4 .any (Rows.detectCountsSpec.pre6 enc Try.prog Try.f4 Rows.detectCountsRow.domain false) (Rows.detectCountsSpec.post enc Try.prog Try.f4 false true false false) := by
  refine returnsInHanded_of_change (C := Try.checked) own started (by kernel_rfl) Try.func4
    (ChangeSpec.witness6 (enc := enc) (C := Try.checked) false ⟨#[], #[.slice none 0 0], []⟩ 8 (by kernel_rfl) (by kernel_rfl) (by kernel_rfl) (by kernel_rfl)) ?_
  intro W base args ds gs before hval hW _ _
  exact law_contract (C := Try.checked) (tb := 4) rfl (fun H ds hd => by
    match ds, hd with
    | [_], _ => rfl) laidOut (by kernel_rfl) (by kernel_rfl) (by kernel_rfl) (ss := [.sl 5 shDe]) (by kernel_rfl) law4 W base args ds gs before hval hW
theorem detectCounts_holds : Rows.DetectCountsSaid :=
  OpenClaim.holds_of_wide 4 Try.f4 rfl rfl rfl rfl rfl rfl rfl ⟨rfl, rfl, rfl, rfl, rfl⟩ rfl rfl rfl rfl rfl (by kernel_rfl) Try.func4 (by kernel_rfl)
    (of_decide_eq_true (by kernel_rfl)) (by unfold Func.isWrapper; first | (rw [if_pos (by decide +kernel)]; kernel_rfl) | (rw [if_neg (by decide +kernel)]; exact ⟨rfl, rfl⟩))
    (fun os started H enc _ => lifted4 os started H enc)

theorem law5 (css : List (List C)) (h : argsOk [.sl 5 shDe, (.int .u16), (.int .u16)] css) : FCall Try.prog 5 (argCVs Try.prog Try.f5.params.toList css) (.v (.c (.bool true))) := by
  obtain ⟨_, _, rfl, h0, k1⟩ := argsOk_cons h
  obtain ⟨_, _, rfl, ⟨x1, rfl, b1⟩, k2⟩ := argsOk_cons k1
  obtain ⟨_, _, rfl, ⟨x2, rfl, b2⟩, k3⟩ := argsOk_cons k2
  obtain rfl := argsOk_nil k3
  obtain ⟨l0, f0, rfl, _, hf0⟩ := lst_De h0
  rw [show argCVs Try.prog Try.f5.params.toList [[.lst 5 l0.length f0], [.int .u16 x1], [.int .u16 x2]] = [.c (.lst 5 l0.length f0), .c (.int .u16 x1), .c (.int .u16 x2)] by kernel_rfl]
  exact (f5 l0 x1 x2 b1 b2).of_le ⟨CVle.lst hf0, CVle.refl _, CVle.refl _, trivial⟩
set_option maxRecDepth 100000 in
theorem lifted5 (os : Os) (started : os.Started) (H : Type) (enc : TypeId × Value → H) :
    ReturnsInHanded {} Try.checked os 5 .any (Rows.detectOrderSpec.pre6 enc Try.prog Try.f5 Rows.detectOrderRow.domain false) (Rows.detectOrderSpec.post enc Try.prog Try.f5 false true false false) := by
  refine returnsInHanded_of_change (C := Try.checked) own started (by kernel_rfl) Try.func5
    (ChangeSpec.witness6 (enc := enc) (C := Try.checked) false ⟨#[], #[.slice none 0 0, .int .u16 0, .int .u16 0], []⟩ 8 (by kernel_rfl) (by kernel_rfl) (by kernel_rfl) (by kernel_rfl)) ?_
  intro W base args ds gs before hval hW _ _
  exact law_contract (C := Try.checked) (tb := 4) rfl (fun H ds hd => by
    match ds, hd with
    | [_, _, _], _ => rfl) laidOut (by kernel_rfl) (by kernel_rfl) (by kernel_rfl) (ss := [.sl 5 shDe, (.int .u16), (.int .u16)]) (by kernel_rfl) law5 W base args ds gs before hval hW
theorem detectOrder_holds : Rows.DetectOrderSaid :=
  OpenClaim.holds_of_wide 5 Try.f5 rfl rfl rfl rfl rfl rfl rfl ⟨rfl, rfl, rfl, rfl, rfl⟩ rfl rfl rfl rfl rfl (by kernel_rfl) Try.func5 (by kernel_rfl)
    (of_decide_eq_true (by kernel_rfl)) (by unfold Func.isWrapper; first | (rw [if_pos (by decide +kernel)]; kernel_rfl) | (rw [if_neg (by decide +kernel)]; exact ⟨rfl, rfl⟩))
    (fun os started H enc _ => lifted5 os started H enc)

end Go.Proofs.Ytaaplpbjjnechaa

