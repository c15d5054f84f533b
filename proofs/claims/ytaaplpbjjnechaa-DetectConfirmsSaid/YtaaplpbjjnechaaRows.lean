/-
  No cell of these rows narrows 'for every input' (looked for: loops, veiled, ifaces, maps, wideKeys, modest, calm, conditions, laid).
  DERIVED. THE GIVEN ROWS OF THIS SEAT. 6 by the template 'for every input the law returns true; each argument reads behind the call as it read before'; 0 by the template 'total and deterministic' (their statements: YtaaplpbjjnechaaTotals.lean).
  GIVEN WITH THE SEED: the statements are not yours to turn. If you find one false, say at which input.
  Laid BY PROGRAM, IN A SANDBOX (cutbox-rows.mjs): the forced cells as the released guide's own fill.sh prints them over the translation 96d37819a895ac02… (all of the seat's roots in one cut). By AI agents, Wed Nov 11 2026. No macro, syntax, notation, axiom, sorry.
-/
import Derived.Test.YtaaplpbjjnechaaChecked
import GoSem.Claim
import GoSem.ClaimJoined
import GoSem.ClaimMapViews
import Derived.JoinedTies
import Derived.KernelRfl
namespace Go.Proofs.Ytaaplpbjjnechaa
/- THE CELL 'sum', in the pinned program and in every row, IS THE sha256 OF THE DUMP (.gsa) THAT YtaaplpbjjnechaaProg.lean LOADS. Nothing in Lean hashes anything: it is a label: what it is worth is what the hold of that sum in a sandbox is worth. -/
noncomputable def Try.pinned : Pinned := { name := "ytaaplpbjjnechaa", sum := "96d37819a895ac02aa386fb30d628eec00f0ed4922289a36272ec396fb2972ce", checked := Try.checked }
namespace Rows
def none {H : Type} : Left H := { results := [], args := [] }

/-- 'observatorylaw35.DetectFrames': WHATEVER THE INPUT: true; the input reads as it did. -/
def detectFramesSpec : ChangeSpec := { name := "detectFrames", fn := fun _ => fun
  | [d1, d2, d3, d4, d5] => { results := [.lit (.bool true)], args := [d1, d2, d3, d4, d5] }
  | _ => none }
def detectFramesRow : OpenClaim := { program := "ytaaplpbjjnechaa", sum := "96d37819a895ac02aa386fb30d628eec00f0ed4922289a36272ec396fb2972ce", func := "observatory/observatorylaw35.DetectFrames", spec := "detectFrames", unfollowed := true, recurses := true, plainKeys := false, apart := false }
def DetectFramesSaid : Prop := detectFramesRow.holds Try.pinned (OpenSpec.ofChange detectFramesSpec)

/-- ITS FALSE NEIGHBOUR: 'it returns false'. Refute it at one input. -/
def detectFramesWrong : ChangeSpec := { name := "detectFrames", fn := fun _ => fun
  | [d1, d2, d3, d4, d5] => { results := [.lit (.bool false)], args := [d1, d2, d3, d4, d5] }
  | _ => none }
def DetectFramesWrongFalsely : Prop := detectFramesRow.holds Try.pinned (OpenSpec.ofChange detectFramesWrong)

/-- 'observatorylaw35.DetectCounts': WHATEVER THE INPUT: true; the input reads as it did. -/
def detectCountsSpec : ChangeSpec := { name := "detectCounts", fn := fun _ => fun
  | [d] => { results := [.lit (.bool true)], args := [d] }
  | _ => none }
def detectCountsRow : OpenClaim := { program := "ytaaplpbjjnechaa", sum := "96d37819a895ac02aa386fb30d628eec00f0ed4922289a36272ec396fb2972ce", func := "observatory/observatorylaw35.DetectCounts", spec := "detectCounts", unfollowed := true, recurses := true, plainKeys := false, apart := false }
def DetectCountsSaid : Prop := detectCountsRow.holds Try.pinned (OpenSpec.ofChange detectCountsSpec)

/-- ITS FALSE NEIGHBOUR: 'it returns false'. Refute it at one input. -/
def detectCountsWrong : ChangeSpec := { name := "detectCounts", fn := fun _ => fun
  | [d] => { results := [.lit (.bool false)], args := [d] }
  | _ => none }
def DetectCountsWrongFalsely : Prop := detectCountsRow.holds Try.pinned (OpenSpec.ofChange detectCountsWrong)

/-- 'observatorylaw35.DetectOrder': WHATEVER THE INPUT: true; the input reads as it did. -/
def detectOrderSpec : ChangeSpec := { name := "detectOrder", fn := fun _ => fun
  | [d1, d2, d3] => { results := [.lit (.bool true)], args := [d1, d2, d3] }
  | _ => none }
def detectOrderRow : OpenClaim := { program := "ytaaplpbjjnechaa", sum := "96d37819a895ac02aa386fb30d628eec00f0ed4922289a36272ec396fb2972ce", func := "observatory/observatorylaw35.DetectOrder", spec := "detectOrder", unfollowed := true, recurses := true, plainKeys := false, apart := false }
def DetectOrderSaid : Prop := detectOrderRow.holds Try.pinned (OpenSpec.ofChange detectOrderSpec)

/-- ITS FALSE NEIGHBOUR: 'it returns false'. Refute it at one input. -/
def detectOrderWrong : ChangeSpec := { name := "detectOrder", fn := fun _ => fun
  | [d1, d2, d3] => { results := [.lit (.bool false)], args := [d1, d2, d3] }
  | _ => none }
def DetectOrderWrongFalsely : Prop := detectOrderRow.holds Try.pinned (OpenSpec.ofChange detectOrderWrong)

/-- 'observatorylaw35.DetectMatchesReference': WHATEVER THE INPUT: true; the input reads as it did. -/
def detectMatchesReferenceSpec : ChangeSpec := { name := "detectMatchesReference", fn := fun _ => fun
  | [d1, d2, d3, d4, d5, d6, d7, d8, d9] => { results := [.lit (.bool true)], args := [d1, d2, d3, d4, d5, d6, d7, d8, d9] }
  | _ => none }
def detectMatchesReferenceRow : OpenClaim := { program := "ytaaplpbjjnechaa", sum := "96d37819a895ac02aa386fb30d628eec00f0ed4922289a36272ec396fb2972ce", func := "observatory/observatorylaw35.DetectMatchesReference", spec := "detectMatchesReference", inPlace := ["slices.overlaps[observatory/api.Tally]"], unfollowed := true, recurses := true, plainKeys := false, apart := false }
def DetectMatchesReferenceSaid : Prop := detectMatchesReferenceRow.holds Try.pinned (OpenSpec.ofChange detectMatchesReferenceSpec)

/-- ITS FALSE NEIGHBOUR: 'it returns false'. Refute it at one input. -/
def detectMatchesReferenceWrong : ChangeSpec := { name := "detectMatchesReference", fn := fun _ => fun
  | [d1, d2, d3, d4, d5, d6, d7, d8, d9] => { results := [.lit (.bool false)], args := [d1, d2, d3, d4, d5, d6, d7, d8, d9] }
  | _ => none }
def DetectMatchesReferenceWrongFalsely : Prop := detectMatchesReferenceRow.holds Try.pinned (OpenSpec.ofChange detectMatchesReferenceWrong)

/-- 'observatorylaw35.DetectAdds': WHATEVER THE INPUT: true; the input reads as it did. -/
def detectAddsSpec : ChangeSpec := { name := "detectAdds", fn := fun _ => fun
  | [d1, d2] => { results := [.lit (.bool true)], args := [d1, d2] }
  | _ => none }
def detectAddsRow : OpenClaim := { program := "ytaaplpbjjnechaa", sum := "96d37819a895ac02aa386fb30d628eec00f0ed4922289a36272ec396fb2972ce", func := "observatory/observatorylaw35.DetectAdds", spec := "detectAdds", inPlace := ["slices.overlaps[observatory/api.Tally]"], unfollowed := true, recurses := true, plainKeys := false, apart := false }
def DetectAddsSaid : Prop := detectAddsRow.holds Try.pinned (OpenSpec.ofChange detectAddsSpec)

/-- ITS FALSE NEIGHBOUR: 'it returns false'. Refute it at one input. -/
def detectAddsWrong : ChangeSpec := { name := "detectAdds", fn := fun _ => fun
  | [d1, d2] => { results := [.lit (.bool false)], args := [d1, d2] }
  | _ => none }
def DetectAddsWrongFalsely : Prop := detectAddsRow.holds Try.pinned (OpenSpec.ofChange detectAddsWrong)

/-- 'observatorylaw35.DetectConfirms': WHATEVER THE INPUT: true; the input reads as it did. -/
def detectConfirmsSpec : ChangeSpec := { name := "detectConfirms", fn := fun _ => fun
  | [d1, d2, d3, d4] => { results := [.lit (.bool true)], args := [d1, d2, d3, d4] }
  | _ => none }
def detectConfirmsRow : OpenClaim := { program := "ytaaplpbjjnechaa", sum := "96d37819a895ac02aa386fb30d628eec00f0ed4922289a36272ec396fb2972ce", func := "observatory/observatorylaw35.DetectConfirms", spec := "detectConfirms", inPlace := ["slices.overlaps[observatory/api.Tally]"], unfollowed := true, recurses := true, plainKeys := false, apart := false }
def DetectConfirmsSaid : Prop := detectConfirmsRow.holds Try.pinned (OpenSpec.ofChange detectConfirmsSpec)

/-- ITS FALSE NEIGHBOUR: 'it returns false'. Refute it at one input. -/
def detectConfirmsWrong : ChangeSpec := { name := "detectConfirms", fn := fun _ => fun
  | [d1, d2, d3, d4] => { results := [.lit (.bool false)], args := [d1, d2, d3, d4] }
  | _ => none }
def DetectConfirmsWrongFalsely : Prop := detectConfirmsRow.holds Try.pinned (OpenSpec.ofChange detectConfirmsWrong)

/- THE SECOND FORM. 'bulk': how many values and letters a reading holds, each counted each time it is reached (what is shared counts as often as it is met; a slice's spare places count too). A statement '..UptoSaid' is the law's where the arguments, and the package variables that the reading takes, are together of bulk at most 1048576: NARROWER than '..Said'. Prove '..Said' where nothing that the law and all that it calls make is longer than what came in: it says more and counts as full. Else prove '..UptoSaid'. A law counts once. -/
mutual
def uptoBulk {H : Type} : DataW H → Nat
  | .lit (.string bytes) => bytes.length + 1
  | .lit _ => 1
  | .nil => 1
  | .ptr d => uptoBulk d + 1
  | .slice elems spare => uptoBulkAll elems + uptoBulkAll spare + 1
  | .agg parts => uptoBulkAll parts + 1
  | .iface _ d => uptoBulk d + 1
  | .map entries => uptoBulkEntries entries + 1
  | .held _ => 1
def uptoBulkAll {H : Type} : List (DataW H) → Nat
  | [] => 0
  | d :: r => uptoBulk d + uptoBulkAll r
def uptoBulkEntries {H : Type} : List (Lit × DataW H) → Nat
  | [] => 0
  | x :: r => uptoBulkEntry x + uptoBulkEntries r
def uptoBulkEntry {H : Type} : Lit × DataW H → Nat
  | (.string bytes, d) => bytes.length + uptoBulk d + 1
  | (_, d) => uptoBulk d + 1
 end
def uptoSmall : (H : Type) → List (DataW H) → Bool := fun _ ds => decide (uptoBulkAll ds ≤ 1048576)
def OpenSpec.upto (s : _root_.Go.ChangeSpec) : _root_.Go.OpenSpec := { _root_.Go.OpenSpec.ofChange s with cond := some uptoSmall }

/-- 'observatorylaw35.DetectFrames', WHERE WHAT IT READS IS OF BULK AT MOST 1048576: true; the input reads as it did. -/
def detectFramesUptoRow : OpenClaim := { program := "ytaaplpbjjnechaa", sum := "96d37819a895ac02aa386fb30d628eec00f0ed4922289a36272ec396fb2972ce", func := "observatory/observatorylaw35.DetectFrames", spec := "detectFrames", unfollowed := true, recurses := true, plainKeys := false, apart := false, narrowed := true }
def DetectFramesUptoSaid : Prop := detectFramesUptoRow.holds Try.pinned (OpenSpec.upto detectFramesSpec)

/-- 'observatorylaw35.DetectCounts', WHERE WHAT IT READS IS OF BULK AT MOST 1048576: true; the input reads as it did. -/
def detectCountsUptoRow : OpenClaim := { program := "ytaaplpbjjnechaa", sum := "96d37819a895ac02aa386fb30d628eec00f0ed4922289a36272ec396fb2972ce", func := "observatory/observatorylaw35.DetectCounts", spec := "detectCounts", unfollowed := true, recurses := true, plainKeys := false, apart := false, narrowed := true }
def DetectCountsUptoSaid : Prop := detectCountsUptoRow.holds Try.pinned (OpenSpec.upto detectCountsSpec)

/-- 'observatorylaw35.DetectOrder', WHERE WHAT IT READS IS OF BULK AT MOST 1048576: true; the input reads as it did. -/
def detectOrderUptoRow : OpenClaim := { program := "ytaaplpbjjnechaa", sum := "96d37819a895ac02aa386fb30d628eec00f0ed4922289a36272ec396fb2972ce", func := "observatory/observatorylaw35.DetectOrder", spec := "detectOrder", unfollowed := true, recurses := true, plainKeys := false, apart := false, narrowed := true }
def DetectOrderUptoSaid : Prop := detectOrderUptoRow.holds Try.pinned (OpenSpec.upto detectOrderSpec)

/-- 'observatorylaw35.DetectMatchesReference', WHERE WHAT IT READS IS OF BULK AT MOST 1048576: true; the input reads as it did. -/
def detectMatchesReferenceUptoRow : OpenClaim := { program := "ytaaplpbjjnechaa", sum := "96d37819a895ac02aa386fb30d628eec00f0ed4922289a36272ec396fb2972ce", func := "observatory/observatorylaw35.DetectMatchesReference", spec := "detectMatchesReference", inPlace := ["slices.overlaps[observatory/api.Tally]"], unfollowed := true, recurses := true, plainKeys := false, apart := false, narrowed := true }
def DetectMatchesReferenceUptoSaid : Prop := detectMatchesReferenceUptoRow.holds Try.pinned (OpenSpec.upto detectMatchesReferenceSpec)

/-- 'observatorylaw35.DetectAdds', WHERE WHAT IT READS IS OF BULK AT MOST 1048576: true; the input reads as it did. -/
def detectAddsUptoRow : OpenClaim := { program := "ytaaplpbjjnechaa", sum := "96d37819a895ac02aa386fb30d628eec00f0ed4922289a36272ec396fb2972ce", func := "observatory/observatorylaw35.DetectAdds", spec := "detectAdds", inPlace := ["slices.overlaps[observatory/api.Tally]"], unfollowed := true, recurses := true, plainKeys := false, apart := false, narrowed := true }
def DetectAddsUptoSaid : Prop := detectAddsUptoRow.holds Try.pinned (OpenSpec.upto detectAddsSpec)

/-- 'observatorylaw35.DetectConfirms', WHERE WHAT IT READS IS OF BULK AT MOST 1048576: true; the input reads as it did. -/
def detectConfirmsUptoRow : OpenClaim := { program := "ytaaplpbjjnechaa", sum := "96d37819a895ac02aa386fb30d628eec00f0ed4922289a36272ec396fb2972ce", func := "observatory/observatorylaw35.DetectConfirms", spec := "detectConfirms", inPlace := ["slices.overlaps[observatory/api.Tally]"], unfollowed := true, recurses := true, plainKeys := false, apart := false, narrowed := true }
def DetectConfirmsUptoSaid : Prop := detectConfirmsUptoRow.holds Try.pinned (OpenSpec.upto detectConfirmsSpec)

end Rows
end Go.Proofs.Ytaaplpbjjnechaa
