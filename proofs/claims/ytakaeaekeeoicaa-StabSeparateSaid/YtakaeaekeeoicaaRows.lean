/-
  No cell of these rows narrows 'for every input' (looked for: loops, veiled, ifaces, maps, wideKeys, modest, calm, conditions, laid).
  DERIVED. THE GIVEN ROWS OF THIS SEAT. 7 by the template 'for every input the law returns true; each argument reads behind the call as it read before'; 0 by the template 'total and deterministic' (their statements: YtakaeaekeeoicaaTotals.lean).
  GIVEN WITH THE SEED: the statements are not yours to turn. If you find one false, say at which input.
  Laid BY PROGRAM, IN A SANDBOX (cutbox-rows.mjs): the forced cells as the released guide's own fill.sh prints them over the translation 6b33e21c518d0a70… (all of the seat's roots in one cut). By AI agents, Wed Nov 11 2026. No macro, syntax, notation, axiom, sorry.
-/
import Derived.Test.YtakaeaekeeoicaaChecked
import GoSem.Claim
import GoSem.ClaimJoined
import GoSem.ClaimMapViews
import Derived.JoinedTies
import Derived.KernelRfl
namespace Go.Proofs.Ytakaeaekeeoicaa
/- THE CELL 'sum', in the pinned program and in every row, IS THE sha256 OF THE DUMP (.gsa) THAT YtakaeaekeeoicaaProg.lean LOADS. Nothing in Lean hashes anything: it is a label: what it is worth is what the hold of that sum in a sandbox is worth. -/
noncomputable def Try.pinned : Pinned := { name := "ytakaeaekeeoicaa", sum := "6b33e21c518d0a706181fbc570e8d639c486ee1956aefe979fc7bd1374e711fe", checked := Try.checked }
namespace Rows
def none {H : Type} : Left H := { results := [], args := [] }

/-- 'observatorylaw19.StabMatchesReference': WHATEVER THE INPUT: true; the input reads as it did. -/
def stabMatchesReferenceSpec : ChangeSpec := { name := "stabMatchesReference", fn := fun _ => fun
  | [d1, d2, d3] => { results := [.lit (.bool true)], args := [d1, d2, d3] }
  | _ => none }
def stabMatchesReferenceRow : OpenClaim := { program := "ytakaeaekeeoicaa", sum := "6b33e21c518d0a706181fbc570e8d639c486ee1956aefe979fc7bd1374e711fe", func := "observatory/observatorylaw19.StabMatchesReference", spec := "stabMatchesReference", unfollowed := true, recurses := true, apart := false }
def StabMatchesReferenceSaid : Prop := stabMatchesReferenceRow.holds Try.pinned (OpenSpec.ofChange stabMatchesReferenceSpec)

/-- ITS FALSE NEIGHBOUR: 'it returns false'. Refute it at one input. -/
def stabMatchesReferenceWrong : ChangeSpec := { name := "stabMatchesReference", fn := fun _ => fun
  | [d1, d2, d3] => { results := [.lit (.bool false)], args := [d1, d2, d3] }
  | _ => none }
def StabMatchesReferenceWrongFalsely : Prop := stabMatchesReferenceRow.holds Try.pinned (OpenSpec.ofChange stabMatchesReferenceWrong)

/-- 'observatorylaw19.StabAccepts': WHATEVER THE INPUT: true; the input reads as it did. -/
def stabAcceptsSpec : ChangeSpec := { name := "stabAccepts", fn := fun _ => fun
  | [d] => { results := [.lit (.bool true)], args := [d] }
  | _ => none }
def stabAcceptsRow : OpenClaim := { program := "ytakaeaekeeoicaa", sum := "6b33e21c518d0a706181fbc570e8d639c486ee1956aefe979fc7bd1374e711fe", func := "observatory/observatorylaw19.StabAccepts", spec := "stabAccepts", unfollowed := true, recurses := true, apart := false }
def StabAcceptsSaid : Prop := stabAcceptsRow.holds Try.pinned (OpenSpec.ofChange stabAcceptsSpec)

/-- ITS FALSE NEIGHBOUR: 'it returns false'. Refute it at one input. -/
def stabAcceptsWrong : ChangeSpec := { name := "stabAccepts", fn := fun _ => fun
  | [d] => { results := [.lit (.bool false)], args := [d] }
  | _ => none }
def StabAcceptsWrongFalsely : Prop := stabAcceptsRow.holds Try.pinned (OpenSpec.ofChange stabAcceptsWrong)

/-- 'observatorylaw19.StabLeast': WHATEVER THE INPUT: true; the input reads as it did. -/
def stabLeastSpec : ChangeSpec := { name := "stabLeast", fn := fun _ => fun
  | [d1, d2, d3, d4] => { results := [.lit (.bool true)], args := [d1, d2, d3, d4] }
  | _ => none }
def stabLeastRow : OpenClaim := { program := "ytakaeaekeeoicaa", sum := "6b33e21c518d0a706181fbc570e8d639c486ee1956aefe979fc7bd1374e711fe", func := "observatory/observatorylaw19.StabLeast", spec := "stabLeast", unfollowed := true, recurses := true, apart := false }
def StabLeastSaid : Prop := stabLeastRow.holds Try.pinned (OpenSpec.ofChange stabLeastSpec)

/-- ITS FALSE NEIGHBOUR: 'it returns false'. Refute it at one input. -/
def stabLeastWrong : ChangeSpec := { name := "stabLeast", fn := fun _ => fun
  | [d1, d2, d3, d4] => { results := [.lit (.bool false)], args := [d1, d2, d3, d4] }
  | _ => none }
def StabLeastWrongFalsely : Prop := stabLeastRow.holds Try.pinned (OpenSpec.ofChange stabLeastWrong)

/-- 'observatorylaw19.StabOrder': WHATEVER THE INPUT: true; the input reads as it did. -/
def stabOrderSpec : ChangeSpec := { name := "stabOrder", fn := fun _ => fun
  | [d] => { results := [.lit (.bool true)], args := [d] }
  | _ => none }
def stabOrderRow : OpenClaim := { program := "ytakaeaekeeoicaa", sum := "6b33e21c518d0a706181fbc570e8d639c486ee1956aefe979fc7bd1374e711fe", func := "observatory/observatorylaw19.StabOrder", spec := "stabOrder", unfollowed := true, recurses := true, apart := false }
def StabOrderSaid : Prop := stabOrderRow.holds Try.pinned (OpenSpec.ofChange stabOrderSpec)

/-- ITS FALSE NEIGHBOUR: 'it returns false'. Refute it at one input. -/
def stabOrderWrong : ChangeSpec := { name := "stabOrder", fn := fun _ => fun
  | [d] => { results := [.lit (.bool false)], args := [d] }
  | _ => none }
def StabOrderWrongFalsely : Prop := stabOrderRow.holds Try.pinned (OpenSpec.ofChange stabOrderWrong)

/-- 'observatorylaw19.StabFurther': WHATEVER THE INPUT: true; the input reads as it did. -/
def stabFurtherSpec : ChangeSpec := { name := "stabFurther", fn := fun _ => fun
  | [d1, d2, d3, d4, d5] => { results := [.lit (.bool true)], args := [d1, d2, d3, d4, d5] }
  | _ => none }
def stabFurtherRow : OpenClaim := { program := "ytakaeaekeeoicaa", sum := "6b33e21c518d0a706181fbc570e8d639c486ee1956aefe979fc7bd1374e711fe", func := "observatory/observatorylaw19.StabFurther", spec := "stabFurther", unfollowed := true, recurses := true, apart := false }
def StabFurtherSaid : Prop := stabFurtherRow.holds Try.pinned (OpenSpec.ofChange stabFurtherSpec)

/-- ITS FALSE NEIGHBOUR: 'it returns false'. Refute it at one input. -/
def stabFurtherWrong : ChangeSpec := { name := "stabFurther", fn := fun _ => fun
  | [d1, d2, d3, d4, d5] => { results := [.lit (.bool false)], args := [d1, d2, d3, d4, d5] }
  | _ => none }
def StabFurtherWrongFalsely : Prop := stabFurtherRow.holds Try.pinned (OpenSpec.ofChange stabFurtherWrong)

/-- 'observatorylaw19.StabMoves': WHATEVER THE INPUT: true; the input reads as it did. -/
def stabMovesSpec : ChangeSpec := { name := "stabMoves", fn := fun _ => fun
  | [d1, d2] => { results := [.lit (.bool true)], args := [d1, d2] }
  | _ => none }
def stabMovesRow : OpenClaim := { program := "ytakaeaekeeoicaa", sum := "6b33e21c518d0a706181fbc570e8d639c486ee1956aefe979fc7bd1374e711fe", func := "observatory/observatorylaw19.StabMoves", spec := "stabMoves", unfollowed := true, recurses := true, apart := false }
def StabMovesSaid : Prop := stabMovesRow.holds Try.pinned (OpenSpec.ofChange stabMovesSpec)

/-- ITS FALSE NEIGHBOUR: 'it returns false'. Refute it at one input. -/
def stabMovesWrong : ChangeSpec := { name := "stabMoves", fn := fun _ => fun
  | [d1, d2] => { results := [.lit (.bool false)], args := [d1, d2] }
  | _ => none }
def StabMovesWrongFalsely : Prop := stabMovesRow.holds Try.pinned (OpenSpec.ofChange stabMovesWrong)

/-- 'observatorylaw19.StabSeparate': WHATEVER THE INPUT: true; the input reads as it did. -/
def stabSeparateSpec : ChangeSpec := { name := "stabSeparate", fn := fun _ => fun
  | [d1, d2] => { results := [.lit (.bool true)], args := [d1, d2] }
  | _ => none }
def stabSeparateRow : OpenClaim := { program := "ytakaeaekeeoicaa", sum := "6b33e21c518d0a706181fbc570e8d639c486ee1956aefe979fc7bd1374e711fe", func := "observatory/observatorylaw19.StabSeparate", spec := "stabSeparate", unfollowed := true, recurses := true, apart := false }
def StabSeparateSaid : Prop := stabSeparateRow.holds Try.pinned (OpenSpec.ofChange stabSeparateSpec)

/-- ITS FALSE NEIGHBOUR: 'it returns false'. Refute it at one input. -/
def stabSeparateWrong : ChangeSpec := { name := "stabSeparate", fn := fun _ => fun
  | [d1, d2] => { results := [.lit (.bool false)], args := [d1, d2] }
  | _ => none }
def StabSeparateWrongFalsely : Prop := stabSeparateRow.holds Try.pinned (OpenSpec.ofChange stabSeparateWrong)

/- THE SECOND FORM. 'bulk': how many values and letters a reading holds, each counted each time it is reached (what is shared counts as often as it is met; a slice's spare places count too). A statement '..UptoSaid' is the law's where the arguments, and the package variables that the reading takes, are together of bulk at most 1048576: NARROWER than '..Said'. Prove '..Said' where nothing that the law and all that it calls make is longer than what came in: it says more and counts as full. Else prove '..UptoSaid'. A law counts once. -/
mutual
def uptoBulk {H : Type} : DataW H → Nat
  | .lit (.string bytes) => bytes.length + 1
  | .lit _ => 1
  | .nil => 1
  | .ptr d => uptoBulk d + 1
  | .slice elems spare => uptoBulkAll elems + uptoBulkAll spare + 1
  | .agg parts => uptoBulkAll parts + 1
  | .iface _ d => uptoBulk d + 1
  | .map entries => uptoBulkEntries entries + 1
  | .held _ => 1
def uptoBulkAll {H : Type} : List (DataW H) → Nat
  | [] => 0
  | d :: r => uptoBulk d + uptoBulkAll r
def uptoBulkEntries {H : Type} : List (Lit × DataW H) → Nat
  | [] => 0
  | x :: r => uptoBulkEntry x + uptoBulkEntries r
def uptoBulkEntry {H : Type} : Lit × DataW H → Nat
  | (.string bytes, d) => bytes.length + uptoBulk d + 1
  | (_, d) => uptoBulk d + 1
 end
def uptoSmall : (H : Type) → List (DataW H) → Bool := fun _ ds => decide (uptoBulkAll ds ≤ 1048576)
def OpenSpec.upto (s : _root_.Go.ChangeSpec) : _root_.Go.OpenSpec := { _root_.Go.OpenSpec.ofChange s with cond := some uptoSmall }

/-- 'observatorylaw19.StabMatchesReference', WHERE WHAT IT READS IS OF BULK AT MOST 1048576: true; the input reads as it did. -/
def stabMatchesReferenceUptoRow : OpenClaim := { program := "ytakaeaekeeoicaa", sum := "6b33e21c518d0a706181fbc570e8d639c486ee1956aefe979fc7bd1374e711fe", func := "observatory/observatorylaw19.StabMatchesReference", spec := "stabMatchesReference", unfollowed := true, recurses := true, apart := false, narrowed := true }
def StabMatchesReferenceUptoSaid : Prop := stabMatchesReferenceUptoRow.holds Try.pinned (OpenSpec.upto stabMatchesReferenceSpec)

/-- 'observatorylaw19.StabAccepts', WHERE WHAT IT READS IS OF BULK AT MOST 1048576: true; the input reads as it did. -/
def stabAcceptsUptoRow : OpenClaim := { program := "ytakaeaekeeoicaa", sum := "6b33e21c518d0a706181fbc570e8d639c486ee1956aefe979fc7bd1374e711fe", func := "observatory/observatorylaw19.StabAccepts", spec := "stabAccepts", unfollowed := true, recurses := true, apart := false, narrowed := true }
def StabAcceptsUptoSaid : Prop := stabAcceptsUptoRow.holds Try.pinned (OpenSpec.upto stabAcceptsSpec)

/-- 'observatorylaw19.StabLeast', WHERE WHAT IT READS IS OF BULK AT MOST 1048576: true; the input reads as it did. -/
def stabLeastUptoRow : OpenClaim := { program := "ytakaeaekeeoicaa", sum := "6b33e21c518d0a706181fbc570e8d639c486ee1956aefe979fc7bd1374e711fe", func := "observatory/observatorylaw19.StabLeast", spec := "stabLeast", unfollowed := true, recurses := true, apart := false, narrowed := true }
def StabLeastUptoSaid : Prop := stabLeastUptoRow.holds Try.pinned (OpenSpec.upto stabLeastSpec)

/-- 'observatorylaw19.StabOrder', WHERE WHAT IT READS IS OF BULK AT MOST 1048576: true; the input reads as it did. -/
def stabOrderUptoRow : OpenClaim := { program := "ytakaeaekeeoicaa", sum := "6b33e21c518d0a706181fbc570e8d639c486ee1956aefe979fc7bd1374e711fe", func := "observatory/observatorylaw19.StabOrder", spec := "stabOrder", unfollowed := true, recurses := true, apart := false, narrowed := true }
def StabOrderUptoSaid : Prop := stabOrderUptoRow.holds Try.pinned (OpenSpec.upto stabOrderSpec)

/-- 'observatorylaw19.StabFurther', WHERE WHAT IT READS IS OF BULK AT MOST 1048576: true; the input reads as it did. -/
def stabFurtherUptoRow : OpenClaim := { program := "ytakaeaekeeoicaa", sum := "6b33e21c518d0a706181fbc570e8d639c486ee1956aefe979fc7bd1374e711fe", func := "observatory/observatorylaw19.StabFurther", spec := "stabFurther", unfollowed := true, recurses := true, apart := false, narrowed := true }
def StabFurtherUptoSaid : Prop := stabFurtherUptoRow.holds Try.pinned (OpenSpec.upto stabFurtherSpec)

/-- 'observatorylaw19.StabMoves', WHERE WHAT IT READS IS OF BULK AT MOST 1048576: true; the input reads as it did. -/
def stabMovesUptoRow : OpenClaim := { program := "ytakaeaekeeoicaa", sum := "6b33e21c518d0a706181fbc570e8d639c486ee1956aefe979fc7bd1374e711fe", func := "observatory/observatorylaw19.StabMoves", spec := "stabMoves", unfollowed := true, recurses := true, apart := false, narrowed := true }
def StabMovesUptoSaid : Prop := stabMovesUptoRow.holds Try.pinned (OpenSpec.upto stabMovesSpec)

/-- 'observatorylaw19.StabSeparate', WHERE WHAT IT READS IS OF BULK AT MOST 1048576: true; the input reads as it did. -/
def stabSeparateUptoRow : OpenClaim := { program := "ytakaeaekeeoicaa", sum := "6b33e21c518d0a706181fbc570e8d639c486ee1956aefe979fc7bd1374e711fe", func := "observatory/observatorylaw19.StabSeparate", spec := "stabSeparate", unfollowed := true, recurses := true, apart := false, narrowed := true }
def StabSeparateUptoSaid : Prop := stabSeparateUptoRow.holds Try.pinned (OpenSpec.upto stabSeparateSpec)

end Rows
end Go.Proofs.Ytakaeaekeeoicaa
