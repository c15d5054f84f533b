import Derived.Test.YtcoeejnlnkjjpaaSymR
import Derived.Test.YtcoeejnlnkjjpaaChecked
namespace Go.Proofs.Ytcoeejnlnkjjpaa
open Go.Sym
set_option linter.unusedVariables false
set_option linter.unusedSimpArgs false

theorem mix : Try.prog.follows .mixedOrders = true := by kernel_rfl

/-- An override. -/
structure Ov where
  kind : Int
  tel : Int
  prg : Int
  tile : Int
  frm : Int
  til : Int
  known : Int

def encOv (o : Ov) : List C := [cI o.kind, cI o.tel, cI o.prg, cI o.tile, cI o.frm, cI o.til, cI o.known]
def zOv : Ov := ⟨0, 0, 0, 0, 0, 0, 0⟩
def elOv (l : List Ov) (i : Nat) : List C := encOv (l.getD i zOv)
def lOv (l : List Ov) : CV := .c (.lst 7 l.length (elOv l))
def elI (l : List Int) (i : Nat) : List C := [cI (l.getD i 0)]
def lI (l : List Int) : CV := .c (.lst 1 l.length (elI l))

def within (x n : Int) : Bool := decide (0 ≤ x) && decide (x < n)
theorem f25 (x n : Int) : FCall Try.prog 25 [vI x, vI n] (.v (vB (within x n))) := by
  refine fcall_of_tri Try.func25 rfl (by kernel_rfl) (fun B hB => ?_)
  refine run_seq (run_reg [] mix (asks_nil (by kernel_rfl)) ?_)
  refine run_seq (run_reg [] mix (asks_nil (by kernel_rfl)) ?_)
  refine run_ret ⟨.inl rfl, ?_⟩
  kernel_rfl

def inside (n low high : Int) : Bool := decide (low ≤ n) && decide (n ≤ high)
theorem f26 (n low high : Int) : FCall Try.prog 26 [vI n, vI low, vI high] (.v (vB (inside n low high))) := by
  refine fcall_of_tri Try.func26 rfl (by kernel_rfl) (fun B hB => ?_)
  refine run_seq (run_reg [] mix (asks_nil (by kernel_rfl)) ?_)
  refine run_seq (run_reg [] mix (asks_nil (by kernel_rfl)) ?_)
  refine run_ret ⟨.inl rfl, ?_⟩
  kernel_rfl

theorem f21 (m : Int) : FCall Try.prog 21 [vI m] (.v (vB (within m 38400))) := by
  refine fcall_of_tri Try.func21 rfl (by kernel_rfl) (fun B hB => ?_)
  refine run_seq (run_reg [] mix (asks_nil (by kernel_rfl)) ?_)
  refine run_seq (run_reg [(1, .call (.v (vB (within m 38400))))] mix (asks_of [FCall Try.prog 25 [vI m, vI 38400] (.v (vB (within m 38400)))] (by kernel_rfl) (f25 _ _)) ?_)
  refine run_ret ⟨.inl rfl, ?_⟩
  kernel_rfl

theorem f23 (m : Int) : FCall Try.prog 23 [vI m] (.v (vB (inside m 0 38399))) := by
  refine fcall_of_tri Try.func23 rfl (by kernel_rfl) (fun B hB => ?_)
  refine run_seq (run_reg [] mix (asks_nil (by kernel_rfl)) ?_)
  refine run_seq (run_reg [] mix (asks_nil (by kernel_rfl)) ?_)
  refine run_ret ⟨.inl rfl, ?_⟩
  kernel_rfl

def few (n : Nat) : Bool := decide ((n : Int) ≤ 20) || (decide ((99 : Int) ≤ n) && decide ((n : Int) ≤ 102))
theorem f9 (l : List Ov) : FCall Try.prog 9 [lOv l] (.v (vB (few l.length))) := by
  refine fcall_of_tri Try.func9 rfl (by kernel_rfl) (fun B hB => ?_)
  refine run_seq (run_reg [] mix (asks_nil (by kernel_rfl)) ?_)
  refine run_seq (run_reg [] mix (asks_nil (by kernel_rfl)) ?_)
  refine run_ret ⟨.inl rfl, ?_⟩
  kernel_rfl

def force (o : Ov) (m : Int) : Bool := decide (o.frm ≤ m) && decide (o.known ≤ m) && decide (m ≤ o.til)
theorem f24 (o : Ov) (m : Int) : FCall Try.prog 24 [.agg (encOv o), vI m] (.v (vB (force o m))) := by
  refine fcall_of_tri Try.func24 rfl (by kernel_rfl) (fun B hB => ?_)
  refine run_seq (run_reg [] mix (asks_nil (by kernel_rfl)) ?_)
  refine run_seq (run_reg [] mix (asks_nil (by kernel_rfl)) ?_)
  refine run_ret ⟨.inl rfl, ?_⟩
  kernel_rfl

def excl (o : Ov) (t p u : Int) : Bool := ((o.kind == 1 && o.tel == t) || (o.kind == 2 && o.prg == p)) || (o.kind == 3 && o.tile == u)
theorem f19 (o : Ov) (t p u : Int) : FCall Try.prog 19 [.agg (encOv o), vI t, vI p, vI u] (.v (vB (excl o t p u))) := by
  refine fcall_of_tri Try.func19 rfl (by kernel_rfl) (fun B hB => ?_)
  refine run_seq (run_reg [] mix (asks_nil (by kernel_rfl)) ?_)
  refine run_seq (run_reg [] mix (asks_nil (by kernel_rfl)) ?_)
  refine run_ret ⟨.inl rfl, ?_⟩
  kernel_rfl

end Go.Proofs.Ytcoeejnlnkjjpaa
