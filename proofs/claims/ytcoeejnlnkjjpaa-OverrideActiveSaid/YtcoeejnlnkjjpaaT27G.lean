import Derived.Test.YtcoeejnlnkjjpaaT27F
namespace Go.Proofs.Ytcoeejnlnkjjpaa
open Go.Sym
set_option linter.unusedVariables false
set_option linter.unusedSimpArgs false

def actI (l : List Ov) (m : Int) : List Int := (actL l m l.length).map fun x => (x.1 : Int)
def argOk (l : List Ov) (m : Int) : Bool := valid l && within m 38400
def active (l : List Ov) (m : Int) : List Int := if argOk l m then actI l m else []
def actErr (l : List Ov) (m : Int) : Int := if argOk l m then 0 else 1

def rowF (l : List Ov) (m : Int) (i : Nat) : List (List C) := ((actL l m l.length).take i).map fun x => [cI x.1]
theorem rowF_succ {l : List Ov} {m : Int} {i : Nat} (h : i < (actX l m).length) : rowF l m (i + 1) = rowF l m i ++ [[cI (((actL l m l.length).getD i (0, zOv)).1 : Nat)]] := by
  rw [actX_len] at h
  unfold rowF
  rw [List.take_succ_eq_append_getElem h, List.map_append]
  simp [List.getD_eq_getElem?_getD, h]
theorem rowF_len {l : List Ov} {m : Int} {i : Nat} (h : i ≤ (actX l m).length) : (rowF l m i).length = i := by
  rw [actX_len] at h
  simp [rowF]; omega
theorem actX_get {l : List Ov} {m : Int} {i : Nat} (h : i < (actX l m).length) : (actX l m).getD i [] = [vI (((actL l m l.length).getD i (0, zOv)).1 : Nat), .agg (encOv ((actL l m l.length).getD i (0, zOv)).2)] := by
  have h' := h
  rw [actX_len] at h'
  simp [actX, List.getD_eq_getElem?_getD, h']

theorem valid_len {l : List Ov} (h : valid l = true) : l.length ≤ 100 := by
  simp only [valid, Bool.and_eq_true, decide_eq_true_iff] at h
  exact h.1

def acI (l : List Ov) (n : Nat) (css : List (List C)) : S := mkS 26 [(6, .b (.v (.c (.ptr 6 0))))] [(6, .pcells [.row 1 n]), (1, .row 3 1 css)]
def acP (l : List Ov) (n : Nat) (css : List (List C)) : S := mkS 26 [(6, .pin 6 (.v (.c (.ptr 6 0))))] [(6, .pcells [.row 1 n]), (1, .row 3 1 css)]

theorem f10 (l : List Ov) (m : Int) : FCall Try.prog 10 [lOv l, vI m] (.tup [lI (active l m), vI (actErr l m)]) := by
  refine fcall_of Try.func10 rfl (by kernel_rfl) (fun B hB => ?_)
  refine reg0 mix (by kernel_rfl) ?_
  refine regC mix [(1, con (f14 l)), (5, con (f21 m))] (by kernel_rfl) ?_
  refine rCond (!valid l || !within m 38400) (by kernel_rfl) (fun h => ?_) (fun h => ?_)
  · have hk : argOk l m = false := by
      revert h; unfold argOk; cases valid l <;> cases within m 38400 <;> simp
    refine reg0 mix (by kernel_rfl) ?_
    refine run_weaken (wk_nilLst 4 1 (elI []) (by kernel_rfl)) ?_ (List.cons_ne_nil _ _)
    refine run_ret (ret_of (.tup [lI [], vI 1]) (by kernel_rfl) ?_)
    simp [active, actErr, hk]
  have hv : valid l = true ∧ within m 38400 = true := by
    revert h; cases valid l <;> cases within m 38400 <;> simp
  have hk : argOk l m = true := by simp [argOk, hv]
  have hl := valid_len hv.1
  have hx := actX_le l m
  refine reg0 mix (by kernel_rfl) ?_
  refine regC mix [(2, con (f22 l m))] (by kernel_rfl) ?_
  refine run_weaken (wk_nilCell 6 0 1 3 1 [.nil] (by kernel_rfl) (by kernel_rfl) (by kernel_rfl) (by omega)) ?_ (List.cons_ne_nil _ _)
  refine rBlock ?_
  refine rRange hB.r hB.fn (by kernel_rfl) (f30 l m hl) (fun i hi => by rw [actX_get hi]; rfl) (actX l m).length (Nat.le_refl _) (fun i => acI l i (rowF l m i)) (wkTo [6] [] (by kernel_rfl)) (fun i _ => by kernel_rfl) ?_ ?_
  · intro i hi hik B1
    rw [actX_get hi]
    refine reg0 mix (by kernel_rfl) ?_
    refine run_nil ⟨rfl, by kernel_rfl, fun B2 => ?_⟩
    refine rBlock ?_
    refine reg mix [] [pf ((rowF_len (by omega)).symm : i = (rowF l m i).length), pf ((by omega) : (i + 1) * 9 ≤ 140737488355328), pf (rfl : 1 = [[cI (((actL l m l.length).getD i (0, zOv)).1 : Nat)]].length)] (by kernel_rfl) ?_
    refine run_nil (blockR_normal (run_nil ⟨hi, acP l (i + 1) (rowF l m i ++ [[cI (((actL l m l.length).getD i (0, zOv)).1 : Nat)]]), wkTo [6] [23] (by kernel_rfl), by kernel_rfl, ?_⟩))
    rw [← rowF_succ hi]
    exact Wk.refl _
  · intro _
    refine run_nil (blockR_normal ?_)
    refine reg0 mix (by kernel_rfl) ?_
    refine frzRow hB 4 1 (actX l m).length 3 1 (rowF l m (actX l m).length) (elI (actI l m)) [5] [6] (by kernel_rfl) (by kernel_rfl) (rowF_len (Nat.le_refl _)).symm ?_ (by kernel_rfl) ?_ (List.cons_ne_nil _ _)
    · intro i hi
      rw [actX_len] at hi
      simp [elI, actI, rowF, actX_len, List.getD_eq_getElem?_getD, hi]
    · refine run_ret (ret_of (.tup [.c (.lst 1 (actX l m).length (elI (actI l m))), vI 0]) (by kernel_rfl) ?_)
      simp only [active, actErr, hk, if_true]
      rw [show (actX l m).length = (actI l m).length by rw [actX_len]; simp [actI]]
      rfl

end Go.Proofs.Ytcoeejnlnkjjpaa
