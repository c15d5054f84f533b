import Derived.Test.YtmdgbejfdcfhpaaStbCa
import Derived.Test.YtmdgbejfdcfhpaaSymZ
import Derived.Test.YtmdgbejfdcfhpaaShl
namespace Go.Proofs.Ytmdgbejfdcfhpaa
open Go.Sym
set_option linter.unusedVariables false
set_option linter.unusedSimpArgs false

/-! ### Collect, Sorted -/
theorem vlX_get {l : List Int} {i : Nat} (h : i < (vlX l).length) : (vlX l).getD i [] = [vI (l.getD i 0)] := by
  rw [vlX_len] at h
  simp [vlX, List.getD_eq_getElem?_getD, h]
theorem rowI_succ {l : List Int} {i : Nat} (h : i < l.length) : rowI (l.take (i + 1)) = rowI (l.take i) ++ [[cI (l.getD i 0)]] := by
  rw [List.take_succ_eq_append_getElem h, rowI, rowI, List.map_append]
  simp [List.getD_eq_getElem?_getD, h]
def coI (n : Nat) (css : List (List C)) : S := mkO 13 14 [(2, .b (.v (.c (.ptr 2 0))))] [(2, .pcells [.row 0 n]), (0, .row 3 1 css)]
def coP (n : Nat) (css : List (List C)) : S := mkO 13 14 [(2, .pin 2 (.v (.c (.ptr 2 0))))] [(2, .pcells [.row 0 n]), (0, .row 3 1 css)]
theorem f43 (l : List Int) (g : FuncId) (caps : List C) (hg : FIter Try.prog g caps (vlX l)) (hl : l.length ≤ 1000000) :
    FOwn Try.prog 43 [0] [.c .nil, .c (.clo g caps)] [(0, .row 3 1 [])] (.v (.c (.row 0 l.length))) [(0, .row 3 1 (rowI l))] := by
  refine fown_of 14 Try.func43 rfl (by kernel_rfl) ⟨by kernel_rfl, by kernel_rfl, by kernel_rfl, by kernel_rfl, by kernel_rfl, by kernel_rfl, by kernel_rfl⟩ (fun n o hh h => ?_) (by kernel_rfl) (fun B hB hBf => ?_)
  · simp only [List.mem_singleton, Prod.mk.injEq] at h
    rw [h.2]; rfl
  refine run_weaken (wkSlim [0, 1] [0] (by kernel_rfl)) ?_ (List.cons_ne_nil _ _)
  refine reg0 mix (by kernel_rfl) ?_
  refine reg0 mix (by kernel_rfl) ?_
  refine run_weaken (wk_nilCell 2 0 0 3 1 [.nil] (by kernel_rfl) (by kernel_rfl) (by kernel_rfl) (by omega)) ?_ (List.cons_ne_nil _ _)
  refine rBlock ?_
  refine rRange hB hBf (by kernel_rfl) hg (fun i hi => by rw [vlX_get hi]; rfl) (vlX l).length (Nat.le_refl _) (fun i => coI i (rowI (l.take i))) (wkTo [2] [] (by kernel_rfl)) (fun i _ => by kernel_rfl) ?_ ?_
  · intro i hi hik B1
    have hi' : i < l.length := by rwa [vlX_len] at hi
    rw [vlX_get hi]
    refine reg0 mix (by kernel_rfl) ?_
    refine run_nil ⟨rfl, by kernel_rfl, fun B2 => ?_⟩
    refine rBlock ?_
    refine reg mix [] [pf ((by rw [rowI_len, List.length_take]; omega) : i = (rowI (l.take i)).length), pf ((by omega) : (i + 1) * 9 ≤ 140737488355328), pf (rfl : 1 = [[cI (l.getD i 0)]].length)] (by kernel_rfl) ?_
    refine run_nil (blockR_normal (run_nil ⟨hi, coP (i + 1) (rowI (l.take i) ++ [[cI (l.getD i 0)]]), wkTo [2] [10] (by kernel_rfl), by kernel_rfl, ?_⟩))
    rw [← rowI_succ hi']
    exact Wk.refl _
  · intro _
    refine run_nil (blockR_normal ?_)
    refine reg0 mix (by kernel_rfl) ?_
    rw [vlX_len, List.take_of_length_le (Nat.le_refl _)]
    exact run_ret (ownEndsO 4 _ (.inl rfl) (by kernel_rfl) (by kernel_rfl) ⟨by kernel_rfl, .inl rfl, trivial⟩)
theorem f37 (l : List Int) (g : FuncId) (caps : List C) (hg : FIter Try.prog g caps (vlX l)) (hl : l.length ≤ 1000000) :
    FOwn Try.prog 37 [0] [.c (.clo g caps)] [(0, .row 3 1 [])] (.v (.c (.row 0 l.length))) [(0, .row 3 1 (rowI l))] := by
  refine fown_of 8 Try.func37 rfl (by kernel_rfl) ⟨by kernel_rfl, by kernel_rfl, by kernel_rfl, by kernel_rfl, by kernel_rfl, by kernel_rfl, by kernel_rfl⟩ (fun n o hh h => ?_) (by kernel_rfl) (fun B hB hBf => ?_)
  · simp only [List.mem_singleton, Prod.mk.injEq] at h
    rw [h.2]; rfl
  refine reg0 mix (by kernel_rfl) ?_
  refine reg mix [(1, .own [0] [0] (.v (.c (.row 0 l.length))) [(0, .row 3 1 (rowI l))])] [pf (f43 l g caps hg hl)] (by kernel_rfl) ?_
  exact run_ret (ownEndsO 2 _ (.inl rfl) (by kernel_rfl) (by kernel_rfl) ⟨by kernel_rfl, .inl rfl, trivial⟩)
theorem f38 (zs : List Int) (h : zs.length ≤ 1000000) : FOwn Try.prog 38 [] [.c (.row 0 zs.length)] [(0, .row 3 1 (rowI zs))] (.tup []) [(0, .row 3 1 (rowI (sortI zs)))] :=
  fown_sortI ⟨_, Try.func38, by kernel_rfl, by kernel_rfl⟩ (by omega) (fun blk off cap w h1 h2 => Try.slices_Sort_int blk off cap zs w h1 h2 (by omega)) (fun p cap w => Try.slices_Sort_int_none p cap w)
theorem f27 (l : List Int) (g : FuncId) (caps : List C) (hg : FIter Try.prog g caps (vlX l)) (hl : l.length ≤ 1000000) :
    FCall Try.prog 27 [.c (.clo g caps)] (.v (lI (sortI l))) := by
  refine fcall_of Try.func27 rfl (by kernel_rfl) (fun B hB => ?_)
  refine reg0 mix (by kernel_rfl) ?_
  refine run_weaken (wk_mkRow 0 3 1 (by kernel_rfl) (by omega)) ?_ (List.cons_ne_nil _ _)
  refine reg mix [(1, .own [0] [0] (.v (.c (.row 0 l.length))) [(0, .row 3 1 (rowI l))])] [pf (f37 l g caps hg hl)] (by kernel_rfl) ?_
  refine reg mix [(1, .own [0] [] (.tup []) [(0, .row 3 1 (rowI (sortI l)))])] [pf (f38 l hl)] (by kernel_rfl) ?_
  refine reg0 mix (by kernel_rfl) ?_
  refine frzRow hB 2 0 l.length 3 1 (rowI (sortI l)) (elI (sortI l)) [] [] (by kernel_rfl) (by kernel_rfl) (by rw [rowI_len, sortI_len]) ?_ (by kernel_rfl) ?_ (List.cons_ne_nil _ _)
  · intro i hi
    have : i < (sortI l).length := by rw [sortI_len]; exact hi
    simp [rowI, elI, List.getD_eq_getElem?_getD, this]
  · refine run_ret (ret_of (.v (.c (.lst 1 l.length (elI (sortI l))))) (by kernel_rfl) ?_)
    rw [lI, sortI_len]

/-! ### Median -/
def medI (l : List Int) : Int := (sortI l).getD ((l.length - 1) / 2) 0
def medG (l : List Int) : SB := if (l.length : Int) > 1000 then .tup [vI 0, vI 2] else if l.length = 0 then .tup [vI 0, vI 10] else .tup [vI (medI l), vI 0]
theorem f13 (l : List Int) : FCall Try.prog 13 [lI l] (medG l) := by
  refine fcall_of Try.func13 rfl (by kernel_rfl) (fun B hB => ?_)
  refine reg0 mix (by kernel_rfl) ?_
  refine rJoin (fun _ : Unit => mkS 23 [(0, .b (.v (lI l)))] []) (fun _ => (l.length : Int) ≤ 1000 ∧ l.length ≠ 0) (List.cons_ne_nil _ _) ?_ ?_
  · refine rBlock ?_
    refine reg0 mix (by kernel_rfl) ?_
    refine rCond (decide ((l.length : Int) > 1000)) (by kernel_rfl) (fun h => ?_) (fun h => ?_)
    · refine reg0 mix (by kernel_rfl) ?_
      refine run_ret (blockR_ret (left_ret (ret_of (.tup [vI 0, vI 2]) (by kernel_rfl) ?_)))
      rw [medG, if_pos (of_decide_eq_true h)]
    have h1 := of_decide_eq_false h
    refine reg0 mix (by kernel_rfl) ?_
    refine rCond ((l.length : Int) == 0) (by kernel_rfl) (fun h => ?_) (fun h => ?_)
    · refine reg0 mix (by kernel_rfl) ?_
      refine run_ret (blockR_ret (left_ret (ret_of (.tup [vI 0, vI 10]) (by kernel_rfl) ?_)))
      rw [medG, if_neg h1, if_pos (by simp at h; simp [h])]
    have h2 : l.length ≠ 0 := by simpa using h
    exact run_nil (blockR_normal (run_nil (joined () ⟨by omega, h2⟩ (wkTo [0] [] (by kernel_rfl)))))
  rintro _ ⟨h1, h2⟩
  have hl : l.length ≤ 1000000 := by omega
  refine regC mix [(1, con (f28 l)), (2, con (f27 l 39 _ (f39 l hl) hl))] (by kernel_rfl) ?_
  have e1 : IntKind.i64.wrap ((l.length : Int) - 1) = (l.length : Int) - 1 := w64 _ (by omega) (by omega)
  have e2 : ((l.length : Int) - 1).tdiv 2 = ((l.length - 1) / 2 : Nat) := by
    rw [Int.tdiv_eq_ediv_of_nonneg (by omega)]; omega
  have e3 : IntKind.i64.wrap ((IntKind.i64.wrap ((l.length : Int) - 1)).tdiv 2) = ((l.length - 1) / 2 : Nat) := by rw [e1, e2, w64 _ (by omega) (by omega)]
  have hs : (sortI l).length = l.length := sortI_len l
  refine reg mix [] [pf (by omega : (2 : Int) ≠ 0), pf ((by rw [e3, hs]; omega) : 0 ≤ IntKind.i64.wrap ((IntKind.i64.wrap ((l.length : Int) - 1)).tdiv 2) ∧ IntKind.i64.wrap ((IntKind.i64.wrap ((l.length : Int) - 1)).tdiv 2) < ((sortI l).length : Int))] (by kernel_rfl) ?_
  refine run_ret (ret_of (.tup [vI ((sortI l).getD (IntKind.i64.wrap ((IntKind.i64.wrap ((l.length : Int) - 1)).tdiv 2)).toNat 0), vI 0]) (by kernel_rfl) ?_)
  rw [medG, if_neg (by omega), if_neg h2, medI, e3]
  rfl
end Go.Proofs.Ytmdgbejfdcfhpaa
