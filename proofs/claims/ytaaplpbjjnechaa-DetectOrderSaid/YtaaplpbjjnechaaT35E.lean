import Derived.Test.YtaaplpbjjnechaaT35D
namespace Go.Proofs.Ytaaplpbjjnechaa
open Go.Sym
set_option linter.unusedVariables false
set_option linter.unusedSimpArgs false

/-! ### List -/
structure V4 where
  a : Int
  b : Int
  c : Int
  d : Int
structure M4 where
  a : Bool
  b : Bool
  c : Bool
  d : Bool
def encV (v : V4) : List C := [cI v.a, cI v.b, cI v.c, cI v.d]
def encM (m : M4) : List C := [.bool m.a, .bool m.b, .bool m.c, .bool m.d]
def V4.at (v : V4) : Nat → Int
  | 0 => v.a
  | 1 => v.b
  | 2 => v.c
  | _ => v.d
def M4.at (m : M4) : Nat → Bool
  | 0 => m.a
  | 1 => m.b
  | 2 => m.c
  | _ => m.d
def dAt (t f a : Int) (v : V4) (i : Nat) : De := ⟨t, i, f, v.at i, a⟩
def acc (t f a : Int) (m : M4) (v : V4) (n : Nat) : List De := ((List.range n).filter m.at).map (dAt t f a v)
def okL (t f a : Int) (v : V4) : Bool := (List.range 4).all fun i => okDe (dAt t f a v i)
def lisR (t f a : Int) (m : M4) (v : V4) : List De × Int := if okL t f a v then (acc t f a m v 4, 0) else ([], 1)
def rowDe (l : List De) : List (List C) := l.map encDe
theorem acc_succ (t f a : Int) (m : M4) (v : V4) (n : Nat) : acc t f a m v (n + 1) = acc t f a m v n ++ if m.at n then [dAt t f a v n] else [] := by
  rw [acc, acc, List.range_succ, List.filter_append, List.map_append]
  congr 1
  cases h : m.at n <;> simp [List.filter_cons, h]
theorem okL_bad {t f a : Int} {v : V4} {i : Nat} (hi : i < 4) (h : okDe (dAt t f a v i) = false) : okL t f a v = false := by
  rw [Bool.eq_false_iff]
  intro h'
  have := List.all_eq_true.1 h' i (by simpa using hi)
  rw [h] at this; cases this
theorem rowDe_len (l : List De) : (rowDe l).length = l.length := by simp [rowDe]
theorem acc_le (t f a : Int) (m : M4) (v : V4) (n : Nat) : (acc t f a m v n).length ≤ n := by
  rw [acc, List.length_map]; exact Nat.le_trans (List.length_filter_le _ _) (by simp)
def li15 (t f a : Int) (m : M4) (v : V4) (i : Nat) : S := mkS 38 [(0, .b (.v (vI t))), (1, .b (.v (vI f))), (2, .b (.v (vI a))), (8, .b (.v (.c (.kptr (encM m) 0)))), (9, .b (.v (.c (.kptr (encV v) 0)))), (12, .b (.v (.c (.row 1 (acc t f a m v i).length)))), (13, .b (.v (vI i)))] [(1, .row 32 5 (rowDe (acc t f a m v i)))]
def li15' (t f a : Int) (m : M4) (v : V4) (i n : Nat) : S := mkS 38 [(0, .b (.v (vI t))), (1, .b (.v (vI f))), (2, .b (.v (vI a))), (8, .b (.v (.c (.kptr (encM m) 0)))), (9, .b (.v (.c (.kptr (encV v) 0)))), (12, .b (.v (.c (.row 1 (acc t f a m v n).length)))), (13, .b (.v (vI i)))] [(1, .row 32 5 (rowDe (acc t f a m v n)))]
theorem f15 (t f a : Int) (m : M4) (v : V4) : FCall Try.prog 15 [vI t, vI f, vI a, .agg (encM m), .agg (encV v)] (.tup [lDe (lisR t f a m v).1, vI (lisR t f a m v).2]) := by
  refine fcall_of Try.func15 rfl (by kernel_rfl) (fun B hB => ?_)
  refine reg mix [(0, .imm), (1, .imm)] [] (by kernel_rfl) ?_
  refine reg0 mix (by kernel_rfl) ?_
  refine run_weaken (wk_nilRow 12 1 32 5 (by kernel_rfl) (by kernel_rfl) (by omega)) ?_ (List.cons_ne_nil _ _)
  refine reg0 mix (by kernel_rfl) ?_
  refine rBlock ?_
  refine rLoop (li15 t f a m v) (fun i => i ≤ 4 ∧ ∀ j, j < i → okDe (dAt t f a v j) = true) (fun i => 4 - i) 0 (wkTo [0, 1, 2, 8, 9, 12, 13] [] (by kernel_rfl)) ⟨by omega, fun j hj => by omega⟩ ?_
  rintro i ⟨h1, h2⟩
  refine reg0 mix (by kernel_rfl) ?_
  rcases (by omega : i = 0 ∨ i = 1 ∨ i = 2 ∨ i = 3 ∨ i = 4) with rfl | rfl | rfl | rfl | rfl
  · refine rCondT true (by kernel_rfl) rfl ?_
    have h4 : (0 : Int) ≤ 0 ∧ (0 : Int) < 4 := by omega
    have hle := acc_le t f a m v 0
    have hln : (acc t f a m v 0).length = (rowDe (acc t f a m v 0)).length := (rowDe_len _).symm
    have hsu := acc_succ t f a m v 0
    refine rJoin (fun _ : Unit => li15' t f a m v 0 1) (fun _ => okDe (dAt t f a v 0) = true) (List.cons_ne_nil _ _) ?_ ?_
    · refine rBlock ?_
      refine reg mix [] [pf h4] (by kernel_rfl) ?_
      refine regC mix [(1, con (f28 (dAt t f a v 0)))] (by kernel_rfl) ?_
      refine rCond (!okDe (dAt t f a v 0)) (by kernel_rfl) (fun h => ?_) (fun h => ?_)
      · refine reg0 mix (by kernel_rfl) ?_
        refine run_weaken (wk_nilLst 10 5 (elDe []) (by kernel_rfl)) ?_ (List.cons_ne_nil _ _)
        refine run_ret (blockR_ret (left_ret (loopR_ret (blockR_ret (ret_of (.tup [lDe [], vI 1]) (by kernel_rfl) ?_)))))
        rw [lisR, okL_bad (i := 0) (by omega) (by simpa using h)]; rfl
      · have hok : okDe (dAt t f a v 0) = true := by simpa using h
        refine reg mix [] [pf h4] (by kernel_rfl) ?_
        refine rCond m.a (by kernel_rfl) (fun hm => ?_) (fun hm => ?_)
        · have e : acc t f a m v 1 = acc t f a m v 0 ++ [dAt t f a v 0] := by rw [hsu, if_pos (show m.at 0 = true from hm)]
          refine reg mix [] [pf hln, pf (by omega : ((acc t f a m v 0).length + 1) * 41 ≤ 140737488355328), pf (rfl : 1 = [encDe (dAt t f a v 0)].length)] (by kernel_rfl) ?_
          refine run_nil (blockR_normal (run_nil (joined () hok ?_)))
          unfold li15'
          rw [e, List.length_append, show rowDe (acc t f a m v 0 ++ [dAt t f a v 0]) = rowDe (acc t f a m v 0) ++ [encDe (dAt t f a v 0)] by simp [rowDe]]
          exact wkTo [0, 1, 2, 8, 9, 12, 13] [14, 35] (by kernel_rfl)
        · have e : acc t f a m v 1 = acc t f a m v 0 := by rw [hsu, if_neg (show ¬ m.at 0 = true by rw [show m.at 0 = false from hm]; exact Bool.false_ne_true), List.append_nil]
          refine run_nil (blockR_normal (run_nil (joined () hok ?_)))
          unfold li15'
          rw [e]
          exact wkTo [0, 1, 2, 8, 9, 12, 13] [14] (by kernel_rfl)
    · rintro _ hok
      refine reg0 mix (by kernel_rfl) ?_
      refine run_nil (loopR_next (1 : Nat) (wkTo [0, 1, 2, 8, 9, 12, 13] [] (by kernel_rfl)) ⟨by omega, fun j hj => ?_⟩ (by omega))
      by_cases hji : j < 0
      · exact h2 j hji
      · rw [show j = 0 by omega]; exact hok
  · refine rCondT true (by kernel_rfl) rfl ?_
    have h4 : (0 : Int) ≤ 1 ∧ (1 : Int) < 4 := by omega
    have hle := acc_le t f a m v 1
    have hln : (acc t f a m v 1).length = (rowDe (acc t f a m v 1)).length := (rowDe_len _).symm
    have hsu := acc_succ t f a m v 1
    refine rJoin (fun _ : Unit => li15' t f a m v 1 2) (fun _ => okDe (dAt t f a v 1) = true) (List.cons_ne_nil _ _) ?_ ?_
    · refine rBlock ?_
      refine reg mix [] [pf h4] (by kernel_rfl) ?_
      refine regC mix [(1, con (f28 (dAt t f a v 1)))] (by kernel_rfl) ?_
      refine rCond (!okDe (dAt t f a v 1)) (by kernel_rfl) (fun h => ?_) (fun h => ?_)
      · refine reg0 mix (by kernel_rfl) ?_
        refine run_weaken (wk_nilLst 10 5 (elDe []) (by kernel_rfl)) ?_ (List.cons_ne_nil _ _)
        refine run_ret (blockR_ret (left_ret (loopR_ret (blockR_ret (ret_of (.tup [lDe [], vI 1]) (by kernel_rfl) ?_)))))
        rw [lisR, okL_bad (i := 1) (by omega) (by simpa using h)]; rfl
      · have hok : okDe (dAt t f a v 1) = true := by simpa using h
        refine reg mix [] [pf h4] (by kernel_rfl) ?_
        refine rCond m.b (by kernel_rfl) (fun hm => ?_) (fun hm => ?_)
        · have e : acc t f a m v 2 = acc t f a m v 1 ++ [dAt t f a v 1] := by rw [hsu, if_pos (show m.at 1 = true from hm)]
          refine reg mix [] [pf hln, pf (by omega : ((acc t f a m v 1).length + 1) * 41 ≤ 140737488355328), pf (rfl : 1 = [encDe (dAt t f a v 1)].length)] (by kernel_rfl) ?_
          refine run_nil (blockR_normal (run_nil (joined () hok ?_)))
          unfold li15'
          rw [e, List.length_append, show rowDe (acc t f a m v 1 ++ [dAt t f a v 1]) = rowDe (acc t f a m v 1) ++ [encDe (dAt t f a v 1)] by simp [rowDe]]
          exact wkTo [0, 1, 2, 8, 9, 12, 13] [14, 35] (by kernel_rfl)
        · have e : acc t f a m v 2 = acc t f a m v 1 := by rw [hsu, if_neg (show ¬ m.at 1 = true by rw [show m.at 1 = false from hm]; exact Bool.false_ne_true), List.append_nil]
          refine run_nil (blockR_normal (run_nil (joined () hok ?_)))
          unfold li15'
          rw [e]
          exact wkTo [0, 1, 2, 8, 9, 12, 13] [14] (by kernel_rfl)
    · rintro _ hok
      refine reg0 mix (by kernel_rfl) ?_
      refine run_nil (loopR_next (2 : Nat) (wkTo [0, 1, 2, 8, 9, 12, 13] [] (by kernel_rfl)) ⟨by omega, fun j hj => ?_⟩ (by omega))
      by_cases hji : j < 1
      · exact h2 j hji
      · rw [show j = 1 by omega]; exact hok
  · refine rCondT true (by kernel_rfl) rfl ?_
    have h4 : (0 : Int) ≤ 2 ∧ (2 : Int) < 4 := by omega
    have hle := acc_le t f a m v 2
    have hln : (acc t f a m v 2).length = (rowDe (acc t f a m v 2)).length := (rowDe_len _).symm
    have hsu := acc_succ t f a m v 2
    refine rJoin (fun _ : Unit => li15' t f a m v 2 3) (fun _ => okDe (dAt t f a v 2) = true) (List.cons_ne_nil _ _) ?_ ?_
    · refine rBlock ?_
      refine reg mix [] [pf h4] (by kernel_rfl) ?_
      refine regC mix [(1, con (f28 (dAt t f a v 2)))] (by kernel_rfl) ?_
      refine rCond (!okDe (dAt t f a v 2)) (by kernel_rfl) (fun h => ?_) (fun h => ?_)
      · refine reg0 mix (by kernel_rfl) ?_
        refine run_weaken (wk_nilLst 10 5 (elDe []) (by kernel_rfl)) ?_ (List.cons_ne_nil _ _)
        refine run_ret (blockR_ret (left_ret (loopR_ret (blockR_ret (ret_of (.tup [lDe [], vI 1]) (by kernel_rfl) ?_)))))
        rw [lisR, okL_bad (i := 2) (by omega) (by simpa using h)]; rfl
      · have hok : okDe (dAt t f a v 2) = true := by simpa using h
        refine reg mix [] [pf h4] (by kernel_rfl) ?_
        refine rCond m.c (by kernel_rfl) (fun hm => ?_) (fun hm => ?_)
        · have e : acc t f a m v 3 = acc t f a m v 2 ++ [dAt t f a v 2] := by rw [hsu, if_pos (show m.at 2 = true from hm)]
          refine reg mix [] [pf hln, pf (by omega : ((acc t f a m v 2).length + 1) * 41 ≤ 140737488355328), pf (rfl : 1 = [encDe (dAt t f a v 2)].length)] (by kernel_rfl) ?_
          refine run_nil (blockR_normal (run_nil (joined () hok ?_)))
          unfold li15'
          rw [e, List.length_append, show rowDe (acc t f a m v 2 ++ [dAt t f a v 2]) = rowDe (acc t f a m v 2) ++ [encDe (dAt t f a v 2)] by simp [rowDe]]
          exact wkTo [0, 1, 2, 8, 9, 12, 13] [14, 35] (by kernel_rfl)
        · have e : acc t f a m v 3 = acc t f a m v 2 := by rw [hsu, if_neg (show ¬ m.at 2 = true by rw [show m.at 2 = false from hm]; exact Bool.false_ne_true), List.append_nil]
          refine run_nil (blockR_normal (run_nil (joined () hok ?_)))
          unfold li15'
          rw [e]
          exact wkTo [0, 1, 2, 8, 9, 12, 13] [14] (by kernel_rfl)
    · rintro _ hok
      refine reg0 mix (by kernel_rfl) ?_
      refine run_nil (loopR_next (3 : Nat) (wkTo [0, 1, 2, 8, 9, 12, 13] [] (by kernel_rfl)) ⟨by omega, fun j hj => ?_⟩ (by omega))
      by_cases hji : j < 2
      · exact h2 j hji
      · rw [show j = 2 by omega]; exact hok
  · refine rCondT true (by kernel_rfl) rfl ?_
    have h4 : (0 : Int) ≤ 3 ∧ (3 : Int) < 4 := by omega
    have hle := acc_le t f a m v 3
    have hln : (acc t f a m v 3).length = (rowDe (acc t f a m v 3)).length := (rowDe_len _).symm
    have hsu := acc_succ t f a m v 3
    refine rJoin (fun _ : Unit => li15' t f a m v 3 4) (fun _ => okDe (dAt t f a v 3) = true) (List.cons_ne_nil _ _) ?_ ?_
    · refine rBlock ?_
      refine reg mix [] [pf h4] (by kernel_rfl) ?_
      refine regC mix [(1, con (f28 (dAt t f a v 3)))] (by kernel_rfl) ?_
      refine rCond (!okDe (dAt t f a v 3)) (by kernel_rfl) (fun h => ?_) (fun h => ?_)
      · refine reg0 mix (by kernel_rfl) ?_
        refine run_weaken (wk_nilLst 10 5 (elDe []) (by kernel_rfl)) ?_ (List.cons_ne_nil _ _)
        refine run_ret (blockR_ret (left_ret (loopR_ret (blockR_ret (ret_of (.tup [lDe [], vI 1]) (by kernel_rfl) ?_)))))
        rw [lisR, okL_bad (i := 3) (by omega) (by simpa using h)]; rfl
      · have hok : okDe (dAt t f a v 3) = true := by simpa using h
        refine reg mix [] [pf h4] (by kernel_rfl) ?_
        refine rCond m.d (by kernel_rfl) (fun hm => ?_) (fun hm => ?_)
        · have e : acc t f a m v 4 = acc t f a m v 3 ++ [dAt t f a v 3] := by rw [hsu, if_pos (show m.at 3 = true from hm)]
          refine reg mix [] [pf hln, pf (by omega : ((acc t f a m v 3).length + 1) * 41 ≤ 140737488355328), pf (rfl : 1 = [encDe (dAt t f a v 3)].length)] (by kernel_rfl) ?_
          refine run_nil (blockR_normal (run_nil (joined () hok ?_)))
          unfold li15'
          rw [e, List.length_append, show rowDe (acc t f a m v 3 ++ [dAt t f a v 3]) = rowDe (acc t f a m v 3) ++ [encDe (dAt t f a v 3)] by simp [rowDe]]
          exact wkTo [0, 1, 2, 8, 9, 12, 13] [14, 35] (by kernel_rfl)
        · have e : acc t f a m v 4 = acc t f a m v 3 := by rw [hsu, if_neg (show ¬ m.at 3 = true by rw [show m.at 3 = false from hm]; exact Bool.false_ne_true), List.append_nil]
          refine run_nil (blockR_normal (run_nil (joined () hok ?_)))
          unfold li15'
          rw [e]
          exact wkTo [0, 1, 2, 8, 9, 12, 13] [14] (by kernel_rfl)
    · rintro _ hok
      refine reg0 mix (by kernel_rfl) ?_
      refine run_nil (loopR_next (4 : Nat) (wkTo [0, 1, 2, 8, 9, 12, 13] [] (by kernel_rfl)) ⟨by omega, fun j hj => ?_⟩ (by omega))
      by_cases hji : j < 3
      · exact h2 j hji
      · rw [show j = 3 by omega]; exact hok
  · refine rCondF false (by kernel_rfl) rfl ?_
    have hk : okL t f a v = true := List.all_eq_true.2 fun j hj => h2 j (by simpa using hj)
    have e : lisR t f a m v = (acc t f a m v 4, 0) := by rw [lisR, if_pos hk]
    rw [e]
    refine run_exit (loopR_exit (blockR_exit ?_))
    refine reg0 mix (by kernel_rfl) ?_
    refine frzRow hB 10 1 (acc t f a m v 4).length 32 5 (rowDe (acc t f a m v 4)) (elDe (acc t f a m v 4)) [11] [] (by kernel_rfl) (by kernel_rfl) (rowDe_len _).symm (fun j hj => by simp [rowDe, elDe, List.getD_eq_getElem?_getD, hj]) (by kernel_rfl) ?_ (List.cons_ne_nil _ _)
    exact run_ret (ret_of (.tup [lDe (acc t f a m v 4), vI 0]) (by kernel_rfl) rfl)
end Go.Proofs.Ytaaplpbjjnechaa
