import Derived.Test.YtcoeejnlnkjjpaaT27I
namespace Go.Proofs.Ytcoeejnlnkjjpaa
open Go.Sym
set_option linter.unusedVariables false
set_option linter.unusedSimpArgs false

theorem h10a : FCall Try.prog 10 [lOv exOv, vI 12] (.tup [lI [1], vI 0]) := by
  have h := f10 exOv 12
  rwa [show active exOv 12 = [1] by decide, show actErr exOv 12 = 0 by decide] at h
theorem h10b : FCall Try.prog 10 [lOv exOv, vI 15] (.tup [lI [0, 1], vI 0]) := by
  have h := f10 exOv 15
  rwa [show active exOv 15 = [0, 1] by decide, show actErr exOv 15 = 0 by decide] at h
theorem h10c : FCall Try.prog 10 [lOv exOv, vI 45] (.tup [lI [2], vI 0]) := by
  have h := f10 exOv 45
  rwa [show active exOv 45 = [2] by decide, show actErr exOv 45 = 0 by decide] at h
theorem h12a : FCall Try.prog 12 [lOv exOv, vI 0, vI 39] (.tup [vB false, vI 0]) := by
  have h := f12 exOv 0 39
  rwa [show stuckB exOv 0 39 = false by decide, show stuckE exOv 0 39 = 0 by decide] at h
theorem h12b : FCall Try.prog 12 [lOv exOv, vI 0, vI 40] (.tup [vB true, vI 0]) := by
  have h := f12 exOv 0 40
  rwa [show stuckB exOv 0 40 = true by decide, show stuckE exOv 0 40 = 0 by decide] at h
theorem h17a : FCall Try.prog 17 [lOv exOv, vI 1, vI 3, vI 7, vI 11] (.v (vI 0)) := by
  have h := f17 exOv 1 3 7 11
  rwa [show judge exOv 1 3 7 11 = 0 by decide] at h
theorem h17b : FCall Try.prog 17 [lOv exOv, vI 1, vI 3, vI 7, vI 14] (.v (vI 22)) := by
  have h := f17 exOv 1 3 7 14
  rwa [show judge exOv 1 3 7 14 = 22 by decide] at h
theorem h17c : FCall Try.prog 17 [lOv exOv, vI 1, vI 3, vI 7, vI 16] (.v (vI 18)) := by
  have h := f17 exOv 1 3 7 16
  rwa [show judge exOv 1 3 7 16 = 18 by decide] at h
theorem h17d : FCall Try.prog 17 [lOv exOv, vI 1, vI 3, vI 7, vI 21] (.v (vI 22)) := by
  have h := f17 exOv 1 3 7 21
  rwa [show judge exOv 1 3 7 21 = 22 by decide] at h
theorem h17e : FCall Try.prog 17 [lOv exOv, vI 6, vI 3, vI 7, vI 11] (.v (vI 1)) := by
  have h := f17 exOv 6 3 7 11
  rwa [show judge exOv 6 3 7 11 = 1 by decide] at h
theorem h14a : FCall Try.prog 14 [lOv exOv] (.v (vB true)) := by
  have h := f14 exOv
  rwa [show valid exOv = true by decide] at h
theorem h14b : FCall Try.prog 14 [lOv [zOv]] (.v (vB false)) := by
  have h := f14 [zOv]
  rwa [show valid [zOv] = false by decide] at h
theorem h16 (a : List Int) (h : a.length ≤ 1000000) : FCall Try.prog 16 [lI a, lI a] (.v (vB true)) := by
  have h := f16 a a h
  rwa [show eqI a a = true by simp [eqI]] at h

theorem ck1 (a : List C) (f : Nat → List C) (h : f 0 = a) : 1 = 1 ∧ ∀ i, i < 1 → f i = [a].getD i [] := ⟨rfl, fun i hi => by
  match i, hi with
  | 0, _ => exact h⟩
theorem ck2 (a b : List C) (f : Nat → List C) (h : f 0 = a) (h' : f 1 = b) : 2 = 2 ∧ ∀ i, i < 2 → f i = [a, b].getD i [] := ⟨rfl, fun i hi => by
  match i, hi with
  | 0, _ => exact h
  | 1, _ => exact h'⟩

theorem f8 : FCall Try.prog 8 [] (.v (vB true)) := by
  refine fcall_of Try.func8 rfl (by kernel_rfl) (fun B hB => ?_)
  refine reg0 mix (by kernel_rfl) ?_
  refine regC mix [(0, con f20)] (by kernel_rfl) ?_
  refine regC mix [(1, con h10a)] (by kernel_rfl) ?_
  refine regC mix [(1, con h10b)] (by kernel_rfl) ?_
  refine regC mix [(1, con h10c)] (by kernel_rfl) ?_
  refine regC mix [(1, con h12a)] (by kernel_rfl) ?_
  refine regC mix [(1, con h12b)] (by kernel_rfl) ?_
  refine reg mix [(4, .frz 1 (elI [1])), (5, hcon (h16 [1] (by decide))), (13, .frz 2 (elI [0, 1])), (14, hcon (h16 [0, 1] (by decide))), (22, .frz 1 (elI [2])), (23, hcon (h16 [2] (by decide)))]
    [pf (ck1 [cI 1] (elI [1]) rfl), pf (h16 [1] (by decide)), pf (ck2 [cI 0] [cI 1] (elI [0, 1]) rfl rfl), pf (h16 [0, 1] (by decide)), pf (ck1 [cI 2] (elI [2]) rfl), pf (h16 [2] (by decide))] (by kernel_rfl) ?_
  refine regC mix [(1, con h17a), (5, con h17b), (10, con h17c), (15, con h17d)] (by kernel_rfl) ?_
  refine reg mix [(6, hcon h17e), (11, hcon h14a), (15, .frz 1 (elOv [zOv])), (16, hcon h14b)]
    [pf h17e, pf h14a, pf (ck1 (encOv zOv) (elOv [zOv]) rfl), pf h14b] (by kernel_rfl) ?_
  exact run_ret (ret_of (.v (vB true)) (by kernel_rfl) rfl)

theorem few_len {l : List Ov} (h : few l.length = true) : l.length ≤ 102 := by
  simp only [few, Bool.or_eq_true, Bool.and_eq_true, decide_eq_true_iff] at h
  omega
theorem actI_len (l : List Ov) (m : Int) : (actI l m).length ≤ l.length := by
  have := actX_le l m
  rw [actX_len] at this
  simpa [actI] using this
theorem active_len (l : List Ov) (m : Int) : (active l m).length ≤ 1000000 := by
  unfold active
  split
  · rename_i h
    have h2 : valid l = true := by
      revert h; unfold argOk; cases valid l <;> simp
    have := valid_len h2
    have := actI_len l m
    omega
  · simp

theorem f3 (l : List Ov) (t p u m : Int) : FCall Try.prog 3 [lOv l, vI t, vI p, vI u, vI m] (.v (vB true)) := by
  refine fcall_of Try.func3 rfl (by kernel_rfl) (fun B hB => ?_)
  refine reg0 mix (by kernel_rfl) ?_
  refine regC mix [(0, con f8)] (by kernel_rfl) ?_
  refine regC mix [(1, con (f9 l))] (by kernel_rfl) ?_
  refine rCond (!few l.length) (by kernel_rfl) (fun h => ?_) (fun h => ?_)
  · refine reg0 mix (by kernel_rfl) ?_
    exact run_ret (ret_of (.v (vB true)) (by kernel_rfl) rfl)
  refine regC mix [(2, con (f10 l m))] (by kernel_rfl) ?_
  refine regC mix [(2, con (f11 l m))] (by kernel_rfl) ?_
  refine regC mix [(3, con (f12 l t m))] (by kernel_rfl) ?_
  refine regC mix [(3, con (f13 l t m))] (by kernel_rfl) ?_
  refine regC mix [(3, con (f14 l)), (5, con (f15 l)), (11, con (h16 (active l m) (active_len l m))), (34, con (f17 l t p u m)), (40, con (f18 l t p u m))] (by kernel_rfl) ?_
  refine run_ret (ret_of (.v (vB ((((((true && (valid l == valid l)) && true) && (actErr l m == actErr l m)) && (stuckB l t m == stuckB l t m)) && (stuckE l t m == stuckE l t m)) && (judge l t p u m == judge l t p u m)))) (by kernel_rfl) ?_)
  simp

end Go.Proofs.Ytcoeejnlnkjjpaa
