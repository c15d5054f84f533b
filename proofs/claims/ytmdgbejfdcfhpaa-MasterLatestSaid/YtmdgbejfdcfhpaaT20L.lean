import Derived.Test.YtmdgbejfdcfhpaaT20K
namespace Go.Proofs.Ytmdgbejfdcfhpaa
open Go.Sym
set_option linter.unusedVariables false
set_option linter.unusedSimpArgs false

/-! ### Results as plain numbers -/
structure R4 where
  a : Int
  b : Int
  c : Int
  d : Int
  e : Int
def sbR (r : R4) : SB := .tup [aggP r.a r.b r.c r.d, vI r.e]
def masR (l : List Ca) (kind tel flt at' known : Int) (used : List Ca) : R4 :=
  if (l.length : Int) > 1000 then ⟨0, 0, 0, 0, 2⟩
  else if (l.any (fun x => !okCa x) || !okCa (wantCa kind tel flt at' known)) = true then ⟨0, 0, 0, 0, 1⟩
  else if used.length = 0 then ⟨0, 0, 0, 0, 10⟩
  else ⟨medI (used.map (·.a)), medI (used.map (·.b)), medI (used.map (·.c)), medI (used.map (·.d)), 0⟩
theorem masG_sb (l : List Ca) (kind tel flt at' known : Int) (used : List Ca) : masG l kind tel flt at' known used = sbR (masR l kind tel flt at' known used) := by
  unfold masG masR
  repeat' split
  all_goals rfl
def mst (l : List Ca) (kind tel flt at' known : Int) : R4 := masR l kind tel flt at' known (usedG l fun x => applies x kind tel flt at' known)
theorem m11 (l : List Ca) (kind tel flt at' known : Int) : FCall Try.prog 11 [lCa l, vI kind, vI tel, vI flt, vI at', vI known] (sbR (mst l kind tel flt at' known)) := by
  rw [mst, ← masG_sb]; exact f11 l kind tel flt at' known
theorem m12 (l : List Ca) (kind tel flt at' known : Int) : FCall Try.prog 12 [lCa l, vI kind, vI tel, vI flt, vI at', vI known] (sbR (mst l kind tel flt at' known)) := by
  rw [mst, ← masG_sb]; exact g12 l kind tel flt at' known
def medN (l : List Int) : Int × Int := if (l.length : Int) > 1000 then (0, 2) else if l.length = 0 then (0, 10) else (medI l, 0)
theorem medG_sb (l : List Int) : medG l = .tup [vI (medN l).1, vI (medN l).2] := by
  unfold medG medN
  repeat' split
  all_goals rfl
theorem m13 (l : List Int) : FCall Try.prog 13 [lI l] (.tup [vI (medN l).1, vI (medN l).2]) := by rw [← medG_sb]; exact f13 l
theorem m14 (l : List Int) : FCall Try.prog 14 [lI l] (.tup [vI (medN l).1, vI (medN l).2]) := by rw [← medG_sb]; exact g14 l
theorem k13 (l : List Int) (h0 : l.length ≠ 0) (h1 : l.length ≤ 1000) : FCall Try.prog 13 [lI l] (.tup [vI (medI l), vI 0]) := by
  have h := f13 l
  rw [medG, if_neg (by omega), if_neg h0] at h
  exact h
theorem medI_of {l : List Int} {m : Int} (h : medR l = .tup [vI m, vI 0]) (h0 : l.length ≠ 0) (h1 : l.length ≤ 1000) : medI l = m := by
  rw [medR_eq, medG, if_neg (by omega), if_neg h0] at h
  simpa using h
theorem eq27 : EqTy Try.prog 27 [.int .i64, .int .i64, .int .i64, .int .i64] := eqTy_of 3 (by kernel_rfl) (by omega) (by kernel_rfl) (by kernel_rfl)

/-! ### The example -/
def l3 : List Ca := [dark 10 10 5, dark 20 20 9, dark 30 50 7]
theorem h3a : FCall Try.prog 11 [lCa l3, vI 1, vI 0, vI (-1), vI 40, vI 60] (.tup [aggP 7 7 7 7, vI 0]) := by
  have h := f11 l3 1 0 (-1) 40 60
  have e : (usedG l3 fun x => applies x 1 0 (-1) 40 60) = [dark 30 50 7, dark 20 20 9, dark 10 10 5] := by kernel_rfl
  have hm : medI [7, 9, 5] = 7 := medI_of (by kernel_rfl) (by decide) (by decide)
  rw [e, masG, if_neg (by decide), if_neg (by decide), if_neg (by decide)] at h
  have e2 : medP [dark 30 50 7, dark 20 20 9, dark 10 10 5] = aggP (medI [7, 9, 5]) (medI [7, 9, 5]) (medI [7, 9, 5]) (medI [7, 9, 5]) := rfl
  rw [e2, hm] at h
  exact h
theorem h3b : FCall Try.prog 11 [lCa l3, vI 1, vI 0, vI (-1), vI 40, vI 40] (.tup [aggP 5 5 5 5, vI 0]) := by
  have h := f11 l3 1 0 (-1) 40 40
  have e : (usedG l3 fun x => applies x 1 0 (-1) 40 40) = [dark 20 20 9, dark 10 10 5] := by kernel_rfl
  have hm : medI [9, 5] = 5 := medI_of (by kernel_rfl) (by decide) (by decide)
  rw [e, masG, if_neg (by decide), if_neg (by decide), if_neg (by decide)] at h
  have e2 : medP [dark 20 20 9, dark 10 10 5] = aggP (medI [9, 5]) (medI [9, 5]) (medI [9, 5]) (medI [9, 5]) := rfl
  rw [e2, hm] at h
  exact h
theorem h3c : FCall Try.prog 11 [lCa l3, vI 1, vI 0, vI (-1), vI 9, vI 60] (.tup [aggP 0 0 0 0, vI 10]) := by
  have h := f11 l3 1 0 (-1) 9 60
  have e : (usedG l3 fun x => applies x 1 0 (-1) 9 60) = [] := by kernel_rfl
  rw [e, masG, if_neg (by decide), if_neg (by decide), if_pos (by decide)] at h
  exact h
theorem h3d : FCall Try.prog 13 [lI [4, 1, 3, 2]] (.tup [vI 2, vI 0]) := by
  have h := k13 [4, 1, 3, 2] (by decide) (by decide)
  rw [medI_of (l := [4, 1, 3, 2]) (m := 2) (by kernel_rfl) (by decide) (by decide)] at h
  exact h
theorem CVle.nil (sz : Nat) (f : Nat → List C) : CVle (.c .nil) (.c (.lst sz 0 f)) := fun K v h => by
  obtain ⟨h1, h2⟩ := h
  cases h1
  exact ⟨RelK.lst0 sz f, rfl⟩
theorem h3e : FCall Try.prog 13 [.c .nil] (.tup [vI 0, vI 10]) := by
  have h := f13 []
  rw [medG, if_neg (by decide), if_pos (by decide)] at h
  exact h.of_le ⟨CVle.nil _ _, trivial⟩
theorem f9 : FCall Try.prog 9 [] (.v (vB true)) := by
  refine fcall_of Try.func9 rfl (by kernel_rfl) (fun B hB => ?_)
  refine reg0 mix (by kernel_rfl) ?_
  refine reg mix [(0, hcon (f17 10 10 5)), (1, hcon (f17 20 20 9)), (2, hcon (f17 30 50 7)), (3, .frz 3 (elCa l3))] [pf (f17 10 10 5), pf (f17 20 20 9), pf (f17 30 50 7), pf ((⟨rfl, fun i hi => by
    match i, hi with
    | 0, _ => rfl
    | 1, _ => rfl
    | 2, _ => rfl⟩) : 3 = 3 ∧ ∀ i, i < 3 → elCa l3 i = [encCa (dark 10 10 5), encCa (dark 20 20 9), encCa (dark 30 50 7)].getD i [])] (by kernel_rfl) ?_
  refine regC mix [(1, con h3a)] (by kernel_rfl) ?_
  refine regC mix [(1, con h3b)] (by kernel_rfl) ?_
  refine regC mix [(1, con h3c)] (by kernel_rfl) ?_
  refine reg mix [(0, .frz 4 (elI [4, 1, 3, 2])), (1, hcon h3d)] [pf ((⟨rfl, fun i hi => by
    match i, hi with
    | 0, _ => rfl
    | 1, _ => rfl
    | 2, _ => rfl
    | 3, _ => rfl⟩) : 4 = 4 ∧ ∀ i, i < 4 → elI [4, 1, 3, 2] i = [[cI 4], [cI 1], [cI 3], [cI 2]].getD i []), pf h3d] (by kernel_rfl) ?_
  refine regC mix [(0, con h3e)] (by kernel_rfl) ?_
  refine regI mix [] [pf (fun _ : true = true => eq27), pf (fun _ : true = true => eq27)] (by kernel_rfl) ?_
  exact run_ret (ret_of (.v (vB true)) (by kernel_rfl) rfl)

/-! ### Laws -/
theorem f3 (l : List Ca) (kind tel flt at' known : Int) (ns : List Int) : FCall Try.prog 3 [lCa l, vI kind, vI tel, vI flt, vI at', vI known, lI ns] (.v (vB true)) := by
  have c11 := m11 l kind tel flt at' known
  have c12 := m12 l kind tel flt at' known
  have c13 := m13 ns
  have c14 := m14 ns
  generalize mst l kind tel flt at' known = r at c11 c12
  generalize medN ns = q at c13 c14
  refine fcall_of Try.func3 rfl (by kernel_rfl) (fun B hB => ?_)
  refine reg0 mix (by kernel_rfl) ?_
  refine regC mix [(0, con f9)] (by kernel_rfl) ?_
  refine regC mix [(1, con (f10 l))] (by kernel_rfl) ?_
  refine rCond ((!decide ((l.length : Int) ≤ 20)) || decide ((ns.length : Int) > 100)) (by kernel_rfl) (fun h => ?_) (fun h => ?_)
  · refine reg0 mix (by kernel_rfl) ?_
    exact run_ret (ret_of (.v (vB true)) (by kernel_rfl) rfl)
  refine regC mix [(6, con c11)] (by kernel_rfl) ?_
  refine regC mix [(6, con c12)] (by kernel_rfl) ?_
  refine regC mix [(1, con c13)] (by kernel_rfl) ?_
  refine regC mix [(1, con c14)] (by kernel_rfl) ?_
  refine regI mix [] [pf (fun _ : true = true => eq27)] (by kernel_rfl) ?_
  refine run_ret (ret_of (.v (vB ((((true && (r.a == r.a && (r.b == r.b && (r.c == r.c && (r.d == r.d && true))))) && (r.e == r.e)) && (q.1 == q.1)) && (q.2 == q.2)))) (by kernel_rfl) ?_)
  simp

structure L4 where
  i : Int
  th : Bool
  lo : Int
  hi : Int
def lw4 (l : List Int) (m : Int) (x : L4) : S := mkS 78 [(0, .b (.v (lI l))), (3, .b (.v (vB true))), (4, .b (.v (vI m))), (5, .b (.v (vI 0))), (6, .b (.v (vB x.th))), (7, .b (.v (vI x.lo))), (8, .b (.v (vI x.hi))), (9, .b (.v (vI x.i)))] []
theorem take_getD {l : List Int} {i : Nat} (h : i < l.length) : l.take (i + 1) = l.take i ++ [l.getD i 0] := by
  rw [List.take_succ_eq_append_getElem h]
  simp [List.getD_eq_getElem?_getD, h]
theorem f4 (l : List Int) : FCall Try.prog 4 [lI l] (.v (vB true)) := by
  refine fcall_of Try.func4 rfl (by kernel_rfl) (fun B hB => ?_)
  refine reg0 mix (by kernel_rfl) ?_
  refine regC mix [(0, con f9)] (by kernel_rfl) ?_
  refine reg0 mix (by kernel_rfl) ?_
  refine rCond (decide ((l.length : Int) > 100) || ((l.length : Int) == 0)) (by kernel_rfl) (fun h => ?_) (fun h => ?_)
  · refine reg0 mix (by kernel_rfl) ?_
    exact run_ret (ret_of (.v (vB true)) (by kernel_rfl) rfl)
  simp only [Bool.or_eq_false_iff, decide_eq_false_iff_not, beq_eq_false_iff_ne] at h
  have h0 : l.length ≠ 0 := by omega
  have h1 : l.length ≤ 100 := by omega
  refine regC mix [(1, con (k13 l h0 (by omega)))] (by kernel_rfl) ?_
  refine reg0 mix (by kernel_rfl) ?_
  refine reg0 mix (by kernel_rfl) ?_
  refine reg0 mix (by kernel_rfl) ?_
  refine rBlock ?_
  refine rLoop (lw4 l (medI l)) (fun x => 0 ≤ x.i ∧ x.i ≤ l.length ∧ x.th = (l.take x.i.toNat).any (fun y => y == medI l) ∧ x.lo = ((l.take x.i.toNat).countP (fun y => decide (y ≤ medI l)) : Nat) ∧ x.hi = ((l.take x.i.toNat).countP (fun y => decide (y ≥ medI l)) : Nat)) (fun x => (l.length - x.i).toNat) ⟨0, false, 0, 0⟩ (wkTo [0, 3, 4, 5, 6, 7, 8, 9] [] (by kernel_rfl)) ⟨by simp, by simp, rfl, rfl, rfl⟩ ?_
  rintro ⟨i, th, lo, hi⟩ ⟨hi0, hi1, hth, hlo, hhi⟩
  simp only at hi0 hi1 hth hlo hhi
  refine reg0 mix (by kernel_rfl) ?_
  refine rCond (decide (i < (l.length : Int))) (by kernel_rfl) (fun hc => ?_) (fun hc => ?_)
  · have hc : i < l.length := of_decide_eq_true hc
    have e1 : IntKind.i64.wrap (i + 1) = i + 1 := w64 _ (by omega) (by omega)
    have ht := take_getD (show i.toNat < l.length by omega)
    have hs : (i + 1).toNat = i.toNat + 1 := by omega
    have hcl : (l.take i.toNat).countP (fun y => decide (y ≤ medI l)) ≤ l.length := Nat.le_trans List.countP_le_length (by simp; omega)
    have hch : (l.take i.toNat).countP (fun y => decide (y ≥ medI l)) ≤ l.length := Nat.le_trans List.countP_le_length (by simp; omega)
    have e2 : IntKind.i64.wrap (lo + 1) = lo + 1 := w64 _ (by omega) (by omega)
    have e3 : IntKind.i64.wrap (hi + 1) = hi + 1 := w64 _ (by omega) (by omega)
    refine rJoin (fun x : Bool × Int × Int => lw4 l (medI l) ⟨i, x.1, x.2.1, x.2.2⟩) (fun x => x.1 = (l.take (i.toNat + 1)).any (fun y => y == medI l) ∧ x.2.1 = ((l.take (i.toNat + 1)).countP (fun y => decide (y ≤ medI l)) : Nat) ∧ x.2.2 = ((l.take (i.toNat + 1)).countP (fun y => decide (y ≥ medI l)) : Nat)) (List.cons_ne_nil _ _) ?_ ?_
    · refine rBlock ?_
      refine regI mix [] [pf (fun _ : (!th) = true => (⟨hi0, hc⟩ : 0 ≤ i ∧ i < (l.length : Int)))] (by kernel_rfl) ?_
      refine reg mix [] [pf (⟨hi0, hc⟩ : 0 ≤ i ∧ i < (l.length : Int))] (by kernel_rfl) ?_
      refine rJoin (fun x : Int => lw4 l (medI l) ⟨i, th || (l.getD i.toNat 0 == medI l), x, hi⟩) (fun x => x = ((l.take (i.toNat + 1)).countP (fun y => decide (y ≤ medI l)) : Nat)) (List.cons_ne_nil _ _) ?_ ?_
      · refine rCond (decide (l.getD i.toNat 0 ≤ medI l)) (by kernel_rfl) (fun h => ?_) (fun h => ?_)
        · refine reg0 mix (by kernel_rfl) ?_
          refine run_nil (joined (IntKind.i64.wrap (lo + 1)) ?_ (wkTo [0, 3, 4, 5, 6, 7, 8, 9] [] (by kernel_rfl)))
          rw [e2, ht, List.countP_append, List.countP_singleton, h, hlo]; rfl
        · refine run_nil (joined lo ?_ (wkTo [0, 3, 4, 5, 6, 7, 8, 9] [] (by kernel_rfl)))
          rw [ht, List.countP_append, List.countP_singleton, h, hlo]; rfl
      · intro lo' hlo'
        refine reg mix [] [pf (⟨hi0, hc⟩ : 0 ≤ i ∧ i < (l.length : Int))] (by kernel_rfl) ?_
        have hth' : (th || (l.getD i.toNat 0 == medI l)) = (l.take (i.toNat + 1)).any (fun y => y == medI l) := by
          rw [ht, List.any_append, ← hth]; simp
        refine rCond (decide (l.getD i.toNat 0 ≥ medI l)) (by kernel_rfl) (fun h => ?_) (fun h => ?_)
        · refine reg0 mix (by kernel_rfl) ?_
          refine run_nil (blockR_normal (run_nil (joined (th || (l.getD i.toNat 0 == medI l), lo', IntKind.i64.wrap (hi + 1)) ⟨hth', hlo', ?_⟩ (wkTo [0, 3, 4, 5, 6, 7, 8, 9] [] (by kernel_rfl)))))
          simp only
          rw [e3, ht, List.countP_append, List.countP_singleton, h, hhi]; rfl
        · refine run_nil (blockR_normal (run_nil (joined (th || (l.getD i.toNat 0 == medI l), lo', hi) ⟨hth', hlo', ?_⟩ (wkTo [0, 3, 4, 5, 6, 7, 8, 9] [] (by kernel_rfl)))))
          simp only
          rw [ht, List.countP_append, List.countP_singleton, h, hhi]; rfl
    · rintro ⟨th', lo', hi'⟩ ⟨g1, g2, g3⟩
      refine reg0 mix (by kernel_rfl) ?_
      refine run_nil (loopR_next (⟨IntKind.i64.wrap (i + 1), th', lo', hi'⟩ : L4) (wkTo [0, 3, 4, 5, 6, 7, 8, 9] [] (by kernel_rfl)) ?_ ?_)
      · simp only [e1, hs]
        exact ⟨by omega, by omega, g1, g2, g3⟩
      · simp only [e1]; omega
  have hc : ¬ i < l.length := of_decide_eq_false hc
  rw [show i.toNat = l.length by omega, List.take_of_length_le (Nat.le_refl _)] at hth hlo hhi
  have hthT : th = true := by
    rw [hth, List.any_eq_true]
    exact ⟨medI l, med_mem h0, by simp⟩
  have a1 := med_below h0
  have a2 := med_upto h0
  have a3 : l.countP (fun y => decide (y ≥ medI l)) + l.countP (fun x => decide (x < medI l)) = l.length := by
    have := List.length_eq_countP_add_countP (fun y => decide (y ≥ medI l)) (l := l)
    rw [this]
    congr 1
    refine List.countP_congr fun x _ => ?_
    simp only [decide_eq_true_eq, Bool.not_eq_true', decide_eq_false_iff_not]
    omega
  have hll : lo ≤ 100 ∧ hi ≤ 100 := by
    have h2 : l.countP (fun y => decide (y ≤ medI l)) ≤ l.length := List.countP_le_length
    have h3 : l.countP (fun y => decide (y ≥ medI l)) ≤ l.length := List.countP_le_length
    omega
  have e4 : IntKind.i64.wrap (2 * lo) = 2 * lo := w64 _ (by omega) (by omega)
  have e5 : IntKind.i64.wrap (2 * hi) = 2 * hi := w64 _ (by omega) (by omega)
  refine run_exit (loopR_exit (blockR_exit ?_))
  refine reg0 mix (by kernel_rfl) ?_
  refine run_ret (ret_of (.v (vB (((true && th) && decide (IntKind.i64.wrap (2 * lo) ≥ (l.length : Int))) && decide (IntKind.i64.wrap (2 * hi) ≥ (l.length : Int))))) (by kernel_rfl) ?_)
  rw [e4, e5, hthT, decide_eq_true (by omega), decide_eq_true (by omega)]; rfl
end Go.Proofs.Ytmdgbejfdcfhpaa
