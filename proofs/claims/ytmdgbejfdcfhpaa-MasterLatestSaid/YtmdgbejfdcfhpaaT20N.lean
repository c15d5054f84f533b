import Derived.Test.YtmdgbejfdcfhpaaT20M
namespace Go.Proofs.Ytmdgbejfdcfhpaa
open Go.Sym
set_option linter.unusedVariables false
set_option linter.unusedSimpArgs false

/-! ### A further calibration -/
theorem usedG_put (A B : List Ca) (c : Ca) (p : Ca → Bool) (h : p c = false ∨ 5 ≤ (A ++ B).countP (fun x => p x && decide (x.at' > c.at'))) : usedG (A ++ c :: B) p = usedG (A ++ B) p := by
  cases hp : p c with
  | false =>
    have : sel (A ++ c :: B) p = sel (A ++ B) p := by simp [sel, hp]
    rw [usedG, usedG, this]
  | true =>
    have h5 : 5 ≤ (A ++ B).countP (fun x => p x && decide (x.at' > c.at')) := by
      rcases h with h | h
      · rw [hp] at h; cases h
      · exact h
    have e1 : sel (A ++ c :: B) p = B.reverse.filter p ++ c :: A.reverse.filter p := by simp [sel, hp]
    have e2 : sel (A ++ B) p = B.reverse.filter p ++ A.reverse.filter p := by simp [sel]
    obtain ⟨U, V, f1, f2, g1, g2⟩ := isort_put keyCa c (B.reverse.filter p) (A.reverse.filter p)
    rw [usedG, usedG, e1, e2, f1, f2]
    have hc1 : (sel (A ++ B) p).countP (fun x => decide (x.at' > c.at')) = (A ++ B).countP (fun x => p x && decide (x.at' > c.at')) := by
      rw [sel, List.countP_filter, (List.reverse_perm _).countP_eq]
      refine List.countP_congr fun x _ => ?_
      rw [Bool.and_comm]
    have hc2 : (U ++ V).countP (fun x => decide (x.at' > c.at')) = (sel (A ++ B) p).countP (fun x => decide (x.at' > c.at')) := by
      rw [← f2, (isort_perm keyCa _).countP_eq, e2]
    have hc3 : V.countP (fun x => decide (x.at' > c.at')) = 0 := by
      rw [List.countP_eq_zero]
      intro x hx
      have := g2 x hx
      simp only [keyCa] at this
      simp only [decide_eq_true_eq]; omega
    have hc4 : U.countP (fun x => decide (x.at' > c.at')) ≤ U.length := List.countP_le_length
    rw [List.countP_append, hc3] at hc2
    rw [List.take_append_of_le_length (by omega), List.take_append_of_le_length (by omega)]
theorem mst_put (A B : List Ca) (c : Ca) (kind tel flt at' known : Int) (hl : (A ++ B).length ≤ 20) (hc : okCa c = true) (h : applies c kind tel flt at' known = false ∨ 5 ≤ (A ++ B).countP (fun x => applies x kind tel flt at' known && decide (x.at' > c.at'))) :
    mst (A ++ c :: B) kind tel flt at' known = mst (A ++ B) kind tel flt at' known := by
  rw [mst, mst, usedG_put A B c (fun x => applies x kind tel flt at' known) h]
  have e : (A ++ c :: B).any (fun x => !okCa x) = (A ++ B).any (fun x => !okCa x) := by simp [hc]
  rw [List.length_append] at hl
  have n1 : ¬ ((A ++ c :: B).length : Int) > 1000 := by rw [List.length_append, List.length_cons]; omega
  have n2 : ¬ ((A ++ B).length : Int) > 1000 := by rw [List.length_append]; omega
  simp only [masR, if_neg n1, if_neg n2, e]
def moreCss (l : List Ca) (c : Ca) (k : Int) : List (List C) := (([] ++ (List.range k.toNat).map (elCa l)) ++ [encCa c]) ++ (List.range (l.length - k.toNat)).map (fun i => elCa l (k.toNat + i))
def moreCa (l : List Ca) (c : Ca) (k : Int) : List Ca := l.take k.toNat ++ c :: l.drop k.toNat
theorem range_take (l : List Ca) {k : Nat} (hk : k ≤ l.length) : (List.range k).map (elCa l) = (l.take k).map encCa := by
  apply List.ext_getElem
  · simp; omega
  · intro i h1 h2
    have : i < k := by simpa using h1
    simp [elCa, List.getD_eq_getElem?_getD, show i < l.length by omega]
theorem range_drop (l : List Ca) {k : Nat} (hk : k ≤ l.length) : (List.range (l.length - k)).map (fun i => elCa l (k + i)) = (l.drop k).map encCa := by
  apply List.ext_getElem
  · simp
  · intro i h1 h2
    have : i < l.length - k := by simpa using h1
    simp [elCa, List.getD_eq_getElem?_getD, show k + i < l.length by omega]
theorem more_eq (l : List Ca) (c : Ca) {k : Int} (h0 : 0 ≤ k) (h1 : k ≤ l.length) : moreCss l c k = (moreCa l c k).map encCa := by
  rw [moreCss, moreCa, range_take l (by omega), range_drop l (by omega)]
  simp
theorem more_len (l : List Ca) (c : Ca) {k : Int} (h0 : 0 ≤ k) (h1 : k ≤ l.length) : (moreCa l c k).length = ((0 + k.toNat) + 1) + (l.length - k.toNat) := by
  rw [moreCa]; simp; omega
theorem m11n {l : List Ca} {n : Nat} (hn : l.length = n) (kind tel flt at' known : Int) : FCall Try.prog 11 [.c (.lst 9 n (elCa l)), vI kind, vI tel, vI flt, vI at', vI known] (sbR (mst l kind tel flt at' known)) := by
  subst hn; exact m11 l kind tel flt at' known
theorem place_ok {w : Int} {n : Nat} (hw : 0 ≤ w ∧ w ≤ 255) (hn : n ≤ 1000000) : IntKind.i64.wrap ((n : Int) + 1) ≠ 0 ∧ 0 ≤ (IntKind.i64.wrap w).tmod (IntKind.i64.wrap ((n : Int) + 1)) ∧ (IntKind.i64.wrap w).tmod (IntKind.i64.wrap ((n : Int) + 1)) ≤ n := by
  rw [w64 w (by omega) (by omega), w64 _ (by omega) (by omega), Int.tmod_eq_emod_of_nonneg hw.1]
  have h1 := Int.emod_nonneg w (show ((n : Int) + 1) ≠ 0 by omega)
  have h2 := Int.emod_lt_of_pos w (show (0 : Int) < (n : Int) + 1 by omega)
  omega
theorem frz_more (l : List Ca) (c : Ca) {k : Int} (h0 : 0 ≤ k) (h1 : k ≤ l.length) : ∀ i, i < ((0 + k.toNat) + 1) + (l.length - k.toNat) → elCa (moreCa l c k) i = (moreCss l c k).getD i [] := fun i hi => by
  rw [← more_len l c h0 h1] at hi
  rw [more_eq l c h0 h1]
  simp [elCa, List.getD_eq_getElem?_getD, hi]
theorem css_len (l : List Ca) (c : Ca) {k : Int} (h0 : 0 ≤ k) (h1 : k ≤ l.length) : ((0 + k.toNat) + 1) + (l.length - k.toNat) = (moreCss l c k).length := by
  rw [more_eq l c h0 h1, List.length_map, more_len l c h0 h1]
theorem more_back (l : List Ca) (k : Int) : l.take k.toNat ++ l.drop k.toNat = l := List.take_append_drop _ _

theorem f7 (l : List Ca) (c : Ca) (kind tel flt at' known w : Int) (hw : 0 ≤ w ∧ w ≤ 255) : FCall Try.prog 7 [lCa l, .agg (encCa c), vI kind, vI tel, vI flt, vI at', vI known, .c (.int .u8 w)] (.v (vB true)) := by
  have c11 := m11 l kind tel flt at' known
  have hmore : l.length ≤ 20 → okCa c = true → applies c kind tel flt at' known = false → ∀ k : Int, 0 ≤ k → k ≤ l.length → FCall Try.prog 11 [.c (.lst 9 (((0 + k.toNat) + 1) + (l.length - k.toNat)) (elCa (moreCa l c k))), vI kind, vI tel, vI flt, vI at', vI known] (sbR (mst l kind tel flt at' known)) := by
    intro h1 h2 h3 k h4 h5
    have := m11n (more_len l c h4 h5) kind tel flt at' known
    rw [moreCa, mst_put _ _ c _ _ _ _ _ (by rw [more_back]; exact h1) h2 (.inl h3), more_back] at this
    exact this
  generalize mst l kind tel flt at' known = r at c11 hmore
  refine fcall_of Try.func7 rfl (by kernel_rfl) (fun B hB => ?_)
  refine reg mix [(0, .imm)] [] (by kernel_rfl) ?_
  refine regC mix [(0, con f9)] (by kernel_rfl) ?_
  refine regI mix [(1, hcon (f10 l)), (5, hcon (f16 c)), (15, hcon (f15 c kind tel flt at' known))] [pf (fun _ : true = true => f10 l), pf (fun _ : (!(!decide ((l.length : Int) ≤ 20))) = true => f16 c), pf (fun _ : (!((!decide ((l.length : Int) ≤ 20)) || !okCa c)) = true => f15 c kind tel flt at' known)] (by kernel_rfl) ?_
  refine rCond (((!decide ((l.length : Int) ≤ 20)) || !okCa c) || applies c kind tel flt at' known) (by kernel_rfl) (fun h => ?_) (fun h => ?_)
  · refine reg0 mix (by kernel_rfl) ?_
    exact run_ret (ret_of (.v (vB true)) (by kernel_rfl) rfl)
  simp only [Bool.or_eq_false_iff, Bool.not_eq_false', decide_eq_true_eq] at h
  obtain ⟨⟨hl, hco⟩, hca⟩ := h
  obtain ⟨k0, k1, k2⟩ := place_ok hw (show l.length ≤ 1000000 by omega)
  refine reg mix [] [pf k0] (by kernel_rfl) ?_
  have hmk := hmore (by omega) hco hca _ k1 k2
  refine reg mix [] [pf (⟨k1, k2⟩ : 0 ≤ (IntKind.i64.wrap w).tmod (IntKind.i64.wrap ((l.length : Int) + 1)) ∧ (IntKind.i64.wrap w).tmod (IntKind.i64.wrap ((l.length : Int) + 1)) ≤ (l.length : Int)), pf (rfl : 0 = ([] : List (List C)).length), pf ((by omega) : (0 + ((IntKind.i64.wrap w).tmod (IntKind.i64.wrap ((l.length : Int) + 1))).toNat) * 73 ≤ 140737488355328),
    pf ((by simp) : 0 + ((IntKind.i64.wrap w).tmod (IntKind.i64.wrap ((l.length : Int) + 1))).toNat = ([] ++ (List.range ((IntKind.i64.wrap w).tmod (IntKind.i64.wrap ((l.length : Int) + 1))).toNat).map (elCa l)).length), pf ((by omega) : ((0 + ((IntKind.i64.wrap w).tmod (IntKind.i64.wrap ((l.length : Int) + 1))).toNat) + 1) * 73 ≤ 140737488355328), pf (rfl : 1 = [encCa c].length),
    pf (⟨k1, k2⟩ : 0 ≤ (IntKind.i64.wrap w).tmod (IntKind.i64.wrap ((l.length : Int) + 1)) ∧ (IntKind.i64.wrap w).tmod (IntKind.i64.wrap ((l.length : Int) + 1)) ≤ (l.length : Int)), pf ((by simp) : (0 + ((IntKind.i64.wrap w).tmod (IntKind.i64.wrap ((l.length : Int) + 1))).toNat) + 1 = (([] ++ (List.range ((IntKind.i64.wrap w).tmod (IntKind.i64.wrap ((l.length : Int) + 1))).toNat).map (elCa l)) ++ [encCa c]).length), pf ((by omega) : (((0 + ((IntKind.i64.wrap w).tmod (IntKind.i64.wrap ((l.length : Int) + 1))).toNat) + 1) + (l.length - ((IntKind.i64.wrap w).tmod (IntKind.i64.wrap ((l.length : Int) + 1))).toNat)) * 73 ≤ 140737488355328)] (by kernel_rfl) ?_
  refine frzRow hB 19 49 _ 42 9 _ (elCa (moreCa l c ((IntKind.i64.wrap w).tmod (IntKind.i64.wrap ((l.length : Int) + 1))))) [0, 2, 3, 4, 5, 6, 17] [] (by kernel_rfl) (by kernel_rfl) (css_len l c k1 k2) (frz_more l c k1 k2) (by kernel_rfl) ?_ (List.cons_ne_nil _ _)
  refine regC mix [(6, con c11)] (by kernel_rfl) ?_
  refine regC mix [(6, con hmk)] (by kernel_rfl) ?_
  refine regI mix [] [pf (fun _ : true = true => eq27)] (by kernel_rfl) ?_
  refine run_ret (ret_of (.v (vB ((r.a == r.a && (r.b == r.b && (r.c == r.c && (r.d == r.d && true)))) && (r.e == r.e)))) (by kernel_rfl) ?_)
  simp

def lw8 (l : List Ca) (c : Ca) (kind tel flt at' known w : Int) (x : Int × Int) : S := mkS 118 [(0, .b (.v (lCa l))), (2, .b (.v (vI kind))), (3, .b (.v (vI tel))), (4, .b (.v (vI flt))), (5, .b (.v (vI at'))), (6, .b (.v (vI known))), (7, .b (.v (.c (.int .u8 w)))), (9, .b (.v (.c (.kptr (encCa c) 0)))), (17, .b (.v (vB true))), (18, .b (.v (vI x.2))), (19, .b (.v (vI x.1)))] []
theorem takeCa {l : List Ca} {i : Nat} (h : i < l.length) : l.take (i + 1) = l.take i ++ [l.getD i zCa] := by
  rw [List.take_succ_eq_append_getElem h]
  simp [List.getD_eq_getElem?_getD, h]
theorem f8 (l : List Ca) (c : Ca) (kind tel flt at' known w : Int) (hw : 0 ≤ w ∧ w ≤ 255) : FCall Try.prog 8 [lCa l, .agg (encCa c), vI kind, vI tel, vI flt, vI at', vI known, .c (.int .u8 w)] (.v (vB true)) := by
  have c11 := m11 l kind tel flt at' known
  have hmore : l.length ≤ 20 → okCa c = true → 5 ≤ l.countP (fun x => applies x kind tel flt at' known && decide (x.at' > c.at')) → ∀ k : Int, 0 ≤ k → k ≤ l.length → FCall Try.prog 11 [.c (.lst 9 (((0 + k.toNat) + 1) + (l.length - k.toNat)) (elCa (moreCa l c k))), vI kind, vI tel, vI flt, vI at', vI known] (sbR (mst l kind tel flt at' known)) := by
    intro h1 h2 h3 k h4 h5
    have := m11n (more_len l c h4 h5) kind tel flt at' known
    rw [moreCa, mst_put _ _ c _ _ _ _ _ (by rw [more_back]; exact h1) h2 (.inr (by rw [more_back]; exact h3)), more_back] at this
    exact this
  generalize mst l kind tel flt at' known = r at c11 hmore
  refine fcall_of Try.func8 rfl (by kernel_rfl) (fun B hB => ?_)
  refine reg mix [(0, .imm)] [] (by kernel_rfl) ?_
  refine regC mix [(0, con f9)] (by kernel_rfl) ?_
  refine regI mix [(1, hcon (f10 l)), (5, hcon (f16 c))] [pf (fun _ : true = true => f10 l), pf (fun _ : (!(!decide ((l.length : Int) ≤ 20))) = true => f16 c)] (by kernel_rfl) ?_
  refine rCond ((!decide ((l.length : Int) ≤ 20)) || !okCa c) (by kernel_rfl) (fun h => ?_) (fun h => ?_)
  · refine reg0 mix (by kernel_rfl) ?_
    exact run_ret (ret_of (.v (vB true)) (by kernel_rfl) rfl)
  simp only [Bool.or_eq_false_iff, Bool.not_eq_false', decide_eq_true_eq] at h
  obtain ⟨hl, hco⟩ := h
  refine reg0 mix (by kernel_rfl) ?_
  refine reg0 mix (by kernel_rfl) ?_
  refine rBlock ?_
  refine rLoop (lw8 l c kind tel flt at' known w) (fun x => 0 ≤ x.1 ∧ x.1 ≤ l.length ∧ x.2 = ((l.take x.1.toNat).countP (fun x => applies x kind tel flt at' known && decide (x.at' > c.at')) : Nat)) (fun x => (l.length - x.1).toNat) (0, 0) (wkTo [0, 2, 3, 4, 5, 6, 7, 9, 17, 18, 19] [] (by kernel_rfl)) ⟨by simp, by simp, rfl⟩ ?_
  rintro ⟨i, n⟩ ⟨hi0, hi1, hn⟩
  simp only at hi0 hi1 hn
  have hcl : (l.take i.toNat).countP (fun x => applies x kind tel flt at' known && decide (x.at' > c.at')) ≤ l.length := Nat.le_trans List.countP_le_length (by simp; omega)
  refine reg0 mix (by kernel_rfl) ?_
  refine rCond (decide (i < (l.length : Int))) (by kernel_rfl) (fun hc => ?_) (fun hc => ?_)
  · have hc : i < l.length := of_decide_eq_true hc
    have e1 : IntKind.i64.wrap (i + 1) = i + 1 := w64 _ (by omega) (by omega)
    have e2 : IntKind.i64.wrap (n + 1) = n + 1 := w64 _ (by omega) (by omega)
    have hs : (i + 1).toNat = i.toNat + 1 := by omega
    have ht := takeCa (show i.toNat < l.length by omega)
    refine rJoin (fun n' => lw8 l c kind tel flt at' known w (i, n')) (fun n' => n' = ((l.take (i.toNat + 1)).countP (fun x => applies x kind tel flt at' known && decide (x.at' > c.at')) : Nat)) (List.cons_ne_nil _ _) ?_ ?_
    · refine rBlock ?_
      refine regI mix [(9, hcon (f15 (l.getD i.toNat zCa) kind tel flt at' known))] [pf (fun _ : true = true => (⟨hi0, hc⟩ : 0 ≤ i ∧ i < (l.length : Int))), pf (fun _ : true = true => f15 (l.getD i.toNat zCa) kind tel flt at' known), pf (fun _ : applies (l.getD i.toNat zCa) kind tel flt at' known = true => (⟨hi0, hc⟩ : 0 ≤ i ∧ i < (l.length : Int)))] (by kernel_rfl) ?_
      refine rCond (applies (l.getD i.toNat zCa) kind tel flt at' known && decide ((l.getD i.toNat zCa).at' > c.at')) (by kernel_rfl) (fun h => ?_) (fun h => ?_)
      · refine reg0 mix (by kernel_rfl) ?_
        refine run_nil (blockR_normal (run_nil (joined (IntKind.i64.wrap (n + 1)) ?_ (wkTo [0, 2, 3, 4, 5, 6, 7, 9, 17, 18, 19] [] (by kernel_rfl)))))
        rw [e2, ht, List.countP_append, List.countP_singleton, h, hn]; rfl
      · refine run_nil (blockR_normal (run_nil (joined n ?_ (wkTo [0, 2, 3, 4, 5, 6, 7, 9, 17, 18, 19] [] (by kernel_rfl)))))
        rw [ht, List.countP_append, List.countP_singleton, h, hn]; rfl
    · intro n' hn'
      refine reg0 mix (by kernel_rfl) ?_
      refine run_nil (loopR_next (IntKind.i64.wrap (i + 1), n') (wkTo [0, 2, 3, 4, 5, 6, 7, 9, 17, 18, 19] [] (by kernel_rfl)) ?_ ?_)
      · simp only [e1, hs]
        exact ⟨by omega, by omega, hn'⟩
      · simp only [e1]; omega
  have hc : ¬ i < l.length := of_decide_eq_false hc
  rw [show i.toNat = l.length by omega, List.take_of_length_le (Nat.le_refl _)] at hn
  refine run_exit (loopR_exit (blockR_exit ?_))
  refine reg0 mix (by kernel_rfl) ?_
  refine rCond (decide (n < 5)) (by kernel_rfl) (fun h => ?_) (fun h => ?_)
  · refine reg0 mix (by kernel_rfl) ?_
    exact run_ret (ret_of (.v (vB true)) (by kernel_rfl) rfl)
  have h5 := of_decide_eq_false h
  obtain ⟨k0, k1, k2⟩ := place_ok hw (show l.length ≤ 1000000 by omega)
  refine reg mix [] [pf k0] (by kernel_rfl) ?_
  have hmk := hmore (by omega) hco (by omega) _ k1 k2
  refine reg mix [] [pf (⟨k1, k2⟩ : 0 ≤ (IntKind.i64.wrap w).tmod (IntKind.i64.wrap ((l.length : Int) + 1)) ∧ (IntKind.i64.wrap w).tmod (IntKind.i64.wrap ((l.length : Int) + 1)) ≤ (l.length : Int)), pf (rfl : 0 = ([] : List (List C)).length), pf ((by omega) : (0 + ((IntKind.i64.wrap w).tmod (IntKind.i64.wrap ((l.length : Int) + 1))).toNat) * 73 ≤ 140737488355328),
    pf ((by simp) : 0 + ((IntKind.i64.wrap w).tmod (IntKind.i64.wrap ((l.length : Int) + 1))).toNat = ([] ++ (List.range ((IntKind.i64.wrap w).tmod (IntKind.i64.wrap ((l.length : Int) + 1))).toNat).map (elCa l)).length), pf ((by omega) : ((0 + ((IntKind.i64.wrap w).tmod (IntKind.i64.wrap ((l.length : Int) + 1))).toNat) + 1) * 73 ≤ 140737488355328), pf (rfl : 1 = [encCa c].length),
    pf (⟨k1, k2⟩ : 0 ≤ (IntKind.i64.wrap w).tmod (IntKind.i64.wrap ((l.length : Int) + 1)) ∧ (IntKind.i64.wrap w).tmod (IntKind.i64.wrap ((l.length : Int) + 1)) ≤ (l.length : Int)), pf ((by simp) : (0 + ((IntKind.i64.wrap w).tmod (IntKind.i64.wrap ((l.length : Int) + 1))).toNat) + 1 = (([] ++ (List.range ((IntKind.i64.wrap w).tmod (IntKind.i64.wrap ((l.length : Int) + 1))).toNat).map (elCa l)) ++ [encCa c]).length), pf ((by omega) : (((0 + ((IntKind.i64.wrap w).tmod (IntKind.i64.wrap ((l.length : Int) + 1))).toNat) + 1) + (l.length - ((IntKind.i64.wrap w).tmod (IntKind.i64.wrap ((l.length : Int) + 1))).toNat)) * 73 ≤ 140737488355328)] (by kernel_rfl) ?_
  refine frzRow hB 21 75 _ 42 9 _ (elCa (moreCa l c ((IntKind.i64.wrap w).tmod (IntKind.i64.wrap ((l.length : Int) + 1))))) [0, 2, 3, 4, 5, 6, 17] [] (by kernel_rfl) (by kernel_rfl) (css_len l c k1 k2) (frz_more l c k1 k2) (by kernel_rfl) ?_ (List.cons_ne_nil _ _)
  refine regC mix [(6, con c11)] (by kernel_rfl) ?_
  refine regC mix [(6, con hmk)] (by kernel_rfl) ?_
  refine regI mix [] [pf (fun _ : true = true => eq27)] (by kernel_rfl) ?_
  refine run_ret (ret_of (.v (vB ((r.a == r.a && (r.b == r.b && (r.c == r.c && (r.d == r.d && true)))) && (r.e == r.e)))) (by kernel_rfl) ?_)
  simp
end Go.Proofs.Ytmdgbejfdcfhpaa
