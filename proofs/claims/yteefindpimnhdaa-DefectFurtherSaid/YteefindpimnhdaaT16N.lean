import Derived.Test.YteefindpimnhdaaT16M
namespace Go.Proofs.Yteefindpimnhdaa
open Go.Sym
set_option linter.unusedVariables false
set_option linter.unusedSimpArgs false

/-! ### Lists of the same members -/
theorem any_mem {a b : List Df} (h : ∀ d, d ∈ a ↔ d ∈ b) (p : Df → Bool) : a.any p = b.any p := by
  rw [Bool.eq_iff_iff, List.any_eq_true, List.any_eq_true]
  exact ⟨fun ⟨d, h1, h2⟩ => ⟨d, (h d).1 h1, h2⟩, fun ⟨d, h1, h2⟩ => ⟨d, (h d).2 h1, h2⟩⟩
theorem mask_mem {a b : List Df} (h : ∀ d, d ∈ a ↔ d ∈ b) (t v k : Int) : mask a t v k = mask b t v k := by
  simp only [mask, cov, any_mem h]
theorem valid_mem {a b : List Df} (h : ∀ d, d ∈ a ↔ d ∈ b) (ha : a.length ≤ 200) (hb : b.length ≤ 200) : valid a = valid b := by
  have : a.all okDf = b.all okDf := by
    rw [Bool.eq_iff_iff, List.all_eq_true, List.all_eq_true]
    exact ⟨fun h1 d hd => h1 d ((h d).2 hd), fun h1 d hd => h1 d ((h d).1 hd)⟩
  simp [valid, ha, hb, this]
theorem bs_mem {a b : List Df} (h : ∀ d, d ∈ a ↔ d ∈ b) : bs a = bs b := by
  refine srt_eq fun x => ?_
  rw [mem_bord, mem_bord]
  simp only [h]
theorem diff_mem {a b : List Df} (h : ∀ d, d ∈ a ↔ d ∈ b) (t one two x : Int) : diff a t one two x = diff b t one two x := by
  unfold diff; rw [mask_mem h, mask_mem h]
theorem chgF_mem {a b : List Df} (h : ∀ d, d ∈ a ↔ d ∈ b) (t one two : Int) (s : List Int) : ∀ n, chgF a t one two s n = chgF b t one two s n := by
  intro n
  induction n with
  | zero => rfl
  | succ n ih => simp only [chgF, ih, diff_mem h]
theorem askOk_mem {a b : List Df} (h : ∀ d, d ∈ a ↔ d ∈ b) (ha : a.length ≤ 200) (hb : b.length ≤ 200) (t v k : Int) : askOk a t v k = askOk b t v k := by
  unfold askOk; rw [valid_mem h ha hb]
theorem maskV_mem {a b : List Df} (h : ∀ d, d ∈ a ↔ d ∈ b) (ha : a.length ≤ 200) (hb : b.length ≤ 200) (t v k : Int) : maskV a t v k = maskV b t v k := by
  unfold maskV; rw [askOk_mem h ha hb, mask_mem h]
theorem askE_mem {a b : List Df} (h : ∀ d, d ∈ a ↔ d ∈ b) (ha : a.length ≤ 200) (hb : b.length ≤ 200) (t v k : Int) : askE a t v k = askE b t v k := by
  unfold askE; rw [askOk_mem h ha hb]
theorem spansV_mem {a b : List Df} (h : ∀ d, d ∈ a ↔ d ∈ b) (ha : a.length ≤ 200) (hb : b.length ≤ 200) (t v k : Int) : spansV a t v k = spansV b t v k := by
  unfold spansV chgs; rw [askOk_mem h ha hb, bs_mem h, chgF_mem h]

/-- From the last to the first, each one twice. -/
def dbl (l : List Df) : Nat → List Df
  | 0 => []
  | j + 1 => dbl l j ++ [l.getD (l.length - 1 - j) zDf, l.getD (l.length - 1 - j) zDf]
theorem dbl_len (l : List Df) : ∀ j, (dbl l j).length = 2 * j := by
  intro j
  induction j with
  | zero => rfl
  | succ j ih => simp [dbl, ih]; omega
theorem mem_dbl (l : List Df) (d : Df) : ∀ j, d ∈ dbl l j ↔ ∃ q, q < j ∧ d = l.getD (l.length - 1 - q) zDf := by
  intro j
  induction j with
  | zero => simp [dbl]
  | succ j ih =>
    simp only [dbl, List.mem_append, ih, List.mem_cons, List.not_mem_nil, or_false, or_self]
    constructor
    · rintro (⟨q, h1, h2⟩ | h)
      · exact ⟨q, by omega, h2⟩
      · exact ⟨j, by omega, h⟩
    · rintro ⟨q, h1, h2⟩
      by_cases hq : q < j
      · exact .inl ⟨q, hq, h2⟩
      · have : q = j := by omega
        subst this; exact .inr h2
theorem dbl_all (l : List Df) (d : Df) : d ∈ l ↔ d ∈ dbl l l.length := by
  rw [mem_dbl, List.mem_iff_getElem]
  constructor
  · rintro ⟨j, hj, rfl⟩
    exact ⟨l.length - 1 - j, by omega, by rw [show l.length - 1 - (l.length - 1 - j) = j by omega, getDf hj]⟩
  · rintro ⟨q, hq, rfl⟩
    exact ⟨l.length - 1 - q, by omega, by rw [getDf (by omega)]⟩
def rowDf (l : List Df) : List (List C) := l.map encDf
theorem rowDf_len (l : List Df) : (rowDf l).length = l.length := by simp [rowDf]

structure O1 where
  i : Int
  n : Nat
  css : List (List C)
def f6S (l : List Df) (t v k one two : Int) (x : O1) : S := mkS 100 [(0, .b (.v (lDf l))), (1, .b (.v (vI t))), (2, .b (.v (vI v))), (3, .b (.v (vI k))), (4, .b (.v (vI one))), (5, .b (.v (vI two))), (13, .b (.v (vB true))), (14, .b (.v (.c (.row 6 x.n)))), (15, .b (.v (vI x.i)))] [(6, .row 36 5 x.css)]

theorem f6 (l : List Df) (t v k one two : Int) : FCall Try.prog 6 [lDf l, vI t, vI v, vI k, vI one, vI two] (.v (vB true)) := by
  refine fcall_of Try.func6 rfl (by kernel_rfl) (fun B hB => ?_)
  refine reg0 mix (by kernel_rfl) ?_
  refine regC mix [(0, con f9)] (by kernel_rfl) ?_
  refine reg0 mix (by kernel_rfl) ?_
  refine rCond (decide ((l.length : Int) > 20)) (by kernel_rfl) (fun h => ?_) (fun h => ?_)
  · refine reg0 mix (by kernel_rfl) ?_
    exact run_ret (ret_of (.v (vB true)) (by kernel_rfl) rfl)
  have hl : l.length ≤ 20 := by have := of_decide_eq_false h; omega
  refine reg0 mix (by kernel_rfl) ?_
  refine run_weaken (wk_nilRow 14 6 36 5 (by kernel_rfl) (by kernel_rfl) (by omega)) ?_ (List.cons_ne_nil _ _)
  refine reg0 mix (by kernel_rfl) ?_
  refine rBlock ?_
  have ew : IntKind.i64.wrap ((l.length : Int) - 1) = (l.length : Int) - 1 := w64 _ (by omega) (by omega)
  refine rLoop (f6S l t v k one two) (fun x => -1 ≤ x.i ∧ x.i < l.length ∧ x.css = rowDf (dbl l (l.length - 1 - x.i).toNat) ∧ x.n = x.css.length) (fun x => (x.i + 1).toNat) ⟨IntKind.i64.wrap ((l.length : Int) - 1), 0, []⟩ (wkTo [0, 1, 2, 3, 4, 5, 13, 14, 15] [] (by kernel_rfl)) ⟨by rw [ew]; simp only; omega, by rw [ew]; simp only; omega, by rw [ew]; simp only; rw [show ((l.length : Int) - 1 - ((l.length : Int) - 1)).toNat = 0 by omega]; rfl, rfl⟩ ?_
  rintro ⟨i, n, css⟩ ⟨hi0, hi1, hcss, hn⟩
  simp only at hi0 hi1 hcss hn
  have hnl : css.length = 2 * ((l.length : Int) - 1 - i).toNat := by rw [hcss, rowDf_len, dbl_len]
  refine reg0 mix (by kernel_rfl) ?_
  refine rCond (decide (i ≥ 0)) (by kernel_rfl) (fun hc => ?_) (fun hc => ?_)
  · have hc : i ≥ 0 := of_decide_eq_true hc
    have e1 : IntKind.i64.wrap (i - 1) = i - 1 := w64 _ (by omega) (by omega)
    refine rBlock ?_
    refine reg mix [] [pf (⟨hc, hi1⟩ : 0 ≤ i ∧ i < (l.length : Int)), pf (⟨hc, hi1⟩ : 0 ≤ i ∧ i < (l.length : Int)), pf hn, pf (by omega : (n + 2) * 41 ≤ 140737488355328), pf (rfl : 2 = [encDf (l.getD i.toNat zDf), encDf (l.getD i.toNat zDf)].length)] (by kernel_rfl) ?_
    refine run_nil (blockR_normal ?_)
    refine reg0 mix (by kernel_rfl) ?_
    refine run_nil (loopR_next (⟨IntKind.i64.wrap (i - 1), n + 2, css ++ [encDf (l.getD i.toNat zDf), encDf (l.getD i.toNat zDf)]⟩ : O1) (wkTo [0, 1, 2, 3, 4, 5, 13, 14, 15] [45] (by kernel_rfl)) ?_ ?_)
    · rw [e1]
      refine ⟨by simp only; omega, by simp only; omega, ?_, by simp [hn]⟩
      simp only
      rw [show ((l.length : Int) - 1 - (i - 1)).toNat = ((l.length : Int) - 1 - i).toNat + 1 by omega, dbl, hcss, show l.length - 1 - ((l.length : Int) - 1 - i).toNat = i.toNat by omega]
      simp [rowDf]
    · simp only [e1]; omega
  have hc : ¬ i ≥ 0 := of_decide_eq_false hc
  have hi : ((l.length : Int) - 1 - i).toNat = l.length := by omega
  rw [hi] at hcss
  subst hcss
  rw [rowDf_len] at hn
  subst hn
  refine run_exit (loopR_exit (blockR_exit ?_))
  refine frzRow hB 14 6 (dbl l l.length).length 36 5 (rowDf (dbl l l.length)) (elDf (dbl l l.length)) [0, 1, 2, 3, 4, 5, 13] [] (by kernel_rfl) (by kernel_rfl) (rowDf_len _).symm ?_ (by kernel_rfl) ?_ (List.cons_ne_nil _ _)
  · intro i hi
    simp [elDf, rowDf, List.getD_eq_getElem?_getD, hi]
  have hlb := dbl_len l l.length
  have hmem := dbl_all l
  have hs := spansV_len l one two
  refine regC mix [(4, con (g11 l t v k (by omega)))] (by kernel_rfl) ?_
  refine regC mix [(4, con (g11 (dbl l l.length) t v k (by omega)))] (by kernel_rfl) ?_
  refine regC mix [(4, con (g13 l t one two (by omega)))] (by kernel_rfl) ?_
  refine regC mix [(4, con (g13 (dbl l l.length) t one two (by omega)))] (by kernel_rfl) ?_
  have hs := spansV_len l t one two
  refine reg mix [(14, hcon (f17 (spansV l t one two) (spansV (dbl l l.length) t one two) (by omega)))] [pf eq26, pf (f17 (spansV l t one two) (spansV (dbl l l.length) t one two) (by omega))] (by kernel_rfl) ?_
  refine run_ret (ret_of (.v (vB ((((true && mEq (maskV l t v k) (maskV (dbl l l.length) t v k)) && (askE l t v k == askE (dbl l l.length) t v k)) && decide (spansV l t one two = spansV (dbl l l.length) t one two)) && (askE l t one two == askE (dbl l l.length) t one two)))) (by kernel_rfl) ?_)
  rw [m4_eq, ← maskV_mem hmem (by omega) (by omega), ← askE_mem hmem (by omega) (by omega), ← askE_mem hmem (by omega) (by omega), ← spansV_mem hmem (by omega) (by omega)]
  simp

/-! ### A further defect -/
theorem app_row (l : List Df) (d : Df) : ∀ i, i < (l ++ [d]).length → elDf (l ++ [d]) i = ((([] : List (List C)) ++ (List.range l.length).map (elDf l)) ++ [encDf d]).getD i [] := by
  intro i hi
  have hi' : i ≤ l.length := by simp at hi; omega
  rw [List.nil_append, elDf]
  by_cases h : i < l.length
  · rw [List.getD_eq_getElem?_getD, List.getD_eq_getElem?_getD, List.getElem?_append_left h, List.getElem?_append_left (by simpa using h)]
    simp [h, elDf, List.getD_eq_getElem?_getD]
  · have : i = l.length := by omega
    subst this
    rw [List.getD_eq_getElem?_getD, List.getD_eq_getElem?_getD, List.getElem?_append_right (by omega), List.getElem?_append_right (by simp)]
    simp
theorem mask_app (l : List Df) (d : Df) (t v k : Int) : mask (l ++ [d]) t v k = if hit d t v k then setM (mask l t v k) d.cell else mask l t v k := by
  cases h : hit d t v k <;> simp [mask, cov, h, setM]
theorem valid_app {l : List Df} {d : Df} (h : valid (l ++ [d]) = true) : valid l = true ∧ okDf d = true := by
  simp only [valid, Bool.and_eq_true, decide_eq_true_iff, List.length_append, List.length_singleton, List.all_append, List.all_cons, List.all_nil, Bool.and_true] at h ⊢
  exact ⟨⟨by omega, h.2.1⟩, h.2.2⟩

theorem f7 (l : List Df) (d : Df) (t v k : Int) : FCall Try.prog 7 [lDf l, .agg (encDf d), vI t, vI v, vI k] (.v (vB true)) := by
  refine fcall_of Try.func7 rfl (by kernel_rfl) (fun B hB => ?_)
  refine reg0 mix (by kernel_rfl) ?_
  refine regC mix [(0, con f9)] (by kernel_rfl) ?_
  refine reg0 mix (by kernel_rfl) ?_
  refine rCond (decide ((l.length : Int) > 20)) (by kernel_rfl) (fun h => ?_) (fun h => ?_)
  · refine reg0 mix (by kernel_rfl) ?_
    exact run_ret (ret_of (.v (vB true)) (by kernel_rfl) rfl)
  have hl : l.length ≤ 20 := by have := of_decide_eq_false h; omega
  have hl1 : (l ++ [d]).length ≤ 1000000 := by simp; omega
  refine regC mix [(4, con (g11 l t v k (by omega)))] (by kernel_rfl) ?_
  refine regF hB mix [(5, .frzA (l ++ [d]).length (elDf (l ++ [d]))), (9, hcon (g11 (l ++ [d]) t v k hl1))]
    [pf (rfl : 0 = ([] : List (List C)).length), pf (by omega : (0 + l.length) * 41 ≤ 140737488355328), pf (by simp : 0 + l.length = (([] : List (List C)) ++ (List.range l.length).map (elDf l)).length), pf (by omega : (0 + l.length + 1) * 41 ≤ 140737488355328),
     pf (⟨by simp, app_row l d⟩ : (l ++ [d]).length = 0 + l.length + 1 ∧ ∀ i, i < (l ++ [d]).length → elDf (l ++ [d]) i = ((([] : List (List C)) ++ (List.range l.length).map (elDf l)) ++ [encDf d]).getD i []), pf (rfl : 1 = [encDf d].length), pf (g11 (l ++ [d]) t v k hl1)] (by kernel_rfl) ?_
  refine reg0 mix (by kernel_rfl) ?_
  have hup : askOk (l ++ [d]) t v k = true → askOk l t v k = true ∧ okDf d = true := fun h => by
    rw [askOk_iff] at h ⊢
    exact ⟨⟨(valid_app h.1).1, h.2⟩, (valid_app h.1).2⟩
  refine rCond ((askE l t v k != 0) || (askE (l ++ [d]) t v k != 0)) (by kernel_rfl) (fun h => ?_) (fun h => ?_)
  · refine reg0 mix (by kernel_rfl) ?_
    refine run_ret (ret_of (.v (vB (true && ((askE l t v k == 0) || (askE (l ++ [d]) t v k == 1))))) (by kernel_rfl) ?_)
    cases h1 : askOk l t v k
    · have h2 : askOk (l ++ [d]) t v k = false := by
        cases hh : askOk (l ++ [d]) t v k
        · rfl
        · rw [(hup hh).1] at h1; cases h1
      simp [askE, h2]
    · simp [askE, h1]
  have hk : askOk (l ++ [d]) t v k = true := by
    cases hh : askOk (l ++ [d]) t v k
    · simp [askE, hh] at h
    · rfl
  obtain ⟨hk0, hd⟩ := hup hk
  have hcell := cell_cases hd
  refine reg0 mix (by kernel_rfl) ?_
  refine rCondF (decide (d.cell < 0) || decide (d.cell > 3)) (by kernel_rfl) (by simp; omega) ?_
  refine reg0 mix (by kernel_rfl) ?_
  have hA : maskV l t v k = mask l t v k := by rw [maskV, if_pos hk0]
  have hB2 : maskV (l ++ [d]) t v k = if hit d t v k then setM (mask l t v k) d.cell else mask l t v k := by rw [maskV, if_pos hk, mask_app]
  refine rCond (hit d t v k) (by kernel_rfl) (fun h => ?_) (fun h => ?_)
  · rw [h, if_pos rfl] at hB2
    obtain ⟨dt, dc, df, du, dk⟩ := d
    simp only at hcell
    rcases hcell with rfl | rfl | rfl | rfl
    · refine reg mix [] [pf (by omega : (0 : Int) ≤ 0 ∧ (0 : Int) < 4)] (by kernel_rfl) ?_
      refine reg mix [] [pf eq26] (by kernel_rfl) ?_
      refine run_ret (ret_of (.v (vB (true && mEq ⟨true, (maskV l t v k).b, (maskV l t v k).c, (maskV l t v k).d⟩ (maskV (l ++ [⟨dt, 0, df, du, dk⟩]) t v k)))) (by kernel_rfl) ?_)
      rw [m4_eq, hB2, hA]; simp [setM]
    · refine reg mix [] [pf (by omega : (0 : Int) ≤ 1 ∧ (1 : Int) < 4)] (by kernel_rfl) ?_
      refine reg mix [] [pf eq26] (by kernel_rfl) ?_
      refine run_ret (ret_of (.v (vB (true && mEq ⟨(maskV l t v k).a, true, (maskV l t v k).c, (maskV l t v k).d⟩ (maskV (l ++ [⟨dt, 1, df, du, dk⟩]) t v k)))) (by kernel_rfl) ?_)
      rw [m4_eq, hB2, hA]; simp [setM]
    · refine reg mix [] [pf (by omega : (0 : Int) ≤ 2 ∧ (2 : Int) < 4)] (by kernel_rfl) ?_
      refine reg mix [] [pf eq26] (by kernel_rfl) ?_
      refine run_ret (ret_of (.v (vB (true && mEq ⟨(maskV l t v k).a, (maskV l t v k).b, true, (maskV l t v k).d⟩ (maskV (l ++ [⟨dt, 2, df, du, dk⟩]) t v k)))) (by kernel_rfl) ?_)
      rw [m4_eq, hB2, hA]; simp [setM]
    · refine reg mix [] [pf (by omega : (0 : Int) ≤ 3 ∧ (3 : Int) < 4)] (by kernel_rfl) ?_
      refine reg mix [] [pf eq26] (by kernel_rfl) ?_
      refine run_ret (ret_of (.v (vB (true && mEq ⟨(maskV l t v k).a, (maskV l t v k).b, (maskV l t v k).c, true⟩ (maskV (l ++ [⟨dt, 3, df, du, dk⟩]) t v k)))) (by kernel_rfl) ?_)
      rw [m4_eq, hB2, hA]; simp [setM]
  · rw [h] at hB2
    refine reg mix [] [pf eq26] (by kernel_rfl) ?_
    refine run_ret (ret_of (.v (vB (true && mEq (maskV l t v k) (maskV (l ++ [d]) t v k)))) (by kernel_rfl) ?_)
    rw [m4_eq, hB2, hA]; simp

end Go.Proofs.Yteefindpimnhdaa
