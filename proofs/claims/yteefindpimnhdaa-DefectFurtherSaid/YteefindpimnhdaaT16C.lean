import Derived.Test.YteefindpimnhdaaT16B
namespace Go.Proofs.Yteefindpimnhdaa
open Go.Sym
set_option linter.unusedVariables false
set_option linter.unusedSimpArgs false

def rkSt (l : List Df) (t v k : Int) (x : MS) : S := mkS 48 [(0, .b (.v (lDf l))), (1, .b (.v (vI t))), (2, .b (.v (vI v))), (3, .b (.v (vI k))), (8, .b (.v (.c (.ptr 8 0)))), (9, .b (.v (.c (.ptr 9 0)))), (10, .b (.v (vI x.i)))] [(8, .cells (encM zM)), (9, .cells (encM x.m))]
def rkT (l : List Df) (t v k : Int) (x : MS) (d : Df) : S := mkS 48 [(0, .b (.v (lDf l))), (1, .b (.v (vI t))), (2, .b (.v (vI v))), (3, .b (.v (vI k))), (8, .b (.v (.c (.ptr 8 0)))), (9, .b (.v (.c (.ptr 9 0)))), (10, .b (.v (vI x.i))), (11, .b (.v (.c (.ptr 11 0))))] [(8, .cells (encM zM)), (9, .cells (encM x.m)), (11, .cells (encDf d))]

theorem f23 (l : List Df) (t v k : Int) (hv : valid l = true) : FCall Try.prog 23 [lDf l, vI t, vI v, vI k] (.v (.agg (encM (mask l t v k)))) := by
  have hl := valid_len hv
  refine fcall_of Try.func23 rfl (by kernel_rfl) (fun B hB => ?_)
  refine reg0 mix (by kernel_rfl) ?_
  refine reg0 mix (by kernel_rfl) ?_
  refine reg0 mix (by kernel_rfl) ?_
  refine rBlock ?_
  refine rLoop (rkSt l t v k) (fun x => 0 ≤ x.i ∧ x.i ≤ l.length ∧ x.m = mask (l.take x.i.toNat) t v k) (fun x => (l.length - x.i).toNat) ⟨0, zM⟩ (wkTo [0, 1, 2, 3, 8, 9, 10] [] (by kernel_rfl)) ⟨by simp, by simp, by simp [mask, cov, zM]⟩ ?_
  rintro ⟨i, m⟩ ⟨hi0, hi1, hm⟩
  simp only at hi0 hi1 hm
  refine reg0 mix (by kernel_rfl) ?_
  refine rCond (decide (i < (l.length : Int))) (by kernel_rfl) (fun hc => ?_) (fun hc => ?_)
  · have hc : i < l.length := of_decide_eq_true hc
    have e : IntKind.i64.wrap (i + 1) = i + 1 := w64 _ (by omega) (by omega)
    have hd := get_ok hv (show i.toNat < l.length by omega)
    have hs : (i + 1).toNat = i.toNat + 1 := by omega
    have hh := @mask_hit l t v k i.toNat (by omega)
    have hn := @mask_miss l t v k i.toNat (by omega)
    rw [← hs, ← hm] at hh hn
    refine rJoin (fun m' => rkT l t v k ⟨i, m'⟩ (l.getD i.toNat zDf)) (fun m' => m' = mask (l.take (i + 1).toNat) t v k) (List.cons_ne_nil _ _) ?_ ?_
    · refine rBlock ?_
      refine reg mix [] [pf (⟨hi0, hc⟩ : 0 ≤ i ∧ i < (l.length : Int))] (by kernel_rfl) ?_
      refine rTold (rkT l t v k ⟨i, m⟩ (l.getD i.toNat zDf)) [0, 1, 2, 3, 8, 9, 10, 11] [] (by kernel_rfl) ?_ (by simp [flatC])
      generalize l.getD i.toNat zDf = d at hd hh hn ⊢
      refine reg0 mix (by kernel_rfl) ?_
      refine rCond (hit d t v k) (by kernel_rfl) (fun h => ?_) (fun h => ?_)
      · have hh := hh h
        have hcell := cell_cases hd
        obtain ⟨dt, dc, df, du, dk⟩ := d
        obtain ⟨ma, mb, mc, md⟩ := m
        simp only at hcell
        rcases hcell with rfl | rfl | rfl | rfl
        · refine reg mix [] [pf (by omega : (0 : Int) ≤ 0 ∧ (0 : Int) < 4)] (by kernel_rfl) ?_
          exact run_nil (blockR_normal (run_nil (joined (⟨true, mb, mc, md⟩ : M4) (by rw [hh]; simp [setM]) (wkTo [0, 1, 2, 3, 8, 9, 10, 11] [] (by kernel_rfl)))))
        · refine reg mix [] [pf (by omega : (0 : Int) ≤ 1 ∧ (1 : Int) < 4)] (by kernel_rfl) ?_
          exact run_nil (blockR_normal (run_nil (joined (⟨ma, true, mc, md⟩ : M4) (by rw [hh]; simp [setM]) (wkTo [0, 1, 2, 3, 8, 9, 10, 11] [] (by kernel_rfl)))))
        · refine reg mix [] [pf (by omega : (0 : Int) ≤ 2 ∧ (2 : Int) < 4)] (by kernel_rfl) ?_
          exact run_nil (blockR_normal (run_nil (joined (⟨ma, mb, true, md⟩ : M4) (by rw [hh]; simp [setM]) (wkTo [0, 1, 2, 3, 8, 9, 10, 11] [] (by kernel_rfl)))))
        · refine reg mix [] [pf (by omega : (0 : Int) ≤ 3 ∧ (3 : Int) < 4)] (by kernel_rfl) ?_
          exact run_nil (blockR_normal (run_nil (joined (⟨ma, mb, mc, true⟩ : M4) (by rw [hh]; simp [setM]) (wkTo [0, 1, 2, 3, 8, 9, 10, 11] [] (by kernel_rfl)))))
      · exact run_nil (blockR_normal (run_nil (joined m (hn h).symm (wkTo [0, 1, 2, 3, 8, 9, 10, 11] [] (by kernel_rfl)))))
    · intro m' hm'
      refine reg0 mix (by kernel_rfl) ?_
      refine run_nil (loopR_next (⟨IntKind.i64.wrap (i + 1), m'⟩ : MS) (wkTo [0, 1, 2, 3, 8, 9, 10] [11] (by kernel_rfl)) ?_ ?_)
      · rw [e]; exact ⟨by simp only; omega, by simp only; omega, hm'⟩
      · simp only [e]; omega
  · have hc : ¬ i < l.length := of_decide_eq_false hc
    refine run_exit (loopR_exit (blockR_exit ?_))
    refine reg0 mix (by kernel_rfl) ?_
    refine run_ret (ret_of (.v (.agg (encM m))) (by kernel_rfl) ?_)
    rw [hm, List.take_of_length_le (by omega)]

/-! ### Mask -/
def askOk (l : List Df) (t v k : Int) : Bool := valid l && tel t && mom v && mom k
def maskR (l : List Df) (t v k : Int) : SB := if askOk l t v k then .tup [.agg (encM (mask l t v k)), vI 0] else .tup [.agg (encM zM), vI 1]

theorem f11 (l : List Df) (t v k : Int) (hl : l.length ≤ 1000000) : FCall Try.prog 11 [lDf l, vI t, vI v, vI k] (maskR l t v k) := by
  refine fcall_of Try.func11 rfl (by kernel_rfl) (fun B hB => ?_)
  refine reg0 mix (by kernel_rfl) ?_
  refine reg mix [(1, hcon (f15 l hl)), (5, .frz 1 (elI [t])), (6, hcon (f19 5 [t] (by simp))), (12, .frz 2 (elI [v, k])), (13, hcon (f19 38399 [v, k] (by simp)))]
    [pf (f15 l hl), pf (ck1 [cI t] (elI [t]) rfl), pf (f19 5 [t] (by simp)), pf (ck2 [cI v] [cI k] (elI [v, k]) rfl rfl), pf (f19 38399 [v, k] (by simp))] (by kernel_rfl) ?_
  have e : askOk l t v k = !((!valid l || !inR 5 [t]) || !inR 38399 [v, k]) := by
    rw [Bool.eq_iff_iff]; simp [askOk, inR, tel, mom]
    constructor
    · rintro ⟨⟨⟨h1, h2⟩, h3⟩, h4⟩; exact ⟨⟨h1, h2⟩, h3, h4⟩
    · rintro ⟨⟨h1, h2⟩, h3, h4⟩; exact ⟨⟨⟨h1, h2⟩, h3⟩, h4⟩
  refine rCond ((!valid l || !inR 5 [t]) || !inR 38399 [v, k]) (by kernel_rfl) (fun h => ?_) (fun h => ?_)
  · refine reg0 mix (by kernel_rfl) ?_
    refine run_ret (ret_of (.tup [.agg (encM zM), vI 1]) (by kernel_rfl) ?_)
    rw [maskR, e, h]; rfl
  · rw [h] at e
    have hv : valid l = true ∧ (tel t = true ∧ mom v = true) ∧ mom k = true := by
      simp [askOk] at e; exact ⟨e.1.1.1, ⟨e.1.1.2, e.1.2⟩, e.2⟩
    have hm : 0 ≤ v ∧ v ≤ 38400 := by have := hv.2.1.2; simp [mom] at this; omega
    refine regC mix [(4, con (f20 l t v k hv.1 hm.1 hm.2))] (by kernel_rfl) ?_
    refine run_ret (ret_of (.tup [.agg (encM (mask l t v k)), vI 0]) (by kernel_rfl) ?_)
    rw [maskR, e]; rfl
theorem f12 (l : List Df) (t v k : Int) : FCall Try.prog 12 [lDf l, vI t, vI v, vI k] (maskR l t v k) := by
  refine fcall_of Try.func12 rfl (by kernel_rfl) (fun B hB => ?_)
  refine reg0 mix (by kernel_rfl) ?_
  refine regC mix [(1, con (f16 l)), (5, con (f21 t)), (10, con (f22 v)), (15, con (f22 k))] (by kernel_rfl) ?_
  have e : askOk l t v k = !(((!valid l || !tel t) || !mom v) || !mom k) := by
    unfold askOk; cases valid l <;> cases tel t <;> cases mom v <;> cases mom k <;> rfl
  refine rCond (((!valid l || !tel t) || !mom v) || !mom k) (by kernel_rfl) (fun h => ?_) (fun h => ?_)
  · refine reg0 mix (by kernel_rfl) ?_
    refine run_ret (ret_of (.tup [.agg (encM zM), vI 1]) (by kernel_rfl) ?_)
    rw [maskR, e, h]; rfl
  · rw [h] at e
    have hv : valid l = true := by
      simp [askOk] at e; exact e.1.1.1
    refine regC mix [(4, con (f23 l t v k hv))] (by kernel_rfl) ?_
    refine run_ret (ret_of (.tup [.agg (encM (mask l t v k)), vI 0]) (by kernel_rfl) ?_)
    rw [maskR, e]; rfl

/-! ### Spans and inside -/
def spS (a b : List Sp) (i : Int) : S := mkS 26 [(0, .b (.v (lSp a))), (1, .b (.v (lSp b))), (4, .b (.v (vB false))), (5, .b (.v (vI i)))] []
theorem getSp {l : List Sp} {j : Nat} (h : j < l.length) : l.getD j zSp = l[j] := by simp [List.getD_eq_getElem?_getD, h]
theorem sp_ne (s r : Sp) : (!(s.frm == r.frm && (s.til == r.til && true))) = !decide (s = r) := by
  obtain ⟨a, b⟩ := s
  obtain ⟨c, d⟩ := r
  rw [Bool.eq_iff_iff]; simp
theorem eq39 : EqTy Try.prog 39 [.int .i64, .int .i64] := eqTy_of 3 (by kernel_rfl) (by omega) (by kernel_rfl) (by kernel_rfl)
theorem f17 (a b : List Sp) (hl : a.length ≤ 1000000) : FCall Try.prog 17 [lSp a, lSp b] (.v (vB (decide (a = b)))) := by
  refine fcall_of Try.func17 rfl (by kernel_rfl) (fun B hB => ?_)
  refine reg0 mix (by kernel_rfl) ?_
  refine reg0 mix (by kernel_rfl) ?_
  refine rCond (((a.length : Int) != (b.length : Int))) (by kernel_rfl) (fun h => ?_) (fun h => ?_)
  · refine reg0 mix (by kernel_rfl) ?_
    refine run_ret (ret_of (.v (vB false)) (by kernel_rfl) ?_)
    have : ¬ a = b := fun he => by subst he; simp at h
    simp [this]
  have hlen : a.length = b.length := by simp at h; omega
  refine reg0 mix (by kernel_rfl) ?_
  refine rBlock ?_
  refine rLoop (spS a b) (fun i => 0 ≤ i ∧ i ≤ a.length ∧ ∀ j : Nat, (j : Int) < i → a.getD j zSp = b.getD j zSp) (fun i => (a.length - i).toNat) 0 (wkTo [0, 1, 4, 5] [] (by kernel_rfl)) ⟨by omega, by omega, fun j hj => by omega⟩ ?_
  intro i ⟨h0, h1, h2⟩
  refine reg0 mix (by kernel_rfl) ?_
  refine rCond (decide (i < (a.length : Int))) (by kernel_rfl) (fun hc => ?_) (fun hc => ?_)
  · have hc : i < a.length := of_decide_eq_true hc
    have e : IntKind.i64.wrap (i + 1) = i + 1 := w64 _ (by omega) (by omega)
    refine rBlock ?_
    refine reg mix [] [pf (⟨h0, hc⟩ : 0 ≤ i ∧ i < (a.length : Int)), pf (⟨h0, by omega⟩ : 0 ≤ i ∧ i < (b.length : Int)), pf eq39] (by kernel_rfl) ?_
    refine rCond (!((a.getD i.toNat zSp).frm == (b.getD i.toNat zSp).frm && ((a.getD i.toNat zSp).til == (b.getD i.toNat zSp).til && true))) (by kernel_rfl) (fun h => ?_) (fun h => ?_)
    · rw [sp_ne] at h
      refine reg0 mix (by kernel_rfl) ?_
      refine run_ret (blockR_ret (loopR_ret (blockR_ret (ret_of (.v (vB false)) (by kernel_rfl) ?_))))
      have : ¬ a = b := fun he => by subst he; simp at h
      simp [this]
    · rw [sp_ne] at h
      refine run_nil (blockR_normal ?_)
      refine reg0 mix (by kernel_rfl) ?_
      refine run_nil (loopR_next (IntKind.i64.wrap (i + 1)) (wkTo [0, 1, 4, 5] [] (by kernel_rfl)) ?_ ?_)
      · rw [e]
        refine ⟨by omega, by omega, fun j hj => ?_⟩
        by_cases hji : (j : Int) < i
        · exact h2 j hji
        · have : j = i.toNat := by omega
          subst this
          simpa using h
      · rw [e]; omega
  · have hc : ¬ i < a.length := of_decide_eq_false hc
    refine run_exit (loopR_exit (blockR_exit ?_))
    refine reg0 mix (by kernel_rfl) ?_
    refine run_ret (ret_of (.v (vB true)) (by kernel_rfl) ?_)
    have : a = b := by
      apply List.ext_getElem hlen
      intro j hj hj'
      have := h2 j (by omega)
      rwa [getSp hj, getSp hj'] at this
    simp [this]

def inside (l : List Sp) (m : Int) : Bool := l.any fun s => decide (s.frm ≤ m) && decide (m ≤ s.til)
def isS (l : List Sp) (m : Int) (i : Int) : S := mkS 28 [(0, .b (.v (lSp l))), (1, .b (.v (vI m))), (4, .b (.v (vB false))), (5, .b (.v (vI i)))] []
theorem f18 (l : List Sp) (m : Int) (hl : l.length ≤ 1000000) : FCall Try.prog 18 [lSp l, vI m] (.v (vB (inside l m))) := by
  refine fcall_of Try.func18 rfl (by kernel_rfl) (fun B hB => ?_)
  refine reg0 mix (by kernel_rfl) ?_
  refine reg0 mix (by kernel_rfl) ?_
  refine rBlock ?_
  refine rLoop (isS l m) (fun i => 0 ≤ i ∧ i ≤ l.length ∧ ∀ j : Nat, (j : Int) < i → (decide ((l.getD j zSp).frm ≤ m) && decide (m ≤ (l.getD j zSp).til)) = false) (fun i => (l.length - i).toNat) 0 (wkTo [0, 1, 4, 5] [] (by kernel_rfl)) ⟨by omega, by omega, fun j hj => by omega⟩ ?_
  intro i ⟨h0, h1, h2⟩
  refine reg0 mix (by kernel_rfl) ?_
  refine rCond (decide (i < (l.length : Int))) (by kernel_rfl) (fun hc => ?_) (fun hc => ?_)
  · have hc : i < l.length := of_decide_eq_true hc
    have e : IntKind.i64.wrap (i + 1) = i + 1 := w64 _ (by omega) (by omega)
    refine rBlock ?_
    refine reg mix [] [pf (⟨h0, hc⟩ : 0 ≤ i ∧ i < (l.length : Int)), pf (⟨h0, hc⟩ : 0 ≤ i ∧ i < (l.length : Int))] (by kernel_rfl) ?_
    refine rCond (decide ((l.getD i.toNat zSp).frm ≤ m) && decide (m ≤ (l.getD i.toNat zSp).til)) (by kernel_rfl) (fun h => ?_) (fun h => ?_)
    · refine reg0 mix (by kernel_rfl) ?_
      refine run_ret (blockR_ret (loopR_ret (blockR_ret (ret_of (.v (vB true)) (by kernel_rfl) ?_))))
      have hi : i.toNat < l.length := by omega
      have : inside l m = true := List.any_eq_true.2 ⟨l[i.toNat], List.getElem_mem hi, by rw [← getSp hi]; exact h⟩
      rw [this]
    · refine run_nil (blockR_normal ?_)
      refine reg0 mix (by kernel_rfl) ?_
      refine run_nil (loopR_next (IntKind.i64.wrap (i + 1)) (wkTo [0, 1, 4, 5] [] (by kernel_rfl)) ?_ ?_)
      · rw [e]
        refine ⟨by omega, by omega, fun j hj => ?_⟩
        by_cases hji : (j : Int) < i
        · exact h2 j hji
        · have : j = i.toNat := by omega
          subst this
          exact h
      · rw [e]; omega
  · have hc : ¬ i < l.length := of_decide_eq_false hc
    refine run_exit (loopR_exit (blockR_exit ?_))
    refine reg0 mix (by kernel_rfl) ?_
    refine run_ret (ret_of (.v (vB false)) (by kernel_rfl) ?_)
    have : inside l m = false := by
      rw [Bool.eq_false_iff]
      intro ha
      obtain ⟨s, hs, hp⟩ := List.any_eq_true.1 ha
      obtain ⟨j, hj, rfl⟩ := List.getElem_of_mem hs
      have := h2 j (by omega)
      rw [getSp hj, hp] at this
      cases this
    rw [this]

end Go.Proofs.Yteefindpimnhdaa
