import Derived.Test.YteefindpimnhdaaT16A
namespace Go.Proofs.Yteefindpimnhdaa
open Go.Sym
set_option linter.unusedVariables false
set_option linter.unusedSimpArgs false

/-- A mask of the four cells. -/
structure M4 where
  a : Bool
  b : Bool
  c : Bool
  d : Bool
deriving DecidableEq
def encM (m : M4) : List C := [cB m.a, cB m.b, cB m.c, cB m.d]
def zM : M4 := ⟨false, false, false, false⟩
def setM (m : M4) (c : Int) : M4 := ⟨m.a || c == 0, m.b || c == 1, m.c || c == 2, m.d || c == 3⟩

def hit (d : Df) (t v k : Int) : Bool := (((d.tel == t) && decide (d.frm ≤ v)) && decide (v ≤ d.til)) && decide (d.known ≤ k)
def cov (l : List Df) (t v k c : Int) : Bool := l.any fun d => hit d t v k && (d.cell == c)
def mask (l : List Df) (t v k : Int) : M4 := ⟨cov l t v k 0, cov l t v k 1, cov l t v k 2, cov l t v k 3⟩

theorem take_get {l : List Df} {n : Nat} (h : n < l.length) : l.take (n + 1) = l.take n ++ [l.getD n zDf] := by
  rw [List.take_add_one, List.getElem?_eq_getElem h]
  simp [List.getD_eq_getElem?_getD, h]
theorem cov_step {l : List Df} {t v k c : Int} {n : Nat} (h : n < l.length) : cov (l.take (n + 1)) t v k c = (cov (l.take n) t v k c || (hit (l.getD n zDf) t v k && ((l.getD n zDf).cell == c))) := by
  rw [take_get h]; simp [cov]
theorem mask_hit {l : List Df} {t v k : Int} {n : Nat} (h : n < l.length) (hh : hit (l.getD n zDf) t v k = true) : mask (l.take (n + 1)) t v k = setM (mask (l.take n) t v k) (l.getD n zDf).cell := by
  simp only [mask, setM, cov_step h, hh, Bool.true_and]
theorem mask_miss {l : List Df} {t v k : Int} {n : Nat} (h : n < l.length) (hh : hit (l.getD n zDf) t v k = false) : mask (l.take (n + 1)) t v k = mask (l.take n) t v k := by
  simp only [mask, cov_step h, hh, Bool.false_and, Bool.or_false]

structure MS where
  i : Int
  m : M4
def mkSt (l : List Df) (t v k : Int) (x : MS) : S := mkS 46 [(0, .b (.v (lDf l))), (1, .b (.v (vI t))), (2, .b (.v (vI v))), (3, .b (.v (vI k))), (8, .b (.v (.c (.ptr 8 0)))), (9, .b (.v (.c (.ptr 9 0)))), (12, .b (.v (lDf l))), (13, .b (.v (vI l.length))), (14, .b (.v (vI x.i)))] [(8, .cells (encM zM)), (9, .cells (encM x.m))]
def mkT (l : List Df) (t v k : Int) (x : MS) (d : Df) : S := mkS 46 [(0, .b (.v (lDf l))), (1, .b (.v (vI t))), (2, .b (.v (vI v))), (3, .b (.v (vI k))), (8, .b (.v (.c (.ptr 8 0)))), (9, .b (.v (.c (.ptr 9 0)))), (11, .b (.v (.c (.ptr 11 0)))), (12, .b (.v (lDf l))), (13, .b (.v (vI l.length))), (14, .b (.v (vI x.i)))] [(8, .cells (encM zM)), (9, .cells (encM x.m)), (11, .cells (encDf d))]

theorem okDf_bounds {d : Df} (h : okDf d = true) : (0 ≤ d.tel ∧ d.tel ≤ 5) ∧ (0 ≤ d.cell ∧ d.cell ≤ 3) ∧ (0 ≤ d.frm ∧ d.frm ≤ 38399) ∧ (0 ≤ d.til ∧ d.til ≤ 38399) ∧ (0 ≤ d.known ∧ d.known ≤ 38399) ∧ d.frm ≤ d.til := by
  simp [okDf, tel, mom] at h
  omega
theorem cell_cases {d : Df} (h : okDf d = true) : d.cell = 0 ∨ d.cell = 1 ∨ d.cell = 2 ∨ d.cell = 3 := by
  have := okDf_bounds h; omega

theorem f20 (l : List Df) (t v k : Int) (hv : valid l = true) (h0 : 0 ≤ v) (h1 : v ≤ 38400) : FCall Try.prog 20 [lDf l, vI t, vI v, vI k] (.v (.agg (encM (mask l t v k)))) := by
  have hl := valid_len hv
  refine fcall_of Try.func20 rfl (by kernel_rfl) (fun B hB => ?_)
  refine reg0 mix (by kernel_rfl) ?_
  refine reg0 mix (by kernel_rfl) ?_
  refine reg0 mix (by kernel_rfl) ?_
  refine rBlock ?_
  refine rLoop (mkSt l t v k) (fun x => 0 ≤ x.i ∧ x.i ≤ l.length ∧ x.m = mask (l.take x.i.toNat) t v k) (fun x => (l.length - x.i).toNat) ⟨0, zM⟩ (wkTo [0, 1, 2, 3, 8, 9, 12, 13, 14] [] (by kernel_rfl)) ⟨by simp, by simp, by simp [mask, cov, zM]⟩ ?_
  rintro ⟨i, m⟩ ⟨hi0, hi1, hm⟩
  simp only at hi0 hi1 hm
  refine reg0 mix (by kernel_rfl) ?_
  refine rCond (decide (i < (l.length : Int))) (by kernel_rfl) (fun hc => ?_) (fun hc => ?_)
  · have hc : i < l.length := of_decide_eq_true hc
    have e : IntKind.i64.wrap (i + 1) = i + 1 := w64 _ (by omega) (by omega)
    have hd := get_ok hv (show i.toNat < l.length by omega)
    have hs : (i + 1).toNat = i.toNat + 1 := by omega
    have hh := @mask_hit l t v k i.toNat (by omega)
    have hn := @mask_miss l t v k i.toNat (by omega)
    rw [← hs, ← hm] at hh hn
    refine rJoin (fun m' => mkT l t v k ⟨i, m'⟩ (l.getD i.toNat zDf)) (fun m' => m' = mask (l.take (i + 1).toNat) t v k) (List.cons_ne_nil _ _) ?_ ?_
    · refine rBlock ?_
      refine reg mix [] [pf (⟨hi0, hc⟩ : 0 ≤ i ∧ i < (l.length : Int))] (by kernel_rfl) ?_
      refine rTold (mkT l t v k ⟨i, m⟩ (l.getD i.toNat zDf)) [0, 1, 2, 3, 8, 9, 11, 12, 13, 14] [] (by kernel_rfl) ?_ (by simp [flatC])
      generalize l.getD i.toNat zDf = d at hd hh hn ⊢
      have hb := okDf_bounds hd
      have e1 : IntKind.i64.wrap (d.til - d.frm) = d.til - d.frm := w64 _ (by omega) (by omega)
      have e2 : IntKind.i64.wrap (v - d.frm) = v - d.frm := w64 _ (by omega) (by omega)
      refine reg mix [(14, .frz 1 (elI [IntKind.i64.wrap (v - d.frm)])), (15, hcon (f19 (IntKind.i64.wrap (d.til - d.frm)) [IntKind.i64.wrap (v - d.frm)] (by simp)))]
        [pf (ck1 [cI (IntKind.i64.wrap (v - d.frm))] (elI [IntKind.i64.wrap (v - d.frm)]) rfl), pf (f19 (IntKind.i64.wrap (d.til - d.frm)) [IntKind.i64.wrap (v - d.frm)] (by simp))] (by kernel_rfl) ?_
      have eh : (((d.tel == t) && inR (IntKind.i64.wrap (d.til - d.frm)) [IntKind.i64.wrap (v - d.frm)]) && decide (d.known ≤ k)) = hit d t v k := by
        rw [e1, e2, hit, inR]
        rw [Bool.eq_iff_iff]
        simp
        omega
      refine rCond (((d.tel == t) && inR (IntKind.i64.wrap (d.til - d.frm)) [IntKind.i64.wrap (v - d.frm)]) && decide (d.known ≤ k)) (by kernel_rfl) (fun h => ?_) (fun h => ?_)
      · rw [eh] at h
        have hh := hh h
        clear hb e1 e2 eh
        have hcell := cell_cases hd
        obtain ⟨dt, dc, df, du, dk⟩ := d
        obtain ⟨ma, mb, mc, md⟩ := m
        simp only at hcell
        rcases hcell with rfl | rfl | rfl | rfl
        · refine reg mix [] [pf (by omega : (0 : Int) ≤ 0 ∧ (0 : Int) < 4)] (by kernel_rfl) ?_
          exact run_nil (blockR_normal (run_nil (joined (⟨true, mb, mc, md⟩ : M4) (by rw [hh]; simp [setM]) (wkTo [0, 1, 2, 3, 8, 9, 11, 12, 13, 14] [] (by kernel_rfl)))))
        · refine reg mix [] [pf (by omega : (0 : Int) ≤ 1 ∧ (1 : Int) < 4)] (by kernel_rfl) ?_
          exact run_nil (blockR_normal (run_nil (joined (⟨ma, true, mc, md⟩ : M4) (by rw [hh]; simp [setM]) (wkTo [0, 1, 2, 3, 8, 9, 11, 12, 13, 14] [] (by kernel_rfl)))))
        · refine reg mix [] [pf (by omega : (0 : Int) ≤ 2 ∧ (2 : Int) < 4)] (by kernel_rfl) ?_
          exact run_nil (blockR_normal (run_nil (joined (⟨ma, mb, true, md⟩ : M4) (by rw [hh]; simp [setM]) (wkTo [0, 1, 2, 3, 8, 9, 11, 12, 13, 14] [] (by kernel_rfl)))))
        · refine reg mix [] [pf (by omega : (0 : Int) ≤ 3 ∧ (3 : Int) < 4)] (by kernel_rfl) ?_
          exact run_nil (blockR_normal (run_nil (joined (⟨ma, mb, mc, true⟩ : M4) (by rw [hh]; simp [setM]) (wkTo [0, 1, 2, 3, 8, 9, 11, 12, 13, 14] [] (by kernel_rfl)))))
      · rw [eh] at h
        exact run_nil (blockR_normal (run_nil (joined m (hn h).symm (wkTo [0, 1, 2, 3, 8, 9, 11, 12, 13, 14] [] (by kernel_rfl)))))
    · intro m' hm'
      refine reg0 mix (by kernel_rfl) ?_
      refine run_nil (loopR_next (⟨IntKind.i64.wrap (i + 1), m'⟩ : MS) (wkTo [0, 1, 2, 3, 8, 9, 12, 13, 14] [11] (by kernel_rfl)) ?_ ?_)
      · rw [e]; exact ⟨by simp only; omega, by simp only; omega, hm'⟩
      · simp only [e]; omega
  · have hc : ¬ i < l.length := of_decide_eq_false hc
    refine run_exit (loopR_exit (blockR_exit ?_))
    refine reg0 mix (by kernel_rfl) ?_
    refine run_ret (ret_of (.v (.agg (encM m))) (by kernel_rfl) ?_)
    rw [hm, List.take_of_length_le (by omega)]

end Go.Proofs.Yteefindpimnhdaa
