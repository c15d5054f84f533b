import Derived.Test.YteefindpimnhdaaSymW
import Derived.Test.YteefindpimnhdaaChecked
namespace Go.Proofs.Yteefindpimnhdaa
open Go.Sym
set_option linter.unusedVariables false
set_option linter.unusedSimpArgs false

theorem mix : Try.prog.follows .mixedOrders = true := by kernel_rfl

/-- A defect. -/
structure Df where
  tel : Int
  cell : Int
  frm : Int
  til : Int
  known : Int
def encDf (d : Df) : List C := [cI d.tel, cI d.cell, cI d.frm, cI d.til, cI d.known]
def zDf : Df := ⟨0, 0, 0, 0, 0⟩
def elDf (l : List Df) (i : Nat) : List C := encDf (l.getD i zDf)
def lDf (l : List Df) : CV := .c (.lst 5 l.length (elDf l))
def elI (l : List Int) (i : Nat) : List C := [cI (l.getD i 0)]
def lI (l : List Int) : CV := .c (.lst 1 l.length (elI l))
/-- A span. -/
structure Sp where
  frm : Int
  til : Int
deriving DecidableEq
def encSp (s : Sp) : List C := [cI s.frm, cI s.til]
def zSp : Sp := ⟨0, 0⟩
def elSp (l : List Sp) (i : Nat) : List C := encSp (l.getD i zSp)
def lSp (l : List Sp) : CV := .c (.lst 2 l.length (elSp l))

theorem ck1 (a : List C) (f : Nat → List C) (h : f 0 = a) : 1 = 1 ∧ ∀ i, i < 1 → f i = [a].getD i [] := ⟨rfl, fun i hi => by
  match i, hi with
  | 0, _ => exact h⟩
theorem ck2 (a b : List C) (f : Nat → List C) (h : f 0 = a) (h' : f 1 = b) : 2 = 2 ∧ ∀ i, i < 2 → f i = [a, b].getD i [] := ⟨rfl, fun i hi => by
  match i, hi with
  | 0, _ => exact h
  | 1, _ => exact h'⟩
theorem ck3 (a b c : List C) (f : Nat → List C) (h : f 0 = a) (h' : f 1 = b) (h'' : f 2 = c) : 3 = 3 ∧ ∀ i, i < 3 → f i = [a, b, c].getD i [] := ⟨rfl, fun i hi => by
  match i, hi with
  | 0, _ => exact h
  | 1, _ => exact h'
  | 2, _ => exact h''⟩

/-! ### in -/
def inR (most : Int) (l : List Int) : Bool := l.all fun n => decide (0 ≤ n) && decide (n ≤ most)
def inS (most : Int) (l : List Int) (i : Int) : S := mkS 21 [(0, .b (.v (vI most))), (4, .b (.v (vB false))), (7, .b (.v (lI l))), (8, .b (.v (vI l.length))), (9, .b (.v (vI i)))] []
theorem f19 (most : Int) (l : List Int) (hl : l.length ≤ 1000) : FCall Try.prog 19 [vI most, lI l] (.v (vB (inR most l))) := by
  refine fcall_of Try.func19 rfl (by kernel_rfl) (fun B hB => ?_)
  refine reg0 mix (by kernel_rfl) ?_
  refine reg0 mix (by kernel_rfl) ?_
  refine rBlock ?_
  refine rLoop (inS most l) (fun i => 0 ≤ i ∧ i ≤ l.length ∧ ∀ j : Nat, (j : Int) < i → 0 ≤ l.getD j 0 ∧ l.getD j 0 ≤ most) (fun i => (l.length - i).toNat) 0 (wkTo [0, 4, 7, 8, 9] [] (by kernel_rfl)) ⟨by omega, by omega, fun j hj => by omega⟩ ?_
  intro i ⟨h0, h1, h2⟩
  refine reg0 mix (by kernel_rfl) ?_
  refine rCond (decide (i < (l.length : Int))) (by kernel_rfl) (fun hc => ?_) (fun hc => ?_)
  · have hc : i < l.length := of_decide_eq_true hc
    have e : IntKind.i64.wrap (i + 1) = i + 1 := w64 _ (by omega) (by omega)
    refine rBlock ?_
    refine reg mix [] [pf (⟨h0, hc⟩ : 0 ≤ i ∧ i < (l.length : Int))] (by kernel_rfl) ?_
    refine reg0 mix (by kernel_rfl) ?_
    refine rCond (decide (l.getD i.toNat 0 < 0) || decide (l.getD i.toNat 0 > most)) (by kernel_rfl) (fun h => ?_) (fun h => ?_)
    · refine reg0 mix (by kernel_rfl) ?_
      refine run_ret (blockR_ret (loopR_ret (blockR_ret (ret_of (.v (vB false)) (by kernel_rfl) ?_))))
      have : inR most l = false := by
        rw [Bool.eq_false_iff]
        intro ha
        simp only [inR, List.all_eq_true, Bool.and_eq_true, decide_eq_true_iff] at ha
        have hi : i.toNat < l.length := by omega
        have := ha l[i.toNat] (List.getElem_mem hi)
        simp only [Bool.or_eq_true, decide_eq_true_iff, List.getD_eq_getElem?_getD, List.getElem?_eq_getElem hi, Option.getD_some] at h
        omega
      rw [this]
    · refine run_nil (blockR_normal ?_)
      refine reg0 mix (by kernel_rfl) ?_
      refine run_nil (loopR_next (IntKind.i64.wrap (i + 1)) (wkTo [0, 4, 7, 8, 9] [] (by kernel_rfl)) ?_ ?_)
      · rw [e]
        refine ⟨by omega, by omega, fun j hj => ?_⟩
        by_cases hji : (j : Int) < i
        · exact h2 j hji
        · have : j = i.toNat := by omega
          subst this
          simp only [Bool.or_eq_false_iff, decide_eq_false_iff_not] at h
          omega
      · rw [e]; omega
  · have hc : ¬ i < l.length := of_decide_eq_false hc
    refine run_exit (loopR_exit (blockR_exit ?_))
    refine reg0 mix (by kernel_rfl) ?_
    refine run_ret (ret_of (.v (vB true)) (by kernel_rfl) ?_)
    have : inR most l = true := by
      simp only [inR, List.all_eq_true, Bool.and_eq_true, decide_eq_true_iff]
      intro n hn
      obtain ⟨j, hj, rfl⟩ := List.getElem_of_mem hn
      have := h2 j (by omega)
      simpa [List.getD_eq_getElem?_getD, hj] using this
    rw [this]

def tel (t : Int) : Bool := decide (t ≥ 0) && decide (t ≤ 5)
def mom (m : Int) : Bool := decide (m ≥ 0) && decide (m ≤ 38399)
theorem f21 (t : Int) : FCall Try.prog 21 [vI t] (.v (vB (tel t))) := by
  refine fcall_of Try.func21 rfl (by kernel_rfl) (fun B hB => ?_)
  refine reg0 mix (by kernel_rfl) ?_
  refine reg0 mix (by kernel_rfl) ?_
  exact run_ret (ret_of _ (by kernel_rfl) rfl)
theorem f22 (m : Int) : FCall Try.prog 22 [vI m] (.v (vB (mom m))) := by
  refine fcall_of Try.func22 rfl (by kernel_rfl) (fun B hB => ?_)
  refine reg0 mix (by kernel_rfl) ?_
  refine reg0 mix (by kernel_rfl) ?_
  exact run_ret (ret_of _ (by kernel_rfl) rfl)
def few (n : Nat) : Bool := decide ((n : Int) ≤ 20) || (decide ((n : Int) ≥ 199) && decide ((n : Int) ≤ 201))
theorem f10 (l : List Df) : FCall Try.prog 10 [lDf l] (.v (vB (few l.length))) := by
  refine fcall_of Try.func10 rfl (by kernel_rfl) (fun B hB => ?_)
  refine reg0 mix (by kernel_rfl) ?_
  refine reg0 mix (by kernel_rfl) ?_
  exact run_ret (ret_of _ (by kernel_rfl) rfl)

/-! ### Valid -/
def okDf (d : Df) : Bool := tel d.tel && (decide (d.cell ≥ 0) && decide (d.cell ≤ 3)) && (mom d.frm && mom d.til && mom d.known) && decide (d.frm ≤ d.til)
def valid (l : List Df) : Bool := decide (l.length ≤ 200) && l.all okDf
theorem okDf_in (d : Df) : okDf d = (inR 5 [d.tel] && inR 3 [d.cell] && inR 38399 [d.frm, d.til, d.known] && !decide (d.frm > d.til)) := by
  rw [Bool.eq_iff_iff]
  simp [okDf, inR, tel, mom]
  omega
theorem okDf_ref (d : Df) : okDf d = !(((((((!tel d.tel || decide (d.cell < 0)) || decide (d.cell > 3)) || !mom d.frm) || !mom d.til) || !mom d.known)) || decide (d.frm > d.til)) := by
  rw [Bool.eq_iff_iff]
  simp [okDf, tel, mom]
  omega

theorem all_get {l : List Df} (h : ∀ j, j < l.length → okDf (l.getD j zDf) = true) : l.all okDf = true := by
  rw [List.all_eq_true]
  intro o ho
  obtain ⟨j, hj, rfl⟩ := List.getElem_of_mem ho
  have := h j hj
  simpa [List.getD_eq_getElem?_getD, hj] using this
theorem not_all {l : List Df} {j : Nat} (hj : j < l.length) (h : okDf (l.getD j zDf) = false) : l.all okDf = false := by
  rw [Bool.eq_false_iff]
  intro ha
  rw [List.all_eq_true] at ha
  have := ha (l.getD j zDf) (by simp [List.getD_eq_getElem?_getD, hj])
  rw [h] at this; cases this
theorem get_ok {l : List Df} (h : valid l = true) {j : Nat} (hj : j < l.length) : okDf (l.getD j zDf) = true := by
  simp only [valid, Bool.and_eq_true, List.all_eq_true] at h
  exact h.2 _ (by simp [List.getD_eq_getElem?_getD, hj])
theorem valid_len {l : List Df} (h : valid l = true) : l.length ≤ 200 := by
  simp only [valid, Bool.and_eq_true, decide_eq_true_iff] at h
  exact h.1

def vaS (l : List Df) (i : Int) : S := mkS 45 [(0, .b (.v (lDf l))), (2, .b (.v (vB false))), (5, .b (.v (lDf l))), (6, .b (.v (vI l.length))), (7, .b (.v (vI i)))] []
theorem f15 (l : List Df) (hl : l.length ≤ 1000000) : FCall Try.prog 15 [lDf l] (.v (vB (valid l))) := by
  refine fcall_of Try.func15 rfl (by kernel_rfl) (fun B hB => ?_)
  refine reg0 mix (by kernel_rfl) ?_
  refine reg0 mix (by kernel_rfl) ?_
  refine rBlock ?_
  refine rLoop (vaS l) (fun i => 0 ≤ i ∧ i ≤ l.length ∧ ∀ j : Nat, (j : Int) < i → okDf (l.getD j zDf) = true) (fun i => (l.length - i).toNat) 0 (wkTo [0, 2, 5, 6, 7] [] (by kernel_rfl)) ⟨by omega, by omega, fun j hj => by omega⟩ ?_
  intro i ⟨h0, h1, h2⟩
  refine reg0 mix (by kernel_rfl) ?_
  refine rCond (decide (i < (l.length : Int))) (by kernel_rfl) (fun hc => ?_) (fun hc => ?_)
  · have hc : i < l.length := of_decide_eq_true hc
    have e : IntKind.i64.wrap (i + 1) = i + 1 := w64 _ (by omega) (by omega)
    refine rBlock ?_
    refine reg mix [] [pf (⟨h0, hc⟩ : 0 ≤ i ∧ i < (l.length : Int))] (by kernel_rfl) ?_
    obtain ⟨d, hd⟩ : ∃ d, l.getD i.toNat zDf = d := ⟨_, rfl⟩
    refine reg mix [(2, .frz 1 (elI [(l.getD i.toNat zDf).tel])), (3, hcon (f19 5 [(l.getD i.toNat zDf).tel] (by simp))), (8, .frz 1 (elI [(l.getD i.toNat zDf).cell])), (9, hcon (f19 3 [(l.getD i.toNat zDf).cell] (by simp))),
      (19, .frz 3 (elI [(l.getD i.toNat zDf).frm, (l.getD i.toNat zDf).til, (l.getD i.toNat zDf).known])), (20, hcon (f19 38399 [(l.getD i.toNat zDf).frm, (l.getD i.toNat zDf).til, (l.getD i.toNat zDf).known] (by simp)))]
      [pf (ck1 [cI (l.getD i.toNat zDf).tel] (elI [(l.getD i.toNat zDf).tel]) rfl), pf (f19 5 [(l.getD i.toNat zDf).tel] (by simp)), pf (ck1 [cI (l.getD i.toNat zDf).cell] (elI [(l.getD i.toNat zDf).cell]) rfl), pf (f19 3 [(l.getD i.toNat zDf).cell] (by simp)),
       pf (ck3 [cI (l.getD i.toNat zDf).frm] [cI (l.getD i.toNat zDf).til] [cI (l.getD i.toNat zDf).known] (elI [(l.getD i.toNat zDf).frm, (l.getD i.toNat zDf).til, (l.getD i.toNat zDf).known]) rfl rfl rfl), pf (f19 38399 [(l.getD i.toNat zDf).frm, (l.getD i.toNat zDf).til, (l.getD i.toNat zDf).known] (by simp))] (by kernel_rfl) ?_
    refine rCond (((!inR 5 [(l.getD i.toNat zDf).tel] || !inR 3 [(l.getD i.toNat zDf).cell]) || !inR 38399 [(l.getD i.toNat zDf).frm, (l.getD i.toNat zDf).til, (l.getD i.toNat zDf).known]) || decide ((l.getD i.toNat zDf).frm > (l.getD i.toNat zDf).til)) (by kernel_rfl) (fun h => ?_) (fun h => ?_)
    · refine reg0 mix (by kernel_rfl) ?_
      refine run_ret (blockR_ret (loopR_ret (blockR_ret (ret_of (.v (vB false)) (by kernel_rfl) ?_))))
      rw [valid, not_all (j := i.toNat) (by omega), Bool.and_false]
      rw [hd] at h ⊢
      rw [okDf_in]
      revert h
      generalize decide (d.frm > d.til) = g
      cases inR 5 [d.tel] <;> cases inR 3 [d.cell] <;> cases inR 38399 [d.frm, d.til, d.known] <;> cases g <;> simp
    · refine run_nil (blockR_normal ?_)
      refine reg0 mix (by kernel_rfl) ?_
      refine run_nil (loopR_next (IntKind.i64.wrap (i + 1)) (wkTo [0, 2, 5, 6, 7] [4] (by kernel_rfl)) ?_ ?_)
      · rw [e]
        refine ⟨by omega, by omega, fun j hj => ?_⟩
        by_cases hji : (j : Int) < i
        · exact h2 j hji
        · have : j = i.toNat := by omega
          subst this
          rw [hd] at h ⊢
          rw [okDf_in]
          revert h
          generalize decide (d.frm > d.til) = g
          cases inR 5 [d.tel] <;> cases inR 3 [d.cell] <;> cases inR 38399 [d.frm, d.til, d.known] <;> cases g <;> simp
      · rw [e]; omega
  · have hc : ¬ i < l.length := of_decide_eq_false hc
    refine run_exit (loopR_exit (blockR_exit ?_))
    refine reg0 mix (by kernel_rfl) ?_
    refine run_ret (ret_of (.v (vB (decide ((l.length : Int) ≤ 200)))) (by kernel_rfl) ?_)
    have : l.all okDf = true := all_get fun j hj => h2 j (by omega)
    rw [valid, this, Bool.and_true]
    congr 3
    simp; omega

def vrS (l : List Df) (i : Int) : S := mkS 57 [(0, .b (.v (lDf l))), (2, .b (.v (vB false))), (3, .b (.v (vI i)))] []
theorem f16 (l : List Df) : FCall Try.prog 16 [lDf l] (.v (vB (valid l))) := by
  refine fcall_of Try.func16 rfl (by kernel_rfl) (fun B hB => ?_)
  refine reg0 mix (by kernel_rfl) ?_
  refine reg0 mix (by kernel_rfl) ?_
  refine rCond (decide ((l.length : Int) > 200)) (by kernel_rfl) (fun h => ?_) (fun h => ?_)
  · refine reg0 mix (by kernel_rfl) ?_
    refine run_ret (ret_of (.v (vB false)) (by kernel_rfl) ?_)
    have : ¬ l.length ≤ 200 := by have := of_decide_eq_true h; omega
    simp [valid, this]
  have hl : l.length ≤ 200 := by have := of_decide_eq_false h; omega
  refine reg0 mix (by kernel_rfl) ?_
  refine rBlock ?_
  refine rLoop (vrS l) (fun i => 0 ≤ i ∧ i ≤ l.length ∧ ∀ j : Nat, (j : Int) < i → okDf (l.getD j zDf) = true) (fun i => (l.length - i).toNat) 0 (wkTo [0, 2, 3] [] (by kernel_rfl)) ⟨by omega, by omega, fun j hj => by omega⟩ ?_
  intro i ⟨h0, h1, h2⟩
  refine reg0 mix (by kernel_rfl) ?_
  refine rCond (decide (i < (l.length : Int))) (by kernel_rfl) (fun hc => ?_) (fun hc => ?_)
  · have hc : i < l.length := of_decide_eq_true hc
    have e : IntKind.i64.wrap (i + 1) = i + 1 := w64 _ (by omega) (by omega)
    refine rBlock ?_
    refine reg mix [] [pf (⟨h0, hc⟩ : 0 ≤ i ∧ i < (l.length : Int))] (by kernel_rfl) ?_
    obtain ⟨d, hd⟩ : ∃ d, l.getD i.toNat zDf = d := ⟨_, rfl⟩
    refine regC mix [(2, con (f21 (l.getD i.toNat zDf).tel)), (17, con (f22 (l.getD i.toNat zDf).frm)), (23, con (f22 (l.getD i.toNat zDf).til)), (29, con (f22 (l.getD i.toNat zDf).known))] (by kernel_rfl) ?_
    refine rCond ((((((!tel (l.getD i.toNat zDf).tel || decide ((l.getD i.toNat zDf).cell < 0)) || decide ((l.getD i.toNat zDf).cell > 3)) || !mom (l.getD i.toNat zDf).frm) || !mom (l.getD i.toNat zDf).til) || !mom (l.getD i.toNat zDf).known) || decide ((l.getD i.toNat zDf).frm > (l.getD i.toNat zDf).til)) (by kernel_rfl) (fun h => ?_) (fun h => ?_)
    · refine reg0 mix (by kernel_rfl) ?_
      refine run_ret (blockR_ret (loopR_ret (blockR_ret (ret_of (.v (vB false)) (by kernel_rfl) ?_))))
      rw [valid, not_all (j := i.toNat) (by omega), Bool.and_false]
      rw [hd] at h ⊢
      rw [okDf_ref, h]; rfl
    · refine run_nil (blockR_normal ?_)
      refine reg0 mix (by kernel_rfl) ?_
      refine run_nil (loopR_next (IntKind.i64.wrap (i + 1)) (wkTo [0, 2, 3] [4] (by kernel_rfl)) ?_ ?_)
      · rw [e]
        refine ⟨by omega, by omega, fun j hj => ?_⟩
        by_cases hji : (j : Int) < i
        · exact h2 j hji
        · have : j = i.toNat := by omega
          subst this
          rw [hd] at h ⊢
          rw [okDf_ref, h]; rfl
      · rw [e]; omega
  · have hc : ¬ i < l.length := of_decide_eq_false hc
    refine run_exit (loopR_exit (blockR_exit ?_))
    refine reg0 mix (by kernel_rfl) ?_
    refine run_ret (ret_of (.v (vB true)) (by kernel_rfl) ?_)
    have : l.all okDf = true := all_get fun j hj => h2 j (by omega)
    simp [valid, this, hl]

end Go.Proofs.Yteefindpimnhdaa
