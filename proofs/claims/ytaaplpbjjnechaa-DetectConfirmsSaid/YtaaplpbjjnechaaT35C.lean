import Derived.Test.YtaaplpbjjnechaaT35A
namespace Go.Proofs.Ytaaplpbjjnechaa
set_option linter.unusedVariables false
set_option linter.unusedSimpArgs false
section
open Go.Sym

/-! ### Valid tallies -/
def taAt (l : List Ta) (i : Nat) : Ta := l.getD i zTa
def badT (l : List Ta) (i : Nat) : Bool := ((!exB (taAt l i).pl || decide ((taAt l i).n < 1)) || decide ((taAt l i).n > 1000)) || (decide ((i : Int) > 0) && !ltP (taAt l (i - 1)).pl (taAt l i).pl)
structure OkTs (l : List Ta) : Prop where
  ok : ∀ i, i < l.length → badT l i = false
  len : l.length ≤ 1000
def okTs (l : List Ta) : Bool := (List.range l.length).all (fun i => !badT l i) && decide ((l.length : Int) ≤ 1000)
theorem okTs_iff {l : List Ta} : okTs l = true ↔ OkTs l := by
  unfold okTs
  simp only [Bool.and_eq_true, List.all_eq_true, List.mem_range, Bool.not_eq_true', decide_eq_true_eq]
  exact ⟨fun h => ⟨h.1, by omega⟩, fun h => ⟨h.ok, by have := h.len; omega⟩⟩
theorem okTs_bad {l : List Ta} {i : Nat} (hi : i < l.length) (h : badT l i = true) : okTs l = false := by
  rw [Bool.eq_false_iff]
  intro h'
  rw [(okTs_iff.1 h').ok i hi] at h; cases h
theorem okTs_all {l : List Ta} (h : ∀ i, i < l.length → badT l i = false) : okTs l = decide ((l.length : Int) ≤ 1000) := by
  unfold okTs
  rw [show (List.range l.length).all (fun i => !badT l i) = true by
    rw [List.all_eq_true]; intro i hi; rw [h i (by simpa using hi)]; rfl]
  rfl
theorem bad_ex {l : List Ta} {i : Nat} (h : badT l i = false) : exB (taAt l i).pl = true ∧ 1 ≤ (taAt l i).n ∧ (taAt l i).n ≤ 1000 ∧ (0 < i → ltP (taAt l (i - 1)).pl (taAt l i).pl = true) := by
  unfold badT at h
  simp only [Bool.or_eq_false_iff, Bool.not_eq_false', decide_eq_false_iff_not, Bool.and_eq_false_iff] at h
  obtain ⟨⟨⟨h1, h2⟩, h3⟩, h4⟩ := h
  refine ⟨h1, by omega, by omega, fun hi => ?_⟩
  rcases h4 with h4 | h4
  · omega
  · exact h4
def ts2 (l : List Ta) (i : Int) : S := mkS 63 [(0, .b (.v (lTa l))), (3, .b (.v (vI i)))] []
theorem f36 (l : List Ta) (hl : l.length ≤ 1000000) : FCall Try.prog 36 [lTa l] (.v (vB (okTs l))) := by
  refine fcall_of Try.func36 rfl (by kernel_rfl) (fun B hB => ?_)
  refine reg0 mix (by kernel_rfl) ?_
  refine reg0 mix (by kernel_rfl) ?_
  refine rBlock ?_
  refine rLoop (ts2 l) (fun i => 0 ≤ i ∧ i ≤ l.length ∧ ∀ j, j < i.toNat → badT l j = false) (fun i => (l.length - i).toNat) 0 (wkTo [0, 3] [] (by kernel_rfl)) ⟨by omega, by omega, fun j hj => by simp at hj⟩ ?_
  rintro i ⟨h0, h1, h2⟩
  refine reg0 mix (by kernel_rfl) ?_
  refine rCond (decide (i < (l.length : Int))) (by kernel_rfl) (fun hc => ?_) (fun hc => ?_)
  · have hc : i < l.length := of_decide_eq_true hc
    have e : IntKind.i64.wrap (i + 1) = i + 1 := w64 _ (by omega) (by omega)
    have hi : 0 ≤ i ∧ i < (l.length : Int) := ⟨h0, hc⟩
    have e2 : IntKind.i64.wrap (i - 1) = i - 1 := w64 _ (by omega) (by omega)
    have c44 := f44 (l.getD i.toNat zTa).t (l.getD i.toNat zTa).c (l.getD i.toNat zTa).f
    have c13 := f13 (l.getD (IntKind.i64.wrap (i - 1)).toNat zTa) (l.getD i.toNat zTa)
    refine rBlock ?_
    have hp : ((!((!cellB (l.getD i.toNat zTa).t (l.getD i.toNat zTa).c (l.getD i.toNat zTa).f || decide ((l.getD i.toNat zTa).n < 1)) || decide ((l.getD i.toNat zTa).n > 1000))) && decide (i > 0)) = true → 0 ≤ IntKind.i64.wrap (i - 1) ∧ IntKind.i64.wrap (i - 1) < (l.length : Int) := fun h => by
      have := of_decide_eq_true (Bool.and_eq_true_iff.1 h).2
      rw [e2]; omega
    refine regI mix [(15, hcon c44), (46, hcon c13)] [pf (fun _ : true = true => hi), pf (fun _ : true = true => hi), pf (fun _ : true = true => hi), pf (fun _ : true = true => c44), pf (fun _ : (!(!cellB (l.getD i.toNat zTa).t (l.getD i.toNat zTa).c (l.getD i.toNat zTa).f)) = true => hi), pf (fun _ : (!(!cellB (l.getD i.toNat zTa).t (l.getD i.toNat zTa).c (l.getD i.toNat zTa).f || decide ((l.getD i.toNat zTa).n < 1))) = true => hi), pf hp,
      pf (fun _ : ((!((!cellB (l.getD i.toNat zTa).t (l.getD i.toNat zTa).c (l.getD i.toNat zTa).f || decide ((l.getD i.toNat zTa).n < 1)) || decide ((l.getD i.toNat zTa).n > 1000))) && decide (i > 0)) = true => hi),
      pf (fun _ : ((!((!cellB (l.getD i.toNat zTa).t (l.getD i.toNat zTa).c (l.getD i.toNat zTa).f || decide ((l.getD i.toNat zTa).n < 1)) || decide ((l.getD i.toNat zTa).n > 1000))) && decide (i > 0)) = true => c13)] (by kernel_rfl) ?_
    have hbad : (((!cellB (l.getD i.toNat zTa).t (l.getD i.toNat zTa).c (l.getD i.toNat zTa).f || decide ((l.getD i.toNat zTa).n < 1)) || decide ((l.getD i.toNat zTa).n > 1000)) || (decide (i > 0) && !ltP (l.getD (IntKind.i64.wrap (i - 1)).toNat zTa).pl (l.getD i.toNat zTa).pl)) = badT l i.toNat := by
      have hx : cellB (l.getD i.toNat zTa).t (l.getD i.toNat zTa).c (l.getD i.toNat zTa).f = exB (taAt l i.toNat).pl := cell_ex (taAt l i.toNat).pl
      rw [hx, badT, Int.toNat_of_nonneg h0]
      by_cases hi0 : i > 0
      · rw [e2, show (i - 1).toNat = i.toNat - 1 by omega]; rfl
      · simp only [decide_eq_false hi0, Bool.false_and]; rfl
    refine rCond (((!cellB (l.getD i.toNat zTa).t (l.getD i.toNat zTa).c (l.getD i.toNat zTa).f || decide ((l.getD i.toNat zTa).n < 1)) || decide ((l.getD i.toNat zTa).n > 1000)) || (decide (i > 0) && !ltP (l.getD (IntKind.i64.wrap (i - 1)).toNat zTa).pl (l.getD i.toNat zTa).pl)) (by kernel_rfl) (fun h => ?_) (fun h => ?_)
    · rw [hbad] at h
      refine reg0 mix (by kernel_rfl) ?_
      refine run_ret (blockR_ret (loopR_ret (blockR_ret (ret_of (.v (vB false)) (by kernel_rfl) ?_))))
      rw [okTs_bad (by omega) h]
    · rw [hbad] at h
      refine run_nil (blockR_normal ?_)
      refine reg0 mix (by kernel_rfl) ?_
      refine run_nil (loopR_next (IntKind.i64.wrap (i + 1)) (wkTo [0, 3] [] (by kernel_rfl)) ?_ ?_)
      · rw [e]
        refine ⟨by omega, by omega, fun j hj => ?_⟩
        by_cases hji : j < i.toNat
        · exact h2 j hji
        · rw [show j = i.toNat by omega]; exact h
      · rw [e]; omega
  have hc : ¬ i < l.length := of_decide_eq_false hc
  refine run_exit (loopR_exit (blockR_exit ?_))
  refine reg0 mix (by kernel_rfl) ?_
  refine run_ret (ret_of (.v (vB (decide ((l.length : Int) ≤ 1000)))) (by kernel_rfl) ?_)
  rw [okTs_all fun j hj => h2 j (by omega)]
def ts1 (l : List Ta) (i : Int) : S := mkS 46 [(0, .b (.v (lTa l))), (5, .b (.v (lTa l))), (6, .b (.v (vI l.length))), (7, .b (.v (vI i)))] []
theorem f30 (l : List Ta) (hl : l.length ≤ 1000000) : FCall Try.prog 30 [lTa l] (.v (vB (okTs l))) := by
  refine fcall_of Try.func30 rfl (by kernel_rfl) (fun B hB => ?_)
  refine reg0 mix (by kernel_rfl) ?_
  refine reg0 mix (by kernel_rfl) ?_
  refine rBlock ?_
  refine rLoop (ts1 l) (fun i => 0 ≤ i ∧ i ≤ l.length ∧ ∀ j, j < i.toNat → badT l j = false) (fun i => (l.length - i).toNat) 0 (wkTo [0, 5, 6, 7] [] (by kernel_rfl)) ⟨by omega, by omega, fun j hj => by simp at hj⟩ ?_
  rintro i ⟨h0, h1, h2⟩
  refine reg0 mix (by kernel_rfl) ?_
  refine rCond (decide (i < (l.length : Int))) (by kernel_rfl) (fun hc => ?_) (fun hc => ?_)
  · have hc : i < l.length := of_decide_eq_true hc
    have e : IntKind.i64.wrap (i + 1) = i + 1 := w64 _ (by omega) (by omega)
    have hi : 0 ≤ i ∧ i < (l.length : Int) := ⟨h0, hc⟩
    have e2 : IntKind.i64.wrap (i - 1) = i - 1 := w64 _ (by omega) (by omega)
    have cx := f34 (l.getD i.toNat zTa)
    have ce := f39 (l.getD i.toNat zTa).pl
    have cy := f34 (l.getD (IntKind.i64.wrap (i - 1)).toNat zTa)
    have cc := f27 (l.getD (IntKind.i64.wrap (i - 1)).toNat zTa).pl (l.getD i.toNat zTa).pl
    refine rBlock ?_
    refine reg mix [] [pf hi] (by kernel_rfl) ?_
    have hp : ((!((!exB (l.getD i.toNat zTa).pl || decide ((l.getD i.toNat zTa).n < 1)) || decide ((l.getD i.toNat zTa).n > 1000))) && decide (i > 0)) = true → 0 ≤ IntKind.i64.wrap (i - 1) ∧ IntKind.i64.wrap (i - 1) < (l.length : Int) := fun h => by
      have := of_decide_eq_true (Bool.and_eq_true_iff.1 h).2
      rw [e2]; omega
    refine regI mix [(1, hcon cx), (2, hcon ce), (23, hcon cy), (25, hcon cx), (26, hcon cc)] [pf (fun _ : true = true => cx), pf (fun _ : true = true => ce), pf hp,
      pf (fun _ : ((!((!exB (l.getD i.toNat zTa).pl || decide ((l.getD i.toNat zTa).n < 1)) || decide ((l.getD i.toNat zTa).n > 1000))) && decide (i > 0)) = true => cy),
      pf (fun _ : ((!((!exB (l.getD i.toNat zTa).pl || decide ((l.getD i.toNat zTa).n < 1)) || decide ((l.getD i.toNat zTa).n > 1000))) && decide (i > 0)) = true => cx),
      pf (fun _ : ((!((!exB (l.getD i.toNat zTa).pl || decide ((l.getD i.toNat zTa).n < 1)) || decide ((l.getD i.toNat zTa).n > 1000))) && decide (i > 0)) = true => cc)] (by kernel_rfl) ?_
    have hbad : (((!exB (l.getD i.toNat zTa).pl || decide ((l.getD i.toNat zTa).n < 1)) || decide ((l.getD i.toNat zTa).n > 1000)) || (decide (i > 0) && decide (cmpP (l.getD (IntKind.i64.wrap (i - 1)).toNat zTa).pl (l.getD i.toNat zTa).pl ≥ 0))) = badT l i.toNat := by
      rw [badT, Int.toNat_of_nonneg h0]
      by_cases hi0 : i > 0
      · rw [e2, show (i - 1).toNat = i.toNat - 1 by omega]
        have hprev := (bad_ex (h2 (i.toNat - 1) (by omega))).1
        cases hex : exB (taAt l i.toNat).pl with
        | false =>
          rw [show exB (l.getD i.toNat zTa).pl = false from hex]; rfl
        | true =>
          have hcl := (cmp_lt hprev hex).1
          have : decide (cmpP (taAt l (i.toNat - 1)).pl (taAt l i.toNat).pl ≥ 0) = !ltP (taAt l (i.toNat - 1)).pl (taAt l i.toNat).pl := by
            cases hlt : ltP (taAt l (i.toNat - 1)).pl (taAt l i.toNat).pl with
            | true => have := hcl.2 hlt; rw [decide_eq_false (by omega)]; rfl
            | false =>
              have : ¬ cmpP (taAt l (i.toNat - 1)).pl (taAt l i.toNat).pl < 0 := fun h => by rw [hcl.1 h] at hlt; cases hlt
              rw [decide_eq_true (by omega)]; rfl
          rw [← this, ← hex]; rfl
      · simp only [decide_eq_false hi0, Bool.false_and]; rfl
    refine rCond (((!exB (l.getD i.toNat zTa).pl || decide ((l.getD i.toNat zTa).n < 1)) || decide ((l.getD i.toNat zTa).n > 1000)) || (decide (i > 0) && decide (cmpP (l.getD (IntKind.i64.wrap (i - 1)).toNat zTa).pl (l.getD i.toNat zTa).pl ≥ 0))) (by kernel_rfl) (fun h => ?_) (fun h => ?_)
    · rw [hbad] at h
      refine reg0 mix (by kernel_rfl) ?_
      refine run_ret (blockR_ret (loopR_ret (blockR_ret (ret_of (.v (vB false)) (by kernel_rfl) ?_))))
      rw [okTs_bad (by omega) h]
    · rw [hbad] at h
      refine run_nil (blockR_normal ?_)
      refine reg0 mix (by kernel_rfl) ?_
      refine run_nil (loopR_next (IntKind.i64.wrap (i + 1)) (wkTo [0, 5, 6, 7] [4] (by kernel_rfl)) ?_ ?_)
      · rw [e]
        refine ⟨by omega, by omega, fun j hj => ?_⟩
        by_cases hji : j < i.toNat
        · exact h2 j hji
        · rw [show j = i.toNat by omega]; exact h
      · rw [e]; omega
  have hc : ¬ i < l.length := of_decide_eq_false hc
  refine run_exit (loopR_exit (blockR_exit ?_))
  refine reg0 mix (by kernel_rfl) ?_
  refine run_ret (ret_of (.v (vB (decide ((l.length : Int) ≤ 1000)))) (by kernel_rfl) ?_)
  rw [okTs_all fun j hj => h2 j (by omega)]
end
section
open Go.Sym

/-! ### Same -/
theorem eqTa : EqTy Try.prog 37 [.int .i64, .int .i64, .int .i64, .int .i64] := eqTy_of 3 (by kernel_rfl) (by omega) (by kernel_rfl) (by kernel_rfl)
theorem eqDe : EqTy Try.prog 32 [.int .i64, .int .i64, .int .i64, .int .i64, .int .i64] := eqTy_of 3 (by kernel_rfl) (by omega) (by kernel_rfl) (by kernel_rfl)
def eqTaB (x y : Ta) : Bool := x.t == y.t && (x.c == y.c && (x.f == y.f && (x.n == y.n && true)))
def eqDeB (x y : De) : Bool := x.t == y.t && (x.c == y.c && (x.f == y.f && (x.v == y.v && (x.a == y.a && true))))
theorem eqTaB_iff {x y : Ta} : eqTaB x y = true ↔ x = y := by cases x; cases y; simp [eqTaB]
theorem eqDeB_iff {x y : De} : eqDeB x y = true ↔ x = y := by cases x; cases y; simp [eqDeB]
theorem list_eq {α : Type} (z : α) {a b : List α} (hl : a.length = b.length) (h : ∀ j, j < a.length → a.getD j z = b.getD j z) : a = b := by
  refine List.ext_getElem hl fun j h1 h2 => ?_
  have := h j h1
  simpa [List.getD_eq_getElem?_getD, h1, h2] using this
def smTa (a b : List Ta) (i : Int) : S := mkS 26 [(0, .b (.v (lTa a))), (1, .b (.v (lTa b))), (5, .b (.v (vI i)))] []
theorem f14 (a b : List Ta) (ha : a.length ≤ 1000000) : FCall Try.prog 14 [lTa a, lTa b] (.v (vB (decide (a = b)))) := by
  refine fcall_of Try.func14 rfl (by kernel_rfl) (fun B hB => ?_)
  refine reg0 mix (by kernel_rfl) ?_
  refine reg0 mix (by kernel_rfl) ?_
  refine rCond ((a.length : Int) != (b.length : Int)) (by kernel_rfl) (fun h => ?_) (fun h => ?_)
  · refine reg0 mix (by kernel_rfl) ?_
    refine run_ret (ret_of (.v (vB false)) (by kernel_rfl) ?_)
    rw [decide_eq_false fun e => by rw [e] at h; simp at h]
  have hl : a.length = b.length := by simp at h; omega
  refine reg0 mix (by kernel_rfl) ?_
  refine rBlock ?_
  refine rLoop (smTa a b) (fun i => 0 ≤ i ∧ i ≤ a.length ∧ ∀ j, j < i.toNat → a.getD j zTa = b.getD j zTa) (fun i => (a.length - i).toNat) 0 (wkTo [0, 1, 5] [] (by kernel_rfl)) ⟨by omega, by omega, fun j hj => by simp at hj⟩ ?_
  rintro i ⟨h0, h1, h2⟩
  refine reg0 mix (by kernel_rfl) ?_
  refine rCond (decide (i < (a.length : Int))) (by kernel_rfl) (fun hc => ?_) (fun hc => ?_)
  · have hc : i < a.length := of_decide_eq_true hc
    have e : IntKind.i64.wrap (i + 1) = i + 1 := w64 _ (by omega) (by omega)
    refine rBlock ?_
    refine reg mix [] [pf (⟨h0, hc⟩ : 0 ≤ i ∧ i < (a.length : Int)), pf (⟨h0, by omega⟩ : 0 ≤ i ∧ i < (b.length : Int)), pf eqTa] (by kernel_rfl) ?_
    refine rCond (!eqTaB (a.getD i.toNat zTa) (b.getD i.toNat zTa)) (by kernel_rfl) (fun h => ?_) (fun h => ?_)
    · refine reg0 mix (by kernel_rfl) ?_
      refine run_ret (blockR_ret (loopR_ret (blockR_ret (ret_of (.v (vB false)) (by kernel_rfl) ?_))))
      rw [decide_eq_false fun e => by rw [e, eqTaB_iff.2 rfl] at h; cases h]
    · refine run_nil (blockR_normal ?_)
      refine reg0 mix (by kernel_rfl) ?_
      refine run_nil (loopR_next (IntKind.i64.wrap (i + 1)) (wkTo [0, 1, 5] [] (by kernel_rfl)) ?_ ?_)
      · rw [e]
        refine ⟨by omega, by omega, fun j hj => ?_⟩
        by_cases hji : j < i.toNat
        · exact h2 j hji
        · rw [show j = i.toNat by omega]; exact eqTaB_iff.1 (by simpa using h)
      · rw [e]; omega
  have hc : ¬ i < a.length := of_decide_eq_false hc
  refine run_exit (loopR_exit (blockR_exit ?_))
  refine reg0 mix (by kernel_rfl) ?_
  refine run_ret (ret_of (.v (vB true)) (by kernel_rfl) ?_)
  rw [decide_eq_true (list_eq zTa hl fun j hj => h2 j (by omega))]
def smDe (a b : List De) (i : Int) : S := mkS 26 [(0, .b (.v (lDe a))), (1, .b (.v (lDe b))), (5, .b (.v (vI i)))] []
theorem f21 (a b : List De) (ha : a.length ≤ 1000000) : FCall Try.prog 21 [lDe a, lDe b] (.v (vB (decide (a = b)))) := by
  refine fcall_of Try.func21 rfl (by kernel_rfl) (fun B hB => ?_)
  refine reg0 mix (by kernel_rfl) ?_
  refine reg0 mix (by kernel_rfl) ?_
  refine rCond ((a.length : Int) != (b.length : Int)) (by kernel_rfl) (fun h => ?_) (fun h => ?_)
  · refine reg0 mix (by kernel_rfl) ?_
    refine run_ret (ret_of (.v (vB false)) (by kernel_rfl) ?_)
    rw [decide_eq_false fun e => by rw [e] at h; simp at h]
  have hl : a.length = b.length := by simp at h; omega
  refine reg0 mix (by kernel_rfl) ?_
  refine rBlock ?_
  refine rLoop (smDe a b) (fun i => 0 ≤ i ∧ i ≤ a.length ∧ ∀ j, j < i.toNat → a.getD j zDe = b.getD j zDe) (fun i => (a.length - i).toNat) 0 (wkTo [0, 1, 5] [] (by kernel_rfl)) ⟨by omega, by omega, fun j hj => by simp at hj⟩ ?_
  rintro i ⟨h0, h1, h2⟩
  refine reg0 mix (by kernel_rfl) ?_
  refine rCond (decide (i < (a.length : Int))) (by kernel_rfl) (fun hc => ?_) (fun hc => ?_)
  · have hc : i < a.length := of_decide_eq_true hc
    have e : IntKind.i64.wrap (i + 1) = i + 1 := w64 _ (by omega) (by omega)
    refine rBlock ?_
    refine reg mix [] [pf (⟨h0, hc⟩ : 0 ≤ i ∧ i < (a.length : Int)), pf (⟨h0, by omega⟩ : 0 ≤ i ∧ i < (b.length : Int)), pf eqDe] (by kernel_rfl) ?_
    refine rCond (!eqDeB (a.getD i.toNat zDe) (b.getD i.toNat zDe)) (by kernel_rfl) (fun h => ?_) (fun h => ?_)
    · refine reg0 mix (by kernel_rfl) ?_
      refine run_ret (blockR_ret (loopR_ret (blockR_ret (ret_of (.v (vB false)) (by kernel_rfl) ?_))))
      rw [decide_eq_false fun e => by rw [e, eqDeB_iff.2 rfl] at h; cases h]
    · refine run_nil (blockR_normal ?_)
      refine reg0 mix (by kernel_rfl) ?_
      refine run_nil (loopR_next (IntKind.i64.wrap (i + 1)) (wkTo [0, 1, 5] [] (by kernel_rfl)) ?_ ?_)
      · rw [e]
        refine ⟨by omega, by omega, fun j hj => ?_⟩
        by_cases hji : j < i.toNat
        · exact h2 j hji
        · rw [show j = i.toNat by omega]; exact eqDeB_iff.1 (by simpa using h)
      · rw [e]; omega
  have hc : ¬ i < a.length := of_decide_eq_false hc
  refine run_exit (loopR_exit (blockR_exit ?_))
  refine reg0 mix (by kernel_rfl) ?_
  refine run_ret (ret_of (.v (vB true)) (by kernel_rfl) ?_)
  rw [decide_eq_true (list_eq zDe hl fun j hj => h2 j (by omega))]
end
section
open Go.Sym

/-! ### List -/
structure V4 where
  a : Int
  b : Int
  c : Int
  d : Int
structure M4 where
  a : Bool
  b : Bool
  c : Bool
  d : Bool
def encV (v : V4) : List C := [cI v.a, cI v.b, cI v.c, cI v.d]
def encM (m : M4) : List C := [.bool m.a, .bool m.b, .bool m.c, .bool m.d]
def V4.at (v : V4) : Nat → Int
  | 0 => v.a
  | 1 => v.b
  | 2 => v.c
  | _ => v.d
def M4.at (m : M4) : Nat → Bool
  | 0 => m.a
  | 1 => m.b
  | 2 => m.c
  | _ => m.d
def dAt (t f a : Int) (v : V4) (i : Nat) : De := ⟨t, i, f, v.at i, a⟩
def acc (t f a : Int) (m : M4) (v : V4) (n : Nat) : List De := ((List.range n).filter m.at).map (dAt t f a v)
def okL (t f a : Int) (v : V4) : Bool := (List.range 4).all fun i => okDe (dAt t f a v i)
def lisR (t f a : Int) (m : M4) (v : V4) : List De × Int := if okL t f a v then (acc t f a m v 4, 0) else ([], 1)
def rowDe (l : List De) : List (List C) := l.map encDe
theorem acc_succ (t f a : Int) (m : M4) (v : V4) (n : Nat) : acc t f a m v (n + 1) = acc t f a m v n ++ if m.at n then [dAt t f a v n] else [] := by
  rw [acc, acc, List.range_succ, List.filter_append, List.map_append]
  congr 1
  cases h : m.at n <;> simp [List.filter_cons, h]
theorem okL_bad {t f a : Int} {v : V4} {i : Nat} (hi : i < 4) (h : okDe (dAt t f a v i) = false) : okL t f a v = false := by
  rw [Bool.eq_false_iff]
  intro h'
  have := List.all_eq_true.1 h' i (by simpa using hi)
  rw [h] at this; cases this
theorem rowDe_len (l : List De) : (rowDe l).length = l.length := by simp [rowDe]
theorem acc_le (t f a : Int) (m : M4) (v : V4) (n : Nat) : (acc t f a m v n).length ≤ n := by
  rw [acc, List.length_map]; exact Nat.le_trans (List.length_filter_le _ _) (by simp)
def li15 (t f a : Int) (m : M4) (v : V4) (i : Nat) : S := mkS 38 [(0, .b (.v (vI t))), (1, .b (.v (vI f))), (2, .b (.v (vI a))), (8, .b (.v (.c (.kptr (encM m) 0)))), (9, .b (.v (.c (.kptr (encV v) 0)))), (12, .b (.v (.c (.row 1 (acc t f a m v i).length)))), (13, .b (.v (vI i)))] [(1, .row 32 5 (rowDe (acc t f a m v i)))]
def li15' (t f a : Int) (m : M4) (v : V4) (i n : Nat) : S := mkS 38 [(0, .b (.v (vI t))), (1, .b (.v (vI f))), (2, .b (.v (vI a))), (8, .b (.v (.c (.kptr (encM m) 0)))), (9, .b (.v (.c (.kptr (encV v) 0)))), (12, .b (.v (.c (.row 1 (acc t f a m v n).length)))), (13, .b (.v (vI i)))] [(1, .row 32 5 (rowDe (acc t f a m v n)))]
theorem f15 (t f a : Int) (m : M4) (v : V4) : FCall Try.prog 15 [vI t, vI f, vI a, .agg (encM m), .agg (encV v)] (.tup [lDe (lisR t f a m v).1, vI (lisR t f a m v).2]) := by
  refine fcall_of Try.func15 rfl (by kernel_rfl) (fun B hB => ?_)
  refine reg mix [(0, .imm), (1, .imm)] [] (by kernel_rfl) ?_
  refine reg0 mix (by kernel_rfl) ?_
  refine run_weaken (wk_nilRow 12 1 32 5 (by kernel_rfl) (by kernel_rfl) (by omega)) ?_ (List.cons_ne_nil _ _)
  refine reg0 mix (by kernel_rfl) ?_
  refine rBlock ?_
  refine rLoop (li15 t f a m v) (fun i => i ≤ 4 ∧ ∀ j, j < i → okDe (dAt t f a v j) = true) (fun i => 4 - i) 0 (wkTo [0, 1, 2, 8, 9, 12, 13] [] (by kernel_rfl)) ⟨by omega, fun j hj => by omega⟩ ?_
  rintro i ⟨h1, h2⟩
  refine reg0 mix (by kernel_rfl) ?_
  rcases (by omega : i = 0 ∨ i = 1 ∨ i = 2 ∨ i = 3 ∨ i = 4) with rfl | rfl | rfl | rfl | rfl
  · refine rCondT true (by kernel_rfl) rfl ?_
    have h4 : (0 : Int) ≤ 0 ∧ (0 : Int) < 4 := by omega
    have hle := acc_le t f a m v 0
    have hln : (acc t f a m v 0).length = (rowDe (acc t f a m v 0)).length := (rowDe_len _).symm
    have hsu := acc_succ t f a m v 0
    refine rJoin (fun _ : Unit => li15' t f a m v 0 1) (fun _ => okDe (dAt t f a v 0) = true) (List.cons_ne_nil _ _) ?_ ?_
    · refine rBlock ?_
      refine reg mix [] [pf h4] (by kernel_rfl) ?_
      refine regC mix [(1, con (f28 (dAt t f a v 0)))] (by kernel_rfl) ?_
      refine rCond (!okDe (dAt t f a v 0)) (by kernel_rfl) (fun h => ?_) (fun h => ?_)
      · refine reg0 mix (by kernel_rfl) ?_
        refine run_weaken (wk_nilLst 10 5 (elDe []) (by kernel_rfl)) ?_ (List.cons_ne_nil _ _)
        refine run_ret (blockR_ret (left_ret (loopR_ret (blockR_ret (ret_of (.tup [lDe [], vI 1]) (by kernel_rfl) ?_)))))
        rw [lisR, okL_bad (i := 0) (by omega) (by simpa using h)]; rfl
      · have hok : okDe (dAt t f a v 0) = true := by simpa using h
        refine reg mix [] [pf h4] (by kernel_rfl) ?_
        refine rCond m.a (by kernel_rfl) (fun hm => ?_) (fun hm => ?_)
        · have e : acc t f a m v 1 = acc t f a m v 0 ++ [dAt t f a v 0] := by rw [hsu, if_pos (show m.at 0 = true from hm)]
          refine reg mix [] [pf hln, pf (by omega : ((acc t f a m v 0).length + 1) * 41 ≤ 140737488355328), pf (rfl : 1 = [encDe (dAt t f a v 0)].length)] (by kernel_rfl) ?_
          refine run_nil (blockR_normal (run_nil (joined () hok ?_)))
          unfold li15'
          rw [e, List.length_append, show rowDe (acc t f a m v 0 ++ [dAt t f a v 0]) = rowDe (acc t f a m v 0) ++ [encDe (dAt t f a v 0)] by simp [rowDe]]
          exact wkTo [0, 1, 2, 8, 9, 12, 13] [14, 35] (by kernel_rfl)
        · have e : acc t f a m v 1 = acc t f a m v 0 := by rw [hsu, if_neg (show ¬ m.at 0 = true by rw [show m.at 0 = false from hm]; exact Bool.false_ne_true), List.append_nil]
          refine run_nil (blockR_normal (run_nil (joined () hok ?_)))
          unfold li15'
          rw [e]
          exact wkTo [0, 1, 2, 8, 9, 12, 13] [14] (by kernel_rfl)
    · rintro _ hok
      refine reg0 mix (by kernel_rfl) ?_
      refine run_nil (loopR_next (1 : Nat) (wkTo [0, 1, 2, 8, 9, 12, 13] [] (by kernel_rfl)) ⟨by omega, fun j hj => ?_⟩ (by omega))
      by_cases hji : j < 0
      · exact h2 j hji
      · rw [show j = 0 by omega]; exact hok
  · refine rCondT true (by kernel_rfl) rfl ?_
    have h4 : (0 : Int) ≤ 1 ∧ (1 : Int) < 4 := by omega
    have hle := acc_le t f a m v 1
    have hln : (acc t f a m v 1).length = (rowDe (acc t f a m v 1)).length := (rowDe_len _).symm
    have hsu := acc_succ t f a m v 1
    refine rJoin (fun _ : Unit => li15' t f a m v 1 2) (fun _ => okDe (dAt t f a v 1) = true) (List.cons_ne_nil _ _) ?_ ?_
    · refine rBlock ?_
      refine reg mix [] [pf h4] (by kernel_rfl) ?_
      refine regC mix [(1, con (f28 (dAt t f a v 1)))] (by kernel_rfl) ?_
      refine rCond (!okDe (dAt t f a v 1)) (by kernel_rfl) (fun h => ?_) (fun h => ?_)
      · refine reg0 mix (by kernel_rfl) ?_
        refine run_weaken (wk_nilLst 10 5 (elDe []) (by kernel_rfl)) ?_ (List.cons_ne_nil _ _)
        refine run_ret (blockR_ret (left_ret (loopR_ret (blockR_ret (ret_of (.tup [lDe [], vI 1]) (by kernel_rfl) ?_)))))
        rw [lisR, okL_bad (i := 1) (by omega) (by simpa using h)]; rfl
      · have hok : okDe (dAt t f a v 1) = true := by simpa using h
        refine reg mix [] [pf h4] (by kernel_rfl) ?_
        refine rCond m.b (by kernel_rfl) (fun hm => ?_) (fun hm => ?_)
        · have e : acc t f a m v 2 = acc t f a m v 1 ++ [dAt t f a v 1] := by rw [hsu, if_pos (show m.at 1 = true from hm)]
          refine reg mix [] [pf hln, pf (by omega : ((acc t f a m v 1).length + 1) * 41 ≤ 140737488355328), pf (rfl : 1 = [encDe (dAt t f a v 1)].length)] (by kernel_rfl) ?_
          refine run_nil (blockR_normal (run_nil (joined () hok ?_)))
          unfold li15'
          rw [e, List.length_append, show rowDe (acc t f a m v 1 ++ [dAt t f a v 1]) = rowDe (acc t f a m v 1) ++ [encDe (dAt t f a v 1)] by simp [rowDe]]
          exact wkTo [0, 1, 2, 8, 9, 12, 13] [14, 35] (by kernel_rfl)
        · have e : acc t f a m v 2 = acc t f a m v 1 := by rw [hsu, if_neg (show ¬ m.at 1 = true by rw [show m.at 1 = false from hm]; exact Bool.false_ne_true), List.append_nil]
          refine run_nil (blockR_normal (run_nil (joined () hok ?_)))
          unfold li15'
          rw [e]
          exact wkTo [0, 1, 2, 8, 9, 12, 13] [14] (by kernel_rfl)
    · rintro _ hok
      refine reg0 mix (by kernel_rfl) ?_
      refine run_nil (loopR_next (2 : Nat) (wkTo [0, 1, 2, 8, 9, 12, 13] [] (by kernel_rfl)) ⟨by omega, fun j hj => ?_⟩ (by omega))
      by_cases hji : j < 1
      · exact h2 j hji
      · rw [show j = 1 by omega]; exact hok
  · refine rCondT true (by kernel_rfl) rfl ?_
    have h4 : (0 : Int) ≤ 2 ∧ (2 : Int) < 4 := by omega
    have hle := acc_le t f a m v 2
    have hln : (acc t f a m v 2).length = (rowDe (acc t f a m v 2)).length := (rowDe_len _).symm
    have hsu := acc_succ t f a m v 2
    refine rJoin (fun _ : Unit => li15' t f a m v 2 3) (fun _ => okDe (dAt t f a v 2) = true) (List.cons_ne_nil _ _) ?_ ?_
    · refine rBlock ?_
      refine reg mix [] [pf h4] (by kernel_rfl) ?_
      refine regC mix [(1, con (f28 (dAt t f a v 2)))] (by kernel_rfl) ?_
      refine rCond (!okDe (dAt t f a v 2)) (by kernel_rfl) (fun h => ?_) (fun h => ?_)
      · refine reg0 mix (by kernel_rfl) ?_
        refine run_weaken (wk_nilLst 10 5 (elDe []) (by kernel_rfl)) ?_ (List.cons_ne_nil _ _)
        refine run_ret (blockR_ret (left_ret (loopR_ret (blockR_ret (ret_of (.tup [lDe [], vI 1]) (by kernel_rfl) ?_)))))
        rw [lisR, okL_bad (i := 2) (by omega) (by simpa using h)]; rfl
      · have hok : okDe (dAt t f a v 2) = true := by simpa using h
        refine reg mix [] [pf h4] (by kernel_rfl) ?_
        refine rCond m.c (by kernel_rfl) (fun hm => ?_) (fun hm => ?_)
        · have e : acc t f a m v 3 = acc t f a m v 2 ++ [dAt t f a v 2] := by rw [hsu, if_pos (show m.at 2 = true from hm)]
          refine reg mix [] [pf hln, pf (by omega : ((acc t f a m v 2).length + 1) * 41 ≤ 140737488355328), pf (rfl : 1 = [encDe (dAt t f a v 2)].length)] (by kernel_rfl) ?_
          refine run_nil (blockR_normal (run_nil (joined () hok ?_)))
          unfold li15'
          rw [e, List.length_append, show rowDe (acc t f a m v 2 ++ [dAt t f a v 2]) = rowDe (acc t f a m v 2) ++ [encDe (dAt t f a v 2)] by simp [rowDe]]
          exact wkTo [0, 1, 2, 8, 9, 12, 13] [14, 35] (by kernel_rfl)
        · have e : acc t f a m v 3 = acc t f a m v 2 := by rw [hsu, if_neg (show ¬ m.at 2 = true by rw [show m.at 2 = false from hm]; exact Bool.false_ne_true), List.append_nil]
          refine run_nil (blockR_normal (run_nil (joined () hok ?_)))
          unfold li15'
          rw [e]
          exact wkTo [0, 1, 2, 8, 9, 12, 13] [14] (by kernel_rfl)
    · rintro _ hok
      refine reg0 mix (by kernel_rfl) ?_
      refine run_nil (loopR_next (3 : Nat) (wkTo [0, 1, 2, 8, 9, 12, 13] [] (by kernel_rfl)) ⟨by omega, fun j hj => ?_⟩ (by omega))
      by_cases hji : j < 2
      · exact h2 j hji
      · rw [show j = 2 by omega]; exact hok
  · refine rCondT true (by kernel_rfl) rfl ?_
    have h4 : (0 : Int) ≤ 3 ∧ (3 : Int) < 4 := by omega
    have hle := acc_le t f a m v 3
    have hln : (acc t f a m v 3).length = (rowDe (acc t f a m v 3)).length := (rowDe_len _).symm
    have hsu := acc_succ t f a m v 3
    refine rJoin (fun _ : Unit => li15' t f a m v 3 4) (fun _ => okDe (dAt t f a v 3) = true) (List.cons_ne_nil _ _) ?_ ?_
    · refine rBlock ?_
      refine reg mix [] [pf h4] (by kernel_rfl) ?_
      refine regC mix [(1, con (f28 (dAt t f a v 3)))] (by kernel_rfl) ?_
      refine rCond (!okDe (dAt t f a v 3)) (by kernel_rfl) (fun h => ?_) (fun h => ?_)
      · refine reg0 mix (by kernel_rfl) ?_
        refine run_weaken (wk_nilLst 10 5 (elDe []) (by kernel_rfl)) ?_ (List.cons_ne_nil _ _)
        refine run_ret (blockR_ret (left_ret (loopR_ret (blockR_ret (ret_of (.tup [lDe [], vI 1]) (by kernel_rfl) ?_)))))
        rw [lisR, okL_bad (i := 3) (by omega) (by simpa using h)]; rfl
      · have hok : okDe (dAt t f a v 3) = true := by simpa using h
        refine reg mix [] [pf h4] (by kernel_rfl) ?_
        refine rCond m.d (by kernel_rfl) (fun hm => ?_) (fun hm => ?_)
        · have e : acc t f a m v 4 = acc t f a m v 3 ++ [dAt t f a v 3] := by rw [hsu, if_pos (show m.at 3 = true from hm)]
          refine reg mix [] [pf hln, pf (by omega : ((acc t f a m v 3).length + 1) * 41 ≤ 140737488355328), pf (rfl : 1 = [encDe (dAt t f a v 3)].length)] (by kernel_rfl) ?_
          refine run_nil (blockR_normal (run_nil (joined () hok ?_)))
          unfold li15'
          rw [e, List.length_append, show rowDe (acc t f a m v 3 ++ [dAt t f a v 3]) = rowDe (acc t f a m v 3) ++ [encDe (dAt t f a v 3)] by simp [rowDe]]
          exact wkTo [0, 1, 2, 8, 9, 12, 13] [14, 35] (by kernel_rfl)
        · have e : acc t f a m v 4 = acc t f a m v 3 := by rw [hsu, if_neg (show ¬ m.at 3 = true by rw [show m.at 3 = false from hm]; exact Bool.false_ne_true), List.append_nil]
          refine run_nil (blockR_normal (run_nil (joined () hok ?_)))
          unfold li15'
          rw [e]
          exact wkTo [0, 1, 2, 8, 9, 12, 13] [14] (by kernel_rfl)
    · rintro _ hok
      refine reg0 mix (by kernel_rfl) ?_
      refine run_nil (loopR_next (4 : Nat) (wkTo [0, 1, 2, 8, 9, 12, 13] [] (by kernel_rfl)) ⟨by omega, fun j hj => ?_⟩ (by omega))
      by_cases hji : j < 3
      · exact h2 j hji
      · rw [show j = 3 by omega]; exact hok
  · refine rCondF false (by kernel_rfl) rfl ?_
    have hk : okL t f a v = true := List.all_eq_true.2 fun j hj => h2 j (by simpa using hj)
    have e : lisR t f a m v = (acc t f a m v 4, 0) := by rw [lisR, if_pos hk]
    rw [e]
    refine run_exit (loopR_exit (blockR_exit ?_))
    refine reg0 mix (by kernel_rfl) ?_
    refine frzRow hB 10 1 (acc t f a m v 4).length 32 5 (rowDe (acc t f a m v 4)) (elDe (acc t f a m v 4)) [11] [] (by kernel_rfl) (by kernel_rfl) (rowDe_len _).symm (fun j hj => by simp [rowDe, elDe, List.getD_eq_getElem?_getD, hj]) (by kernel_rfl) ?_ (List.cons_ne_nil _ _)
    exact run_ret (ret_of (.tup [lDe (acc t f a m v 4), vI 0]) (by kernel_rfl) rfl)
end
section
open Go.Sym

def li10 (t f a : Int) (m : M4) (v : V4) (i : Nat) : S := mkS 39 [(0, .b (.v (vI t))), (1, .b (.v (vI f))), (2, .b (.v (vI a))), (8, .b (.v (.c (.kptr (encM m) 0)))), (12, .b (.v (.c (.row 1 (acc t f a m v i).length)))), (16, .b (.v (.agg (encV v)))), (17, .b (.v (vI i)))] [(1, .row 32 5 (rowDe (acc t f a m v i)))]
def li10' (t f a : Int) (m : M4) (v : V4) (i n : Nat) : S := mkS 39 [(0, .b (.v (vI t))), (1, .b (.v (vI f))), (2, .b (.v (vI a))), (8, .b (.v (.c (.kptr (encM m) 0)))), (12, .b (.v (.c (.row 1 (acc t f a m v n).length)))), (16, .b (.v (.agg (encV v)))), (17, .b (.v (vI i)))] [(1, .row 32 5 (rowDe (acc t f a m v n)))]
theorem f10 (t f a : Int) (m : M4) (v : V4) : FCall Try.prog 10 [vI t, vI f, vI a, .agg (encM m), .agg (encV v)] (.tup [lDe (lisR t f a m v).1, vI (lisR t f a m v).2]) := by
  refine fcall_of Try.func10 rfl (by kernel_rfl) (fun B hB => ?_)
  refine reg mix [(0, .imm), (1, .imm)] [] (by kernel_rfl) ?_
  refine reg0 mix (by kernel_rfl) ?_
  refine run_weaken (wk_nilRow 12 1 32 5 (by kernel_rfl) (by kernel_rfl) (by omega)) ?_ (List.cons_ne_nil _ _)
  refine reg0 mix (by kernel_rfl) ?_
  refine rBlock ?_
  refine rLoop (li10 t f a m v) (fun i => i ≤ 4 ∧ ∀ j, j < i → okDe (dAt t f a v j) = true) (fun i => 4 - i) 0 (wkTo [0, 1, 2, 8, 12, 16, 17] [] (by kernel_rfl)) ⟨by omega, fun j hj => by omega⟩ ?_
  rintro i ⟨h1, h2⟩
  refine reg0 mix (by kernel_rfl) ?_
  rcases (by omega : i = 0 ∨ i = 1 ∨ i = 2 ∨ i = 3 ∨ i = 4) with rfl | rfl | rfl | rfl | rfl
  · refine rCondT true (by kernel_rfl) rfl ?_
    have h4 : (0 : Int) ≤ 0 ∧ (0 : Int) < 4 := by omega
    have hle := acc_le t f a m v 0
    have hln : (acc t f a m v 0).length = (rowDe (acc t f a m v 0)).length := (rowDe_len _).symm
    have hsu := acc_succ t f a m v 0
    refine rJoin (fun _ : Unit => li10' t f a m v 0 1) (fun _ => okDe (dAt t f a v 0) = true) (List.cons_ne_nil _ _) ?_ ?_
    · refine rBlock ?_
      refine reg mix [] [pf h4] (by kernel_rfl) ?_
      refine reg0 mix (by kernel_rfl) ?_
      refine regC mix [(1, con (f23 (dAt t f a v 0)))] (by kernel_rfl) ?_
      refine rCond (!okDe (dAt t f a v 0)) (by kernel_rfl) (fun h => ?_) (fun h => ?_)
      · refine reg0 mix (by kernel_rfl) ?_
        refine run_weaken (wk_nilLst 10 5 (elDe []) (by kernel_rfl)) ?_ (List.cons_ne_nil _ _)
        refine run_ret (blockR_ret (left_ret (loopR_ret (blockR_ret (ret_of (.tup [lDe [], vI 1]) (by kernel_rfl) ?_)))))
        rw [lisR, okL_bad (i := 0) (by omega) (by simpa using h)]; rfl
      · have hok : okDe (dAt t f a v 0) = true := by simpa using h
        refine reg mix [] [pf h4] (by kernel_rfl) ?_
        refine rCond m.a (by kernel_rfl) (fun hm => ?_) (fun hm => ?_)
        · have e : acc t f a m v 1 = acc t f a m v 0 ++ [dAt t f a v 0] := by rw [hsu, if_pos (show m.at 0 = true from hm)]
          refine reg mix [] [pf hln, pf (by omega : ((acc t f a m v 0).length + 1) * 41 ≤ 140737488355328), pf (rfl : 1 = [encDe (dAt t f a v 0)].length)] (by kernel_rfl) ?_
          refine run_nil (blockR_normal (run_nil (joined () hok ?_)))
          unfold li10'
          rw [e, List.length_append, show rowDe (acc t f a m v 0 ++ [dAt t f a v 0]) = rowDe (acc t f a m v 0) ++ [encDe (dAt t f a v 0)] by simp [rowDe]]
          exact wkTo [0, 1, 2, 8, 12, 16, 17] [15, 35] (by kernel_rfl)
        · have e : acc t f a m v 1 = acc t f a m v 0 := by rw [hsu, if_neg (show ¬ m.at 0 = true by rw [show m.at 0 = false from hm]; exact Bool.false_ne_true), List.append_nil]
          refine run_nil (blockR_normal (run_nil (joined () hok ?_)))
          unfold li10'
          rw [e]
          exact wkTo [0, 1, 2, 8, 12, 16, 17] [15] (by kernel_rfl)
    · rintro _ hok
      refine reg0 mix (by kernel_rfl) ?_
      refine run_nil (loopR_next (1 : Nat) (wkTo [0, 1, 2, 8, 12, 16, 17] [] (by kernel_rfl)) ⟨by omega, fun j hj => ?_⟩ (by omega))
      by_cases hji : j < 0
      · exact h2 j hji
      · rw [show j = 0 by omega]; exact hok
  · refine rCondT true (by kernel_rfl) rfl ?_
    have h4 : (0 : Int) ≤ 1 ∧ (1 : Int) < 4 := by omega
    have hle := acc_le t f a m v 1
    have hln : (acc t f a m v 1).length = (rowDe (acc t f a m v 1)).length := (rowDe_len _).symm
    have hsu := acc_succ t f a m v 1
    refine rJoin (fun _ : Unit => li10' t f a m v 1 2) (fun _ => okDe (dAt t f a v 1) = true) (List.cons_ne_nil _ _) ?_ ?_
    · refine rBlock ?_
      refine reg mix [] [pf h4] (by kernel_rfl) ?_
      refine reg0 mix (by kernel_rfl) ?_
      refine regC mix [(1, con (f23 (dAt t f a v 1)))] (by kernel_rfl) ?_
      refine rCond (!okDe (dAt t f a v 1)) (by kernel_rfl) (fun h => ?_) (fun h => ?_)
      · refine reg0 mix (by kernel_rfl) ?_
        refine run_weaken (wk_nilLst 10 5 (elDe []) (by kernel_rfl)) ?_ (List.cons_ne_nil _ _)
        refine run_ret (blockR_ret (left_ret (loopR_ret (blockR_ret (ret_of (.tup [lDe [], vI 1]) (by kernel_rfl) ?_)))))
        rw [lisR, okL_bad (i := 1) (by omega) (by simpa using h)]; rfl
      · have hok : okDe (dAt t f a v 1) = true := by simpa using h
        refine reg mix [] [pf h4] (by kernel_rfl) ?_
        refine rCond m.b (by kernel_rfl) (fun hm => ?_) (fun hm => ?_)
        · have e : acc t f a m v 2 = acc t f a m v 1 ++ [dAt t f a v 1] := by rw [hsu, if_pos (show m.at 1 = true from hm)]
          refine reg mix [] [pf hln, pf (by omega : ((acc t f a m v 1).length + 1) * 41 ≤ 140737488355328), pf (rfl : 1 = [encDe (dAt t f a v 1)].length)] (by kernel_rfl) ?_
          refine run_nil (blockR_normal (run_nil (joined () hok ?_)))
          unfold li10'
          rw [e, List.length_append, show rowDe (acc t f a m v 1 ++ [dAt t f a v 1]) = rowDe (acc t f a m v 1) ++ [encDe (dAt t f a v 1)] by simp [rowDe]]
          exact wkTo [0, 1, 2, 8, 12, 16, 17] [15, 35] (by kernel_rfl)
        · have e : acc t f a m v 2 = acc t f a m v 1 := by rw [hsu, if_neg (show ¬ m.at 1 = true by rw [show m.at 1 = false from hm]; exact Bool.false_ne_true), List.append_nil]
          refine run_nil (blockR_normal (run_nil (joined () hok ?_)))
          unfold li10'
          rw [e]
          exact wkTo [0, 1, 2, 8, 12, 16, 17] [15] (by kernel_rfl)
    · rintro _ hok
      refine reg0 mix (by kernel_rfl) ?_
      refine run_nil (loopR_next (2 : Nat) (wkTo [0, 1, 2, 8, 12, 16, 17] [] (by kernel_rfl)) ⟨by omega, fun j hj => ?_⟩ (by omega))
      by_cases hji : j < 1
      · exact h2 j hji
      · rw [show j = 1 by omega]; exact hok
  · refine rCondT true (by kernel_rfl) rfl ?_
    have h4 : (0 : Int) ≤ 2 ∧ (2 : Int) < 4 := by omega
    have hle := acc_le t f a m v 2
    have hln : (acc t f a m v 2).length = (rowDe (acc t f a m v 2)).length := (rowDe_len _).symm
    have hsu := acc_succ t f a m v 2
    refine rJoin (fun _ : Unit => li10' t f a m v 2 3) (fun _ => okDe (dAt t f a v 2) = true) (List.cons_ne_nil _ _) ?_ ?_
    · refine rBlock ?_
      refine reg mix [] [pf h4] (by kernel_rfl) ?_
      refine reg0 mix (by kernel_rfl) ?_
      refine regC mix [(1, con (f23 (dAt t f a v 2)))] (by kernel_rfl) ?_
      refine rCond (!okDe (dAt t f a v 2)) (by kernel_rfl) (fun h => ?_) (fun h => ?_)
      · refine reg0 mix (by kernel_rfl) ?_
        refine run_weaken (wk_nilLst 10 5 (elDe []) (by kernel_rfl)) ?_ (List.cons_ne_nil _ _)
        refine run_ret (blockR_ret (left_ret (loopR_ret (blockR_ret (ret_of (.tup [lDe [], vI 1]) (by kernel_rfl) ?_)))))
        rw [lisR, okL_bad (i := 2) (by omega) (by simpa using h)]; rfl
      · have hok : okDe (dAt t f a v 2) = true := by simpa using h
        refine reg mix [] [pf h4] (by kernel_rfl) ?_
        refine rCond m.c (by kernel_rfl) (fun hm => ?_) (fun hm => ?_)
        · have e : acc t f a m v 3 = acc t f a m v 2 ++ [dAt t f a v 2] := by rw [hsu, if_pos (show m.at 2 = true from hm)]
          refine reg mix [] [pf hln, pf (by omega : ((acc t f a m v 2).length + 1) * 41 ≤ 140737488355328), pf (rfl : 1 = [encDe (dAt t f a v 2)].length)] (by kernel_rfl) ?_
          refine run_nil (blockR_normal (run_nil (joined () hok ?_)))
          unfold li10'
          rw [e, List.length_append, show rowDe (acc t f a m v 2 ++ [dAt t f a v 2]) = rowDe (acc t f a m v 2) ++ [encDe (dAt t f a v 2)] by simp [rowDe]]
          exact wkTo [0, 1, 2, 8, 12, 16, 17] [15, 35] (by kernel_rfl)
        · have e : acc t f a m v 3 = acc t f a m v 2 := by rw [hsu, if_neg (show ¬ m.at 2 = true by rw [show m.at 2 = false from hm]; exact Bool.false_ne_true), List.append_nil]
          refine run_nil (blockR_normal (run_nil (joined () hok ?_)))
          unfold li10'
          rw [e]
          exact wkTo [0, 1, 2, 8, 12, 16, 17] [15] (by kernel_rfl)
    · rintro _ hok
      refine reg0 mix (by kernel_rfl) ?_
      refine run_nil (loopR_next (3 : Nat) (wkTo [0, 1, 2, 8, 12, 16, 17] [] (by kernel_rfl)) ⟨by omega, fun j hj => ?_⟩ (by omega))
      by_cases hji : j < 2
      · exact h2 j hji
      · rw [show j = 2 by omega]; exact hok
  · refine rCondT true (by kernel_rfl) rfl ?_
    have h4 : (0 : Int) ≤ 3 ∧ (3 : Int) < 4 := by omega
    have hle := acc_le t f a m v 3
    have hln : (acc t f a m v 3).length = (rowDe (acc t f a m v 3)).length := (rowDe_len _).symm
    have hsu := acc_succ t f a m v 3
    refine rJoin (fun _ : Unit => li10' t f a m v 3 4) (fun _ => okDe (dAt t f a v 3) = true) (List.cons_ne_nil _ _) ?_ ?_
    · refine rBlock ?_
      refine reg mix [] [pf h4] (by kernel_rfl) ?_
      refine reg0 mix (by kernel_rfl) ?_
      refine regC mix [(1, con (f23 (dAt t f a v 3)))] (by kernel_rfl) ?_
      refine rCond (!okDe (dAt t f a v 3)) (by kernel_rfl) (fun h => ?_) (fun h => ?_)
      · refine reg0 mix (by kernel_rfl) ?_
        refine run_weaken (wk_nilLst 10 5 (elDe []) (by kernel_rfl)) ?_ (List.cons_ne_nil _ _)
        refine run_ret (blockR_ret (left_ret (loopR_ret (blockR_ret (ret_of (.tup [lDe [], vI 1]) (by kernel_rfl) ?_)))))
        rw [lisR, okL_bad (i := 3) (by omega) (by simpa using h)]; rfl
      · have hok : okDe (dAt t f a v 3) = true := by simpa using h
        refine reg mix [] [pf h4] (by kernel_rfl) ?_
        refine rCond m.d (by kernel_rfl) (fun hm => ?_) (fun hm => ?_)
        · have e : acc t f a m v 4 = acc t f a m v 3 ++ [dAt t f a v 3] := by rw [hsu, if_pos (show m.at 3 = true from hm)]
          refine reg mix [] [pf hln, pf (by omega : ((acc t f a m v 3).length + 1) * 41 ≤ 140737488355328), pf (rfl : 1 = [encDe (dAt t f a v 3)].length)] (by kernel_rfl) ?_
          refine run_nil (blockR_normal (run_nil (joined () hok ?_)))
          unfold li10'
          rw [e, List.length_append, show rowDe (acc t f a m v 3 ++ [dAt t f a v 3]) = rowDe (acc t f a m v 3) ++ [encDe (dAt t f a v 3)] by simp [rowDe]]
          exact wkTo [0, 1, 2, 8, 12, 16, 17] [15, 35] (by kernel_rfl)
        · have e : acc t f a m v 4 = acc t f a m v 3 := by rw [hsu, if_neg (show ¬ m.at 3 = true by rw [show m.at 3 = false from hm]; exact Bool.false_ne_true), List.append_nil]
          refine run_nil (blockR_normal (run_nil (joined () hok ?_)))
          unfold li10'
          rw [e]
          exact wkTo [0, 1, 2, 8, 12, 16, 17] [15] (by kernel_rfl)
    · rintro _ hok
      refine reg0 mix (by kernel_rfl) ?_
      refine run_nil (loopR_next (4 : Nat) (wkTo [0, 1, 2, 8, 12, 16, 17] [] (by kernel_rfl)) ⟨by omega, fun j hj => ?_⟩ (by omega))
      by_cases hji : j < 3
      · exact h2 j hji
      · rw [show j = 3 by omega]; exact hok
  · refine rCondF false (by kernel_rfl) rfl ?_
    have hk : okL t f a v = true := List.all_eq_true.2 fun j hj => h2 j (by simpa using hj)
    have e : lisR t f a m v = (acc t f a m v 4, 0) := by rw [lisR, if_pos hk]
    rw [e]
    refine run_exit (loopR_exit (blockR_exit ?_))
    refine reg0 mix (by kernel_rfl) ?_
    refine frzRow hB 10 1 (acc t f a m v 4).length 32 5 (rowDe (acc t f a m v 4)) (elDe (acc t f a m v 4)) [11] [] (by kernel_rfl) (by kernel_rfl) (rowDe_len _).symm (fun j hj => by simp [rowDe, elDe, List.getD_eq_getElem?_getD, hj]) (by kernel_rfl) ?_ (List.cons_ne_nil _ _)
    exact run_ret (ret_of (.tup [lDe (acc t f a m v 4), vI 0]) (by kernel_rfl) rfl)

/-! ### has, few, Confirmed -/
def eqTp (x y : Ta) : Bool := (decide (x.t = y.t) && decide (x.c = y.c)) && decide (x.f = y.f)
theorem eqTp_iff {x y : Ta} : eqTp x y = decide (x.pl = y.pl) := by
  rw [Bool.eq_iff_iff]
  simp [eqTp, Ta.pl, and_assoc]
def ha22 (l : List Ta) (x : Ta) (i : Int) : S := mkS 40 [(0, .b (.v (lTa l))), (3, .b (.v (.c (.kptr (encTa x) 0)))), (5, .b (.v (vI i)))] []
theorem f22 (l : List Ta) (x : Ta) (hl : l.length ≤ 1000000) : FCall Try.prog 22 [lTa l, .agg (encTa x)] (.v (vB (l.any fun y => eqTp y x))) := by
  refine fcall_of Try.func22 rfl (by kernel_rfl) (fun B hB => ?_)
  refine reg mix [(0, .imm)] [] (by kernel_rfl) ?_
  refine reg0 mix (by kernel_rfl) ?_
  refine rBlock ?_
  refine rLoop (ha22 l x) (fun i => 0 ≤ i ∧ i ≤ l.length ∧ ∀ j, j < i.toNat → eqTp (taAt l j) x = false) (fun i => (l.length - i).toNat) 0 (wkTo [0, 3, 5] [] (by kernel_rfl)) ⟨by omega, by omega, fun j hj => by simp at hj⟩ ?_
  rintro i ⟨h0, h1, h2⟩
  refine reg0 mix (by kernel_rfl) ?_
  refine rCond (decide (i < (l.length : Int))) (by kernel_rfl) (fun hc => ?_) (fun hc => ?_)
  · have hc : i < l.length := of_decide_eq_true hc
    have e : IntKind.i64.wrap (i + 1) = i + 1 := w64 _ (by omega) (by omega)
    have hi : 0 ≤ i ∧ i < (l.length : Int) := ⟨h0, hc⟩
    refine rBlock ?_
    refine regI mix [] [pf (fun _ : true = true => hi), pf (fun _ : ((l.getD i.toNat zTa).t == x.t) = true => hi), pf (fun _ : (((l.getD i.toNat zTa).t == x.t) && ((l.getD i.toNat zTa).c == x.c)) = true => hi)] (by kernel_rfl) ?_
    refine rCond (eqTp (taAt l i.toNat) x) (by kernel_rfl) (fun h => ?_) (fun h => ?_)
    · refine reg0 mix (by kernel_rfl) ?_
      refine run_ret (blockR_ret (loopR_ret (blockR_ret (ret_of (.v (vB true)) (by kernel_rfl) ?_))))
      rw [show (l.any fun y => eqTp y x) = true from List.any_eq_true.2 ⟨taAt l i.toNat, by simp [taAt, List.getD_eq_getElem?_getD, show i.toNat < l.length by omega], h⟩]
    · refine run_nil (blockR_normal ?_)
      refine reg0 mix (by kernel_rfl) ?_
      refine run_nil (loopR_next (IntKind.i64.wrap (i + 1)) (wkTo [0, 3, 5] [] (by kernel_rfl)) ?_ ?_)
      · rw [e]
        refine ⟨by omega, by omega, fun j hj => ?_⟩
        by_cases hji : j < i.toNat
        · exact h2 j hji
        · rw [show j = i.toNat by omega]; exact h
      · rw [e]; omega
  have hc : ¬ i < l.length := of_decide_eq_false hc
  refine run_exit (loopR_exit (blockR_exit ?_))
  refine reg0 mix (by kernel_rfl) ?_
  refine run_ret (ret_of (.v (vB false)) (by kernel_rfl) ?_)
  rw [show (l.any fun y => eqTp y x) = false by
    rw [List.any_eq_false]
    intro y hy
    obtain ⟨j, hj, rfl⟩ := List.getElem_of_mem hy
    have := h2 j (by omega)
    rw [taAt, List.getD_eq_getElem?_getD, List.getElem?_eq_getElem hj] at this
    simpa using this]
def fewB (l : List De) (t : List Ta) : Bool := (decide ((l.length : Int) ≤ 40) || (decide ((l.length : Int) > 1000) && decide ((l.length : Int) ≤ 1010))) && decide ((t.length : Int) ≤ 40)
theorem f12 (l : List De) (t : List Ta) : FCall Try.prog 12 [lDe l, lTa t] (.v (vB (fewB l t))) := by
  refine fcall_of Try.func12 rfl (by kernel_rfl) (fun B hB => ?_)
  refine reg0 mix (by kernel_rfl) ?_
  refine reg0 mix (by kernel_rfl) ?_
  exact run_ret (ret_of (.v (vB (fewB l t))) (by kernel_rfl) rfl)
theorem f38 (x : Ta) (k : Int) : FCall Try.prog 38 [.agg (encTa x), .c (.kptr [cI k] 0)] (.v (vB (decide (x.n ≥ k)))) := by
  refine fcall_of Try.func38 rfl (by kernel_rfl) (fun B hB => ?_)
  refine reg mix [(0, .imm)] [] (by kernel_rfl) ?_
  refine reg0 mix (by kernel_rfl) ?_
  exact run_ret (ret_of (.v (vB (decide (x.n ≥ k)))) (by kernel_rfl) rfl)
def rowTa (l : List Ta) : List (List C) := l.map encTa
theorem rowTa_len (l : List Ta) : (rowTa l).length = l.length := by simp [rowTa]
def atLeast (k : Int) (l : List Ta) : List Ta := l.filter fun x => decide (x.n ≥ k)
theorem atLeast_succ {k : Int} {l : List Ta} {i : Nat} (h : i < l.length) : atLeast k (l.take (i + 1)) = atLeast k (l.take i) ++ if decide ((taAt l i).n ≥ k) then [taAt l i] else [] := by
  rw [List.take_succ_eq_append_getElem h, atLeast, List.filter_append]
  have e : taAt l i = l[i] := by simp [taAt, List.getD_eq_getElem?_getD, h]
  rw [e]
  congr 1
  simp [List.filter_cons]
theorem atLeast_le {k : Int} {l : List Ta} : (atLeast k l).length ≤ l.length := List.length_filter_le _ _
def on37 (l : List Ta) (k : Int) (i : Int) : S := mkS 23 [(1, .b (.v (.c (.clo 38 [.kptr [cI k] 0])))), (5, .b (.v (.c (.row 1 (atLeast k (l.take i.toNat)).length)))), (8, .b (.v (lTa l))), (9, .b (.v (vI l.length))), (10, .b (.v (vI i)))] [(1, .row 37 4 (rowTa (atLeast k (l.take i.toNat))))]
theorem f37 (l : List Ta) (k : Int) (hl : l.length ≤ 1000000) : FCall Try.prog 37 [lTa l, .c (.clo 38 [.kptr [cI k] 0])] (.v (lTa (atLeast k l))) := by
  refine fcall_of Try.func37 rfl (by kernel_rfl) (fun B hB => ?_)
  refine reg0 mix (by kernel_rfl) ?_
  refine reg0 mix (by kernel_rfl) ?_
  refine run_weaken (wk_nilRow 5 1 37 4 (by kernel_rfl) (by kernel_rfl) (by omega)) ?_ (List.cons_ne_nil _ _)
  refine reg0 mix (by kernel_rfl) ?_
  refine rBlock ?_
  refine rLoop (on37 l k) (fun i => 0 ≤ i ∧ i ≤ l.length) (fun i => (l.length - i).toNat) 0 (wkTo [1, 5, 8, 9, 10] [] (by kernel_rfl)) ⟨by omega, by omega⟩ ?_
  rintro i ⟨h0, h1⟩
  refine reg0 mix (by kernel_rfl) ?_
  refine rCond (decide (i < (l.length : Int))) (by kernel_rfl) (fun hc => ?_) (fun hc => ?_)
  · have hc : i < l.length := of_decide_eq_true hc
    have e : IntKind.i64.wrap (i + 1) = i + 1 := w64 _ (by omega) (by omega)
    have hi : 0 ≤ i ∧ i < (l.length : Int) := ⟨h0, hc⟩
    have hs := atLeast_succ (k := k) (l := l) (i := i.toNat) (by omega)
    have hle : (atLeast k (l.take i.toNat)).length ≤ 1000000 := Nat.le_trans atLeast_le (by rw [List.length_take]; omega)
    have hln : (atLeast k (l.take i.toNat)).length = (rowTa (atLeast k (l.take i.toNat))).length := (rowTa_len _).symm
    refine rJoin (fun _ : Unit => mkS 23 [(1, .b (.v (.c (.clo 38 [.kptr [cI k] 0])))), (5, .b (.v (.c (.row 1 (atLeast k (l.take (i.toNat + 1))).length)))), (8, .b (.v (lTa l))), (9, .b (.v (vI l.length))), (10, .b (.v (vI i)))] [(1, .row 37 4 (rowTa (atLeast k (l.take (i.toNat + 1)))))]) (fun _ => True) (List.cons_ne_nil _ _) ?_ ?_
    · refine rBlock ?_
      refine reg mix [] [pf hi] (by kernel_rfl) ?_
      refine regC mix [(2, con (f38 (taAt l i.toNat) k))] (by kernel_rfl) ?_
      refine rCond (decide ((taAt l i.toNat).n ≥ k)) (by kernel_rfl) (fun h => ?_) (fun h => ?_)
      · refine reg mix [] [pf hln, pf (by omega : ((atLeast k (l.take i.toNat)).length + 1) * 33 ≤ 140737488355328), pf (rfl : 1 = [encTa (taAt l i.toNat)].length)] (by kernel_rfl) ?_
        refine run_nil (blockR_normal (run_nil (joined () trivial ?_)))
        rw [hs, if_pos h, List.length_append, show rowTa (atLeast k (l.take i.toNat) ++ [taAt l i.toNat]) = rowTa (atLeast k (l.take i.toNat)) ++ [encTa (taAt l i.toNat)] by simp [rowTa]]
        exact wkTo [1, 5, 8, 9, 10] [7, 19] (by kernel_rfl)
      · refine run_nil (blockR_normal (run_nil (joined () trivial ?_)))
        rw [hs, if_neg (by rw [h]; exact Bool.false_ne_true), List.append_nil]
        exact wkTo [1, 5, 8, 9, 10] [7] (by kernel_rfl)
    · rintro _ _
      refine reg0 mix (by kernel_rfl) ?_
      refine run_nil (loopR_next (IntKind.i64.wrap (i + 1)) ?_ ?_ ?_)
      · rw [e, on37, show (i + 1).toNat = i.toNat + 1 by omega]
        have e' := e
        exact e ▸ wkTo [1, 5, 8, 9, 10] [] (by kernel_rfl)
      · rw [e]; omega
      · rw [e]; omega
  have hc : ¬ i < l.length := of_decide_eq_false hc
  refine run_exit (loopR_exit (blockR_exit ?_))
  have et : l.take i.toNat = l := List.take_of_length_le (by omega)
  rw [on37, et]
  refine reg0 mix (by kernel_rfl) ?_
  refine frzRow hB 4 1 (atLeast k l).length 37 4 (rowTa (atLeast k l)) (elTa (atLeast k l)) [] [] (by kernel_rfl) (by kernel_rfl) (rowTa_len _).symm (fun j hj => by simp [rowTa, elTa, List.getD_eq_getElem?_getD, hj]) (by kernel_rfl) ?_ (List.cons_ne_nil _ _)
  exact run_ret (ret_of (.v (lTa (atLeast k l))) (by kernel_rfl) rfl)
def conR (l : List Ta) (k : Int) : List Ta × Int := if okTs l = true ∧ 1 ≤ k ∧ k ≤ 1000 then (atLeast k l, 0) else ([], 1)
theorem f19 (l : List Ta) (k : Int) (hl : l.length ≤ 1000000) : FCall Try.prog 19 [lTa l, vI k] (.tup [lTa (conR l k).1, vI (conR l k).2]) := by
  refine fcall_of Try.func19 rfl (by kernel_rfl) (fun B hB => ?_)
  refine reg mix [(0, .imm)] [] (by kernel_rfl) ?_
  refine regC mix [(1, con (f30 l hl))] (by kernel_rfl) ?_
  refine rCond ((!okTs l || decide (k < 1)) || decide (k > 1000)) (by kernel_rfl) (fun h => ?_) (fun h => ?_)
  · refine reg0 mix (by kernel_rfl) ?_
    refine run_weaken (wk_nilLst 4 4 (elTa []) (by kernel_rfl)) ?_ (List.cons_ne_nil _ _)
    refine run_ret (ret_of (.tup [lTa [], vI 1]) (by kernel_rfl) ?_)
    rw [conR, if_neg (by
      rintro ⟨a, b, c⟩
      simp only [Bool.or_eq_true, Bool.not_eq_true', decide_eq_true_eq, a] at h
      rcases h with (h | h) | h
      · cases h
      · omega
      · omega)]
  · have h' : okTs l = true ∧ 1 ≤ k ∧ k ≤ 1000 := by
      simp only [Bool.or_eq_false_iff, Bool.not_eq_false', decide_eq_false_iff_not] at h
      exact ⟨h.1.1, by omega, by omega⟩
    refine regC mix [(2, con (f37 l k hl))] (by kernel_rfl) ?_
    refine run_ret (ret_of (.tup [lTa (atLeast k l), vI 0]) (by kernel_rfl) ?_)
    rw [conR, if_pos h']
def co20 (l : List Ta) (k : Int) (i : Int) : S := mkS 40 [(0, .b (.v (lTa l))), (1, .b (.v (vI k))), (6, .b (.v (.c (.row 1 (atLeast k (l.take i.toNat)).length)))), (7, .b (.v (vI i)))] [(1, .row 37 4 (rowTa (atLeast k (l.take i.toNat))))]
theorem f20 (l : List Ta) (k : Int) (hl : l.length ≤ 1000000) : FCall Try.prog 20 [lTa l, vI k] (.tup [lTa (conR l k).1, vI (conR l k).2]) := by
  refine fcall_of Try.func20 rfl (by kernel_rfl) (fun B hB => ?_)
  refine reg0 mix (by kernel_rfl) ?_
  refine regC mix [(1, con (f36 l hl))] (by kernel_rfl) ?_
  refine rCond ((!okTs l || decide (k < 1)) || decide (k > 1000)) (by kernel_rfl) (fun h => ?_) (fun h => ?_)
  · refine reg0 mix (by kernel_rfl) ?_
    refine run_weaken (wk_nilLst 4 4 (elTa []) (by kernel_rfl)) ?_ (List.cons_ne_nil _ _)
    refine run_ret (ret_of (.tup [lTa [], vI 1]) (by kernel_rfl) ?_)
    rw [conR, if_neg (by
      rintro ⟨a, b, c⟩
      simp only [Bool.or_eq_true, Bool.not_eq_true', decide_eq_true_eq, a] at h
      rcases h with (h | h) | h
      · cases h
      · omega
      · omega)]
  have h' : okTs l = true ∧ 1 ≤ k ∧ k ≤ 1000 := by
    simp only [Bool.or_eq_false_iff, Bool.not_eq_false', decide_eq_false_iff_not] at h
    exact ⟨h.1.1, by omega, by omega⟩
  rw [conR, if_pos h']
  refine reg0 mix (by kernel_rfl) ?_
  refine run_weaken (wk_nilRow 6 1 37 4 (by kernel_rfl) (by kernel_rfl) (by omega)) ?_ (List.cons_ne_nil _ _)
  refine reg0 mix (by kernel_rfl) ?_
  refine rBlock ?_
  refine rLoop (co20 l k) (fun i => 0 ≤ i ∧ i ≤ l.length) (fun i => (l.length - i).toNat) 0 (wkTo [0, 1, 6, 7] [] (by kernel_rfl)) ⟨by omega, by omega⟩ ?_
  rintro i ⟨h0, h1⟩
  refine reg0 mix (by kernel_rfl) ?_
  refine rCond (decide (i < (l.length : Int))) (by kernel_rfl) (fun hc => ?_) (fun hc => ?_)
  · have hc : i < l.length := of_decide_eq_true hc
    have e : IntKind.i64.wrap (i + 1) = i + 1 := w64 _ (by omega) (by omega)
    have hi : 0 ≤ i ∧ i < (l.length : Int) := ⟨h0, hc⟩
    have hs := atLeast_succ (k := k) (l := l) (i := i.toNat) (by omega)
    have hle : (atLeast k (l.take i.toNat)).length ≤ 1000000 := Nat.le_trans atLeast_le (by rw [List.length_take]; omega)
    have hln : (atLeast k (l.take i.toNat)).length = (rowTa (atLeast k (l.take i.toNat))).length := (rowTa_len _).symm
    refine rJoin (fun _ : Unit => mkS 40 [(0, .b (.v (lTa l))), (1, .b (.v (vI k))), (6, .b (.v (.c (.row 1 (atLeast k (l.take (i.toNat + 1))).length)))), (7, .b (.v (vI i)))] [(1, .row 37 4 (rowTa (atLeast k (l.take (i.toNat + 1)))))]) (fun _ => True) (List.cons_ne_nil _ _) ?_ ?_
    · refine rBlock ?_
      refine reg mix [] [pf hi] (by kernel_rfl) ?_
      refine rCond (decide ((taAt l i.toNat).n ≥ k)) (by kernel_rfl) (fun h => ?_) (fun h => ?_)
      · refine reg mix [] [pf hi, pf hln, pf (by omega : ((atLeast k (l.take i.toNat)).length + 1) * 33 ≤ 140737488355328), pf (rfl : 1 = [encTa (taAt l i.toNat)].length)] (by kernel_rfl) ?_
        refine run_nil (blockR_normal (run_nil (joined () trivial ?_)))
        rw [hs, if_pos h, List.length_append, show rowTa (atLeast k (l.take i.toNat) ++ [taAt l i.toNat]) = rowTa (atLeast k (l.take i.toNat)) ++ [encTa (taAt l i.toNat)] by simp [rowTa]]
        exact wkTo [0, 1, 6, 7] [37] (by kernel_rfl)
      · refine run_nil (blockR_normal (run_nil (joined () trivial ?_)))
        rw [hs, if_neg (by rw [h]; exact Bool.false_ne_true), List.append_nil]
        exact wkTo [0, 1, 6, 7] [] (by kernel_rfl)
    · rintro _ _
      refine reg0 mix (by kernel_rfl) ?_
      refine run_nil (loopR_next (IntKind.i64.wrap (i + 1)) ?_ ?_ ?_)
      · rw [e, co20, show (i + 1).toNat = i.toNat + 1 by omega]
        exact e ▸ wkTo [0, 1, 6, 7] [] (by kernel_rfl)
      · rw [e]; omega
      · rw [e]; omega
  have hc : ¬ i < l.length := of_decide_eq_false hc
  refine run_exit (loopR_exit (blockR_exit ?_))
  have et : l.take i.toNat = l := List.take_of_length_le (by omega)
  rw [co20, et]
  refine reg0 mix (by kernel_rfl) ?_
  refine frzRow hB 4 1 (atLeast k l).length 37 4 (rowTa (atLeast k l)) (elTa (atLeast k l)) [5] [] (by kernel_rfl) (by kernel_rfl) (rowTa_len _).symm (fun j hj => by simp [rowTa, elTa, List.getD_eq_getElem?_getD, hj]) (by kernel_rfl) ?_ (List.cons_ne_nil _ _)
  exact run_ret (ret_of (.tup [lTa (atLeast k l), vI 0]) (by kernel_rfl) rfl)
end
end Go.Proofs.Ytaaplpbjjnechaa
