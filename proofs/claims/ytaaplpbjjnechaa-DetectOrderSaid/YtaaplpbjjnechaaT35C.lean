import Derived.Test.YtaaplpbjjnechaaT35A
namespace Go.Proofs.Ytaaplpbjjnechaa
open Go.Sym
set_option linter.unusedVariables false
set_option linter.unusedSimpArgs false

/-! ### Valid tallies -/
def taAt (l : List Ta) (i : Nat) : Ta := l.getD i zTa
def badT (l : List Ta) (i : Nat) : Bool := ((!exB (taAt l i).pl || decide ((taAt l i).n < 1)) || decide ((taAt l i).n > 1000)) || (decide ((i : Int) > 0) && !ltP (taAt l (i - 1)).pl (taAt l i).pl)
structure OkTs (l : List Ta) : Prop where
  ok : ∀ i, i < l.length → badT l i = false
  len : l.length ≤ 1000
def okTs (l : List Ta) : Bool := (List.range l.length).all (fun i => !badT l i) && decide ((l.length : Int) ≤ 1000)
theorem okTs_iff {l : List Ta} : okTs l = true ↔ OkTs l := by
  unfold okTs
  simp only [Bool.and_eq_true, List.all_eq_true, List.mem_range, Bool.not_eq_true', decide_eq_true_eq]
  exact ⟨fun h => ⟨h.1, by omega⟩, fun h => ⟨h.ok, by have := h.len; omega⟩⟩
theorem okTs_bad {l : List Ta} {i : Nat} (hi : i < l.length) (h : badT l i = true) : okTs l = false := by
  rw [Bool.eq_false_iff]
  intro h'
  rw [(okTs_iff.1 h').ok i hi] at h; cases h
theorem okTs_all {l : List Ta} (h : ∀ i, i < l.length → badT l i = false) : okTs l = decide ((l.length : Int) ≤ 1000) := by
  unfold okTs
  rw [show (List.range l.length).all (fun i => !badT l i) = true by
    rw [List.all_eq_true]; intro i hi; rw [h i (by simpa using hi)]; rfl]
  rfl
theorem bad_ex {l : List Ta} {i : Nat} (h : badT l i = false) : exB (taAt l i).pl = true ∧ 1 ≤ (taAt l i).n ∧ (taAt l i).n ≤ 1000 ∧ (0 < i → ltP (taAt l (i - 1)).pl (taAt l i).pl = true) := by
  unfold badT at h
  simp only [Bool.or_eq_false_iff, Bool.not_eq_false', decide_eq_false_iff_not, Bool.and_eq_false_iff] at h
  obtain ⟨⟨⟨h1, h2⟩, h3⟩, h4⟩ := h
  refine ⟨h1, by omega, by omega, fun hi => ?_⟩
  rcases h4 with h4 | h4
  · omega
  · exact h4
def ts2 (l : List Ta) (i : Int) : S := mkS 63 [(0, .b (.v (lTa l))), (3, .b (.v (vI i)))] []
theorem f36 (l : List Ta) (hl : l.length ≤ 1000000) : FCall Try.prog 36 [lTa l] (.v (vB (okTs l))) := by
  refine fcall_of Try.func36 rfl (by kernel_rfl) (fun B hB => ?_)
  refine reg0 mix (by kernel_rfl) ?_
  refine reg0 mix (by kernel_rfl) ?_
  refine rBlock ?_
  refine rLoop (ts2 l) (fun i => 0 ≤ i ∧ i ≤ l.length ∧ ∀ j, j < i.toNat → badT l j = false) (fun i => (l.length - i).toNat) 0 (wkTo [0, 3] [] (by kernel_rfl)) ⟨by omega, by omega, fun j hj => by simp at hj⟩ ?_
  rintro i ⟨h0, h1, h2⟩
  refine reg0 mix (by kernel_rfl) ?_
  refine rCond (decide (i < (l.length : Int))) (by kernel_rfl) (fun hc => ?_) (fun hc => ?_)
  · have hc : i < l.length := of_decide_eq_true hc
    have e : IntKind.i64.wrap (i + 1) = i + 1 := w64 _ (by omega) (by omega)
    have hi : 0 ≤ i ∧ i < (l.length : Int) := ⟨h0, hc⟩
    have e2 : IntKind.i64.wrap (i - 1) = i - 1 := w64 _ (by omega) (by omega)
    have c44 := f44 (l.getD i.toNat zTa).t (l.getD i.toNat zTa).c (l.getD i.toNat zTa).f
    have c13 := f13 (l.getD (IntKind.i64.wrap (i - 1)).toNat zTa) (l.getD i.toNat zTa)
    refine rBlock ?_
    have hp : ((!((!cellB (l.getD i.toNat zTa).t (l.getD i.toNat zTa).c (l.getD i.toNat zTa).f || decide ((l.getD i.toNat zTa).n < 1)) || decide ((l.getD i.toNat zTa).n > 1000))) && decide (i > 0)) = true → 0 ≤ IntKind.i64.wrap (i - 1) ∧ IntKind.i64.wrap (i - 1) < (l.length : Int) := fun h => by
      have := of_decide_eq_true (Bool.and_eq_true_iff.1 h).2
      rw [e2]; omega
    refine regI mix [(15, hcon c44), (46, hcon c13)] [pf (fun _ : true = true => hi), pf (fun _ : true = true => hi), pf (fun _ : true = true => hi), pf (fun _ : true = true => c44), pf (fun _ : (!(!cellB (l.getD i.toNat zTa).t (l.getD i.toNat zTa).c (l.getD i.toNat zTa).f)) = true => hi), pf (fun _ : (!(!cellB (l.getD i.toNat zTa).t (l.getD i.toNat zTa).c (l.getD i.toNat zTa).f || decide ((l.getD i.toNat zTa).n < 1))) = true => hi), pf hp,
      pf (fun _ : ((!((!cellB (l.getD i.toNat zTa).t (l.getD i.toNat zTa).c (l.getD i.toNat zTa).f || decide ((l.getD i.toNat zTa).n < 1)) || decide ((l.getD i.toNat zTa).n > 1000))) && decide (i > 0)) = true => hi),
      pf (fun _ : ((!((!cellB (l.getD i.toNat zTa).t (l.getD i.toNat zTa).c (l.getD i.toNat zTa).f || decide ((l.getD i.toNat zTa).n < 1)) || decide ((l.getD i.toNat zTa).n > 1000))) && decide (i > 0)) = true => c13)] (by kernel_rfl) ?_
    have hbad : (((!cellB (l.getD i.toNat zTa).t (l.getD i.toNat zTa).c (l.getD i.toNat zTa).f || decide ((l.getD i.toNat zTa).n < 1)) || decide ((l.getD i.toNat zTa).n > 1000)) || (decide (i > 0) && !ltP (l.getD (IntKind.i64.wrap (i - 1)).toNat zTa).pl (l.getD i.toNat zTa).pl)) = badT l i.toNat := by
      have hx : cellB (l.getD i.toNat zTa).t (l.getD i.toNat zTa).c (l.getD i.toNat zTa).f = exB (taAt l i.toNat).pl := cell_ex (taAt l i.toNat).pl
      rw [hx, badT, Int.toNat_of_nonneg h0]
      by_cases hi0 : i > 0
      · rw [e2, show (i - 1).toNat = i.toNat - 1 by omega]; rfl
      · simp only [decide_eq_false hi0, Bool.false_and]; rfl
    refine rCond (((!cellB (l.getD i.toNat zTa).t (l.getD i.toNat zTa).c (l.getD i.toNat zTa).f || decide ((l.getD i.toNat zTa).n < 1)) || decide ((l.getD i.toNat zTa).n > 1000)) || (decide (i > 0) && !ltP (l.getD (IntKind.i64.wrap (i - 1)).toNat zTa).pl (l.getD i.toNat zTa).pl)) (by kernel_rfl) (fun h => ?_) (fun h => ?_)
    · rw [hbad] at h
      refine reg0 mix (by kernel_rfl) ?_
      refine run_ret (blockR_ret (loopR_ret (blockR_ret (ret_of (.v (vB false)) (by kernel_rfl) ?_))))
      rw [okTs_bad (by omega) h]
    · rw [hbad] at h
      refine run_nil (blockR_normal ?_)
      refine reg0 mix (by kernel_rfl) ?_
      refine run_nil (loopR_next (IntKind.i64.wrap (i + 1)) (wkTo [0, 3] [] (by kernel_rfl)) ?_ ?_)
      · rw [e]
        refine ⟨by omega, by omega, fun j hj => ?_⟩
        by_cases hji : j < i.toNat
        · exact h2 j hji
        · rw [show j = i.toNat by omega]; exact h
      · rw [e]; omega
  have hc : ¬ i < l.length := of_decide_eq_false hc
  refine run_exit (loopR_exit (blockR_exit ?_))
  refine reg0 mix (by kernel_rfl) ?_
  refine run_ret (ret_of (.v (vB (decide ((l.length : Int) ≤ 1000)))) (by kernel_rfl) ?_)
  rw [okTs_all fun j hj => h2 j (by omega)]
def ts1 (l : List Ta) (i : Int) : S := mkS 46 [(0, .b (.v (lTa l))), (5, .b (.v (lTa l))), (6, .b (.v (vI l.length))), (7, .b (.v (vI i)))] []
theorem f30 (l : List Ta) (hl : l.length ≤ 1000000) : FCall Try.prog 30 [lTa l] (.v (vB (okTs l))) := by
  refine fcall_of Try.func30 rfl (by kernel_rfl) (fun B hB => ?_)
  refine reg0 mix (by kernel_rfl) ?_
  refine reg0 mix (by kernel_rfl) ?_
  refine rBlock ?_
  refine rLoop (ts1 l) (fun i => 0 ≤ i ∧ i ≤ l.length ∧ ∀ j, j < i.toNat → badT l j = false) (fun i => (l.length - i).toNat) 0 (wkTo [0, 5, 6, 7] [] (by kernel_rfl)) ⟨by omega, by omega, fun j hj => by simp at hj⟩ ?_
  rintro i ⟨h0, h1, h2⟩
  refine reg0 mix (by kernel_rfl) ?_
  refine rCond (decide (i < (l.length : Int))) (by kernel_rfl) (fun hc => ?_) (fun hc => ?_)
  · have hc : i < l.length := of_decide_eq_true hc
    have e : IntKind.i64.wrap (i + 1) = i + 1 := w64 _ (by omega) (by omega)
    have hi : 0 ≤ i ∧ i < (l.length : Int) := ⟨h0, hc⟩
    have e2 : IntKind.i64.wrap (i - 1) = i - 1 := w64 _ (by omega) (by omega)
    have cx := f34 (l.getD i.toNat zTa)
    have ce := f39 (l.getD i.toNat zTa).pl
    have cy := f34 (l.getD (IntKind.i64.wrap (i - 1)).toNat zTa)
    have cc := f27 (l.getD (IntKind.i64.wrap (i - 1)).toNat zTa).pl (l.getD i.toNat zTa).pl
    refine rBlock ?_
    refine reg mix [] [pf hi] (by kernel_rfl) ?_
    have hp : ((!((!exB (l.getD i.toNat zTa).pl || decide ((l.getD i.toNat zTa).n < 1)) || decide ((l.getD i.toNat zTa).n > 1000))) && decide (i > 0)) = true → 0 ≤ IntKind.i64.wrap (i - 1) ∧ IntKind.i64.wrap (i - 1) < (l.length : Int) := fun h => by
      have := of_decide_eq_true (Bool.and_eq_true_iff.1 h).2
      rw [e2]; omega
    refine regI mix [(1, hcon cx), (2, hcon ce), (23, hcon cy), (25, hcon cx), (26, hcon cc)] [pf (fun _ : true = true => cx), pf (fun _ : true = true => ce), pf hp,
      pf (fun _ : ((!((!exB (l.getD i.toNat zTa).pl || decide ((l.getD i.toNat zTa).n < 1)) || decide ((l.getD i.toNat zTa).n > 1000))) && decide (i > 0)) = true => cy),
      pf (fun _ : ((!((!exB (l.getD i.toNat zTa).pl || decide ((l.getD i.toNat zTa).n < 1)) || decide ((l.getD i.toNat zTa).n > 1000))) && decide (i > 0)) = true => cx),
      pf (fun _ : ((!((!exB (l.getD i.toNat zTa).pl || decide ((l.getD i.toNat zTa).n < 1)) || decide ((l.getD i.toNat zTa).n > 1000))) && decide (i > 0)) = true => cc)] (by kernel_rfl) ?_
    have hbad : (((!exB (l.getD i.toNat zTa).pl || decide ((l.getD i.toNat zTa).n < 1)) || decide ((l.getD i.toNat zTa).n > 1000)) || (decide (i > 0) && decide (cmpP (l.getD (IntKind.i64.wrap (i - 1)).toNat zTa).pl (l.getD i.toNat zTa).pl ≥ 0))) = badT l i.toNat := by
      rw [badT, Int.toNat_of_nonneg h0]
      by_cases hi0 : i > 0
      · rw [e2, show (i - 1).toNat = i.toNat - 1 by omega]
        have hprev := (bad_ex (h2 (i.toNat - 1) (by omega))).1
        cases hex : exB (taAt l i.toNat).pl with
        | false =>
          rw [show exB (l.getD i.toNat zTa).pl = false from hex]; rfl
        | true =>
          have hcl := (cmp_lt hprev hex).1
          have : decide (cmpP (taAt l (i.toNat - 1)).pl (taAt l i.toNat).pl ≥ 0) = !ltP (taAt l (i.toNat - 1)).pl (taAt l i.toNat).pl := by
            cases hlt : ltP (taAt l (i.toNat - 1)).pl (taAt l i.toNat).pl with
            | true => have := hcl.2 hlt; rw [decide_eq_false (by omega)]; rfl
            | false =>
              have : ¬ cmpP (taAt l (i.toNat - 1)).pl (taAt l i.toNat).pl < 0 := fun h => by rw [hcl.1 h] at hlt; cases hlt
              rw [decide_eq_true (by omega)]; rfl
          rw [← this, ← hex]; rfl
      · simp only [decide_eq_false hi0, Bool.false_and]; rfl
    refine rCond (((!exB (l.getD i.toNat zTa).pl || decide ((l.getD i.toNat zTa).n < 1)) || decide ((l.getD i.toNat zTa).n > 1000)) || (decide (i > 0) && decide (cmpP (l.getD (IntKind.i64.wrap (i - 1)).toNat zTa).pl (l.getD i.toNat zTa).pl ≥ 0))) (by kernel_rfl) (fun h => ?_) (fun h => ?_)
    · rw [hbad] at h
      refine reg0 mix (by kernel_rfl) ?_
      refine run_ret (blockR_ret (loopR_ret (blockR_ret (ret_of (.v (vB false)) (by kernel_rfl) ?_))))
      rw [okTs_bad (by omega) h]
    · rw [hbad] at h
      refine run_nil (blockR_normal ?_)
      refine reg0 mix (by kernel_rfl) ?_
      refine run_nil (loopR_next (IntKind.i64.wrap (i + 1)) (wkTo [0, 5, 6, 7] [4] (by kernel_rfl)) ?_ ?_)
      · rw [e]
        refine ⟨by omega, by omega, fun j hj => ?_⟩
        by_cases hji : j < i.toNat
        · exact h2 j hji
        · rw [show j = i.toNat by omega]; exact h
      · rw [e]; omega
  have hc : ¬ i < l.length := of_decide_eq_false hc
  refine run_exit (loopR_exit (blockR_exit ?_))
  refine reg0 mix (by kernel_rfl) ?_
  refine run_ret (ret_of (.v (vB (decide ((l.length : Int) ≤ 1000)))) (by kernel_rfl) ?_)
  rw [okTs_all fun j hj => h2 j (by omega)]
end Go.Proofs.Ytaaplpbjjnechaa
