import Derived.Test.YteefindpimnhdaaT16K
namespace Go.Proofs.Yteefindpimnhdaa
open Go.Sym
set_option linter.unusedVariables false
set_option linter.unusedSimpArgs false

def f5S (l : List Df) (t one two m : Int) (X : List Sp) (i : Int) : S := mkS 182 [(0, .b (.v (lDf l))), (1, .b (.v (vI t))), (2, .b (.v (vI one))), (3, .b (.v (vI two))), (4, .b (.v (vI m))), (11, .b (.v (vB true))), (12, .b (.v (lSp X))), (18, .b (.v (vI i)))] []

theorem f5 (l : List Df) (t one two m : Int) : FCall Try.prog 5 [lDf l, vI t, vI one, vI two, vI m] (.v (vB true)) := by
  refine fcall_of Try.func5 rfl (by kernel_rfl) (fun B hB => ?_)
  refine reg0 mix (by kernel_rfl) ?_
  refine regC mix [(0, con f9)] (by kernel_rfl) ?_
  refine reg0 mix (by kernel_rfl) ?_
  refine rCond (decide ((l.length : Int) > 20)) (by kernel_rfl) (fun h => ?_) (fun h => ?_)
  · refine reg0 mix (by kernel_rfl) ?_
    exact run_ret (ret_of (.v (vB true)) (by kernel_rfl) rfl)
  have hl : l.length ≤ 1000000 := by have := of_decide_eq_false h; omega
  refine regC mix [(4, con (g13 l t one two hl))] (by kernel_rfl) ?_
  refine reg0 mix (by kernel_rfl) ?_
  refine rCond (askE l t one two != 0) (by kernel_rfl) (fun h => ?_) (fun h => ?_)
  · refine reg0 mix (by kernel_rfl) ?_
    refine run_ret (ret_of (.v (vB ((true && (askE l t one two == 1)) && (((spansV l t one two).length : Int) == 0)))) (by kernel_rfl) ?_)
    have hk : askOk l t one two = false := by
      cases hh : askOk l t one two
      · rfl
      · simp [askE, hh] at h
    simp [askE, spansV, hk]
  have hk : askOk l t one two = true := by
    cases hh : askOk l t one two
    · simp [askE, hh] at h
    · rfl
  obtain ⟨hv, ht, h1, h2⟩ := (askOk_iff _ _ _ _).1 hk
  have hk2 : askOk l t two one = true := (askOk_iff _ _ _ _).2 ⟨hv, ht, h2, h1⟩
  have hk3 : askOk l t one one = true := (askOk_iff _ _ _ _).2 ⟨hv, ht, h1, h1⟩
  have hX := spansV_len l t one two
  refine regC mix [(4, con (g13 l t two one hl))] (by kernel_rfl) ?_
  refine regC mix [(4, con (g13 l t one one hl))] (by kernel_rfl) ?_
  refine regC mix [(14, con (f17 (spansV l t one two) (spansV l t two one) (by omega)))] (by kernel_rfl) ?_
  refine rCondF ((((askE l t two one != 0) || (askE l t one one != 0)) || decide (((spansV l t one one).length : Int) > 0)) || !decide (spansV l t one two = spansV l t two one)) (by kernel_rfl) ?_ ?_
  · simp [askE, spansV, hk, hk2, hk3, chgs, chgF_same, chgF_swap l t one two]
  have hS : spansV l t one two = chgs l t one two := by rw [spansV, if_pos hk]
  obtain ⟨hgap, hin⟩ := chgs_ok hv t one two
  rw [← hS] at hgap hin
  refine reg0 mix (by kernel_rfl) ?_
  refine rBlock ?_
  refine rLoop (f5S l t one two m (spansV l t one two)) (fun i => 0 ≤ i ∧ i ≤ (spansV l t one two).length) (fun i => ((spansV l t one two).length - i).toNat) 0 (wkTo [0, 1, 2, 3, 4, 11, 12, 18] [] (by kernel_rfl)) ⟨by omega, by omega⟩ ?_
  generalize spansV l t one two = X at hX hgap hin ⊢
  intro i ⟨hi0, hi1⟩
  refine reg0 mix (by kernel_rfl) ?_
  refine rCond (decide (i < (X.length : Int))) (by kernel_rfl) (fun hc => ?_) (fun hc => ?_)
  · have hc : i < X.length := of_decide_eq_true hc
    have e1 : IntKind.i64.wrap (i + 1) = i + 1 := w64 _ (by omega) (by omega)
    have e2 : IntKind.i64.wrap (i - 1) = i - 1 := w64 _ (by omega) (by omega)
    have hi : i.toNat < X.length := by omega
    have hx := hgap.2 X[i.toNat] (List.getElem_mem hi)
    rw [← getSp hi] at hx
    refine rBlock ?_
    refine regI mix [] [pf (fun _ : true = true => (⟨hi0, hc⟩ : 0 ≤ i ∧ i < (X.length : Int))), pf (fun _ : true = true => (⟨hi0, hc⟩ : 0 ≤ i ∧ i < (X.length : Int))),
      pf (fun _ : (!decide ((X.getD i.toNat zSp).frm > (X.getD i.toNat zSp).til)) = true => (⟨hi0, hc⟩ : 0 ≤ i ∧ i < (X.length : Int))),
      pf (fun _ : (!(decide ((X.getD i.toNat zSp).frm > (X.getD i.toNat zSp).til) || decide ((X.getD i.toNat zSp).frm < 0))) = true => (⟨hi0, hc⟩ : 0 ≤ i ∧ i < (X.length : Int))),
      pf (fun _ : ((!((decide ((X.getD i.toNat zSp).frm > (X.getD i.toNat zSp).til) || decide ((X.getD i.toNat zSp).frm < 0)) || decide ((X.getD i.toNat zSp).til > 38399))) && decide (i > 0)) = true => (⟨hi0, hc⟩ : 0 ≤ i ∧ i < (X.length : Int))),
      pf (fun h : ((!((decide ((X.getD i.toNat zSp).frm > (X.getD i.toNat zSp).til) || decide ((X.getD i.toNat zSp).frm < 0)) || decide ((X.getD i.toNat zSp).til > 38399))) && decide (i > 0)) = true => (by
        have hp : i > 0 := by
          rw [Bool.and_eq_true] at h
          exact of_decide_eq_true h.2
        rw [e2]; omega : 0 ≤ IntKind.i64.wrap (i - 1) ∧ IntKind.i64.wrap (i - 1) < (X.length : Int)))] (by kernel_rfl) ?_
    refine rCondF ((((decide ((X.getD i.toNat zSp).frm > (X.getD i.toNat zSp).til) || decide ((X.getD i.toNat zSp).frm < 0)) || decide ((X.getD i.toNat zSp).til > 38399))) || (decide (i > 0) && decide ((X.getD i.toNat zSp).frm < IntKind.i64.wrap ((X.getD (IntKind.i64.wrap (i - 1)).toNat zSp).til + 2)))) (by kernel_rfl) ?_ ?_
    · have hpair : i > 0 → IntKind.i64.wrap ((X.getD (IntKind.i64.wrap (i - 1)).toNat zSp).til + 2) ≤ (X.getD i.toNat zSp).frm := fun hp => by
        rw [e2]
        have hj : (i - 1).toNat < X.length := by omega
        have hy := hgap.2 X[(i - 1).toNat] (List.getElem_mem hj)
        have hg := List.pairwise_iff_getElem.1 hgap.1 (i - 1).toNat i.toNat hj hi (by omega)
        rw [getSp hj, w64 (X[(i - 1).toNat].til + 2) (by omega) (by omega), getSp hi]
        exact hg
      rw [Bool.eq_false_iff]
      intro hh
      simp only [Bool.or_eq_true, Bool.and_eq_true, decide_eq_true_iff] at hh
      rcases hh with ((hh | hh) | hh) | ⟨hh, hh2⟩
      · omega
      · omega
      · omega
      · have := hpair hh; omega
    refine run_nil (blockR_normal ?_)
    refine reg0 mix (by kernel_rfl) ?_
    refine run_nil (loopR_next (IntKind.i64.wrap (i + 1)) (wkTo [0, 1, 2, 3, 4, 11, 12, 18] [] (by kernel_rfl)) ?_ ?_)
    · rw [e1]; omega
    · rw [e1]; omega
  refine run_exit (loopR_exit (blockR_exit ?_))
  refine regC mix [(4, con (g11 l t m one hl))] (by kernel_rfl) ?_
  refine regC mix [(4, con (g11 l t m two hl))] (by kernel_rfl) ?_
  refine reg0 mix (by kernel_rfl) ?_
  have hm1 : askOk l t m one = mom m := by
    rw [Bool.eq_iff_iff, askOk_iff]; simp [hv, ht, h1]
  have hm2 : askOk l t m two = mom m := by
    rw [Bool.eq_iff_iff, askOk_iff]; simp [hv, ht, h2]
  refine rCond ((askE l t m one != 0) || (askE l t m two != 0)) (by kernel_rfl) (fun h => ?_) (fun h => ?_)
  · refine reg0 mix (by kernel_rfl) ?_
    refine run_ret (ret_of (.v (vB (((true && (askE l t m one == 1)) && (askE l t m two == 1)) && (decide (m < 0) || decide (m > 38399))))) (by kernel_rfl) ?_)
    have hmm : mom m = false := by
      cases hh : mom m
      · rfl
      · simp [askE, hm1, hm2, hh] at h
    have : m < 0 ∨ m > 38399 := by simp [mom] at hmm; omega
    have hd : (decide (m < 0) || decide (m > 38399)) = true := by simpa using this
    rw [hd]
    simp [askE, hm1, hm2, hmm]
  have hmm : mom m = true := by
    cases hh : mom m
    · simp [askE, hm1, hm2, hh] at h
    · rfl
  have hmb : 0 ≤ m ∧ m ≤ 38399 := by simp [mom] at hmm; omega
  refine reg mix [(7, hcon (f18 X m (by omega)))] [pf eq26, pf (f18 X m (by omega))] (by kernel_rfl) ?_
  refine run_ret (ret_of (.v (vB (true && ((!mEq (maskV l t m one) (maskV l t m two)) == inside X m)))) (by kernel_rfl) ?_)
  rw [hin m hmb.1 hmb.2, m4_eq]
  simp [diff, maskV, hm1, hm2, hmm]

end Go.Proofs.Yteefindpimnhdaa
