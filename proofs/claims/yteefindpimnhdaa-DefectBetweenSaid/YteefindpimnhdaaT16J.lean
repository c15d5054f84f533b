import Derived.Test.YteefindpimnhdaaT16I
namespace Go.Proofs.Yteefindpimnhdaa
open Go.Sym
set_option linter.unusedVariables false
set_option linter.unusedSimpArgs false

theorem hit_mono {d : Df} {t v k K : Int} (hK : k ≤ K) (h : hit d t v k = true) : hit d t v K = true := by
  simp [hit] at h ⊢; omega
theorem cov_mono {l : List Df} {t v k K c : Int} (hK : k ≤ K) (h : cov l t v k c = true) : cov l t v K c = true := by
  unfold cov at h ⊢
  rw [List.any_eq_true] at h ⊢
  obtain ⟨d, hd, hh⟩ := h
  simp only [Bool.and_eq_true] at hh
  exact ⟨d, hd, by rw [hit_mono hK hh.1, hh.2]; rfl⟩
theorem step_false {F : Int} {a b : Bool} (h : F = 0 → a = true → b = true) : (((F == 0) && a) && !b) = false := by
  by_cases hF : F = 0
  · cases a
    · simp
    · simp [h hF rfl]
  · simp [hF]

def f4S (l : List Df) (t v k later e F : Int) (A M : M4) (x : MS) : S := mkS 133 [(0, .b (.v (lDf l))), (1, .b (.v (vI t))), (2, .b (.v (vI v))), (3, .b (.v (vI k))), (4, .b (.v (vI later))), (11, .b (.v (vB true))), (12, .b (.v (.c (.ptr 12 0)))), (13, .b (.v (vI e))), (14, .b (.v (.c (.ptr 14 0)))), (15, .b (.v (vI F))), (16, .b (.v (.c (.ptr 16 0)))), (17, .b (.v (vI x.i)))] [(12, .cells (encM A)), (14, .cells (encM M)), (16, .cells (encM x.m))]
def f4T (l : List Df) (t v k later e F : Int) (A M : M4) (x : MS) (d : Df) : S := mkS 133 [(0, .b (.v (lDf l))), (1, .b (.v (vI t))), (2, .b (.v (vI v))), (3, .b (.v (vI k))), (4, .b (.v (vI later))), (11, .b (.v (vB true))), (12, .b (.v (.c (.ptr 12 0)))), (13, .b (.v (vI e))), (14, .b (.v (.c (.ptr 14 0)))), (15, .b (.v (vI F))), (16, .b (.v (.c (.ptr 16 0)))), (17, .b (.v (vI x.i))), (18, .b (.v (.c (.ptr 18 0))))] [(12, .cells (encM A)), (14, .cells (encM M)), (16, .cells (encM x.m)), (18, .cells (encDf d))]
def f4U (later F : Int) (A M m : M4) (i : Nat) : S := mkS 133 [(4, .b (.v (vI later))), (11, .b (.v (vB true))), (12, .b (.v (.c (.ptr 12 0)))), (14, .b (.v (.c (.ptr 14 0)))), (15, .b (.v (vI F))), (16, .b (.v (.c (.ptr 16 0)))), (19, .b (.v (vI i)))] [(12, .cells (encM A)), (14, .cells (encM M)), (16, .cells (encM m))]

abbrev max4 (k later : Int) : Int := if later > k then later else k

theorem f4 (l : List Df) (t v k later : Int) : FCall Try.prog 4 [lDf l, vI t, vI v, vI k, vI later] (.v (vB true)) := by
  refine fcall_of Try.func4 rfl (by kernel_rfl) (fun B hB => ?_)
  refine reg0 mix (by kernel_rfl) ?_
  refine regC mix [(0, con f9)] (by kernel_rfl) ?_
  refine reg0 mix (by kernel_rfl) ?_
  refine rCond (decide ((l.length : Int) > 20)) (by kernel_rfl) (fun h => ?_) (fun h => ?_)
  · refine reg0 mix (by kernel_rfl) ?_
    exact run_ret (ret_of (.v (vB true)) (by kernel_rfl) rfl)
  have hl : l.length ≤ 20 := by have := of_decide_eq_false h; omega
  refine regC mix [(4, con (g11 l t v k (by omega)))] (by kernel_rfl) ?_
  refine regC mix [(6, con (g11 l t v (max4 k later) (by omega)))] (by kernel_rfl) ?_
  refine reg0 mix (by kernel_rfl) ?_
  refine rCond (askE l t v k != 0) (by kernel_rfl) (fun h => ?_) (fun h => ?_)
  · refine reg mix [] [pf eq26] (by kernel_rfl) ?_
    refine run_ret (ret_of (.v (vB ((true && (askE l t v k == 1)) && mEq (maskV l t v k) zM))) (by kernel_rfl) ?_)
    have hk : askOk l t v k = false := by
      cases hh : askOk l t v k
      · rfl
      · simp [askE, hh] at h
    rw [m4_eq]
    simp [askE, maskV, hk]
  have hk : askOk l t v k = true := by
    cases hh : askOk l t v k
    · simp [askE, hh] at h
    · rfl
  have hv := askOk_valid hk
  refine reg0 mix (by kernel_rfl) ?_
  refine reg0 mix (by kernel_rfl) ?_
  refine rBlock ?_
  refine rLoop (f4S l t v k later (askE l t v k) (askE l t v (max4 k later)) (maskV l t v k) (maskV l t v (max4 k later))) (fun x => 0 ≤ x.i ∧ x.i ≤ l.length ∧ x.m = mask (l.take x.i.toNat) t v k) (fun x => (l.length - x.i).toNat) ⟨0, zM⟩ (wkTo [0, 1, 2, 3, 4, 11, 12, 13, 14, 15, 16, 17] [] (by kernel_rfl)) ⟨by simp, by simp, by simp [mask, cov, zM]⟩ ?_
  have hF0 : askE l t v (max4 k later) = 0 → maskV l t v (max4 k later) = mask l t v (max4 k later) := fun h => by
    unfold askE at h; unfold maskV
    split at h
    · rename_i h2; rw [if_pos h2]
    · cases h
  have hF1 : askE l t v (max4 k later) = 0 ∨ (askE l t v (max4 k later) = 1 ∧ later > 38399) := by
    unfold askE
    split
    · exact .inl rfl
    · rename_i h2
      right
      refine ⟨rfl, ?_⟩
      simp [askOk, mom, max4] at hk h2
      have h3 := h2 hk.1.1.1 hk.1.1.2 hk.1.2.1 hk.1.2.2
      split at h3 <;> omega
  have hA : maskV l t v k = mask l t v k := by rw [maskV, if_pos hk]
  generalize askE l t v (max4 k later) = F at hF0 hF1 ⊢
  rw [hA]
  have hmono : F = 0 → ∀ c, cov l t v k c = true → cov l t v (max4 k later) c = true := fun _ c h => cov_mono (by unfold max4; split <;> omega) h
  generalize hM : maskV l t v (max4 k later) = M at hF0 ⊢
  generalize askE l t v k = e0
  rintro ⟨i, m⟩ ⟨hi0, hi1, hm⟩
  simp only at hi0 hi1 hm
  refine reg0 mix (by kernel_rfl) ?_
  refine rCond (decide (i < (l.length : Int))) (by kernel_rfl) (fun hc => ?_) (fun hc => ?_)
  · have hc : i < l.length := of_decide_eq_true hc
    have e : IntKind.i64.wrap (i + 1) = i + 1 := w64 _ (by omega) (by omega)
    have hd := get_ok hv (show i.toNat < l.length by omega)
    have hs : (i + 1).toNat = i.toNat + 1 := by omega
    have hh := @mask_hit l t v k i.toNat (by omega)
    have hn := @mask_miss l t v k i.toNat (by omega)
    rw [← hs, ← hm] at hh hn
    refine rJoin (fun m' => f4T l t v k later e0 F (mask l t v k) M ⟨i, m'⟩ (l.getD i.toNat zDf)) (fun m' => m' = mask (l.take (i + 1).toNat) t v k) (List.cons_ne_nil _ _) ?_ ?_
    · refine rBlock ?_
      refine reg mix [] [pf (⟨hi0, hc⟩ : 0 ≤ i ∧ i < (l.length : Int))] (by kernel_rfl) ?_
      refine rTold (f4T l t v k later e0 F (mask l t v k) M ⟨i, m⟩ (l.getD i.toNat zDf)) [0, 1, 2, 3, 4, 11, 12, 13, 14, 15, 16, 17, 18] [] (by kernel_rfl) ?_ (by simp [flatC])
      generalize l.getD i.toNat zDf = d at hd hh hn ⊢
      refine reg0 mix (by kernel_rfl) ?_
      have hcell := cell_cases hd
      refine rCondF (decide (d.cell < 0) || decide (d.cell > 3)) (by kernel_rfl) (by simp; omega) ?_
      refine reg0 mix (by kernel_rfl) ?_
      refine rCond (hit d t v k) (by kernel_rfl) (fun h => ?_) (fun h => ?_)
      · have hh := hh h
        obtain ⟨dt, dc, df, du, dk⟩ := d
        obtain ⟨ma, mb, mc, md⟩ := m
        simp only at hcell
        rcases hcell with rfl | rfl | rfl | rfl
        · refine reg mix [] [pf (by omega : (0 : Int) ≤ 0 ∧ (0 : Int) < 4)] (by kernel_rfl) ?_
          exact run_nil (blockR_normal (run_nil (joined (⟨true, mb, mc, md⟩ : M4) (by rw [hh]; simp [setM]) (wkTo [0, 1, 2, 3, 4, 11, 12, 13, 14, 15, 16, 17, 18] [] (by kernel_rfl)))))
        · refine reg mix [] [pf (by omega : (0 : Int) ≤ 1 ∧ (1 : Int) < 4)] (by kernel_rfl) ?_
          exact run_nil (blockR_normal (run_nil (joined (⟨ma, true, mc, md⟩ : M4) (by rw [hh]; simp [setM]) (wkTo [0, 1, 2, 3, 4, 11, 12, 13, 14, 15, 16, 17, 18] [] (by kernel_rfl)))))
        · refine reg mix [] [pf (by omega : (0 : Int) ≤ 2 ∧ (2 : Int) < 4)] (by kernel_rfl) ?_
          exact run_nil (blockR_normal (run_nil (joined (⟨ma, mb, true, md⟩ : M4) (by rw [hh]; simp [setM]) (wkTo [0, 1, 2, 3, 4, 11, 12, 13, 14, 15, 16, 17, 18] [] (by kernel_rfl)))))
        · refine reg mix [] [pf (by omega : (0 : Int) ≤ 3 ∧ (3 : Int) < 4)] (by kernel_rfl) ?_
          exact run_nil (blockR_normal (run_nil (joined (⟨ma, mb, mc, true⟩ : M4) (by rw [hh]; simp [setM]) (wkTo [0, 1, 2, 3, 4, 11, 12, 13, 14, 15, 16, 17, 18] [] (by kernel_rfl)))))
      · exact run_nil (blockR_normal (run_nil (joined m (hn h).symm (wkTo [0, 1, 2, 3, 4, 11, 12, 13, 14, 15, 16, 17, 18] [] (by kernel_rfl)))))
    · intro m' hm'
      refine reg0 mix (by kernel_rfl) ?_
      refine run_nil (loopR_next (⟨IntKind.i64.wrap (i + 1), m'⟩ : MS) (wkTo [0, 1, 2, 3, 4, 11, 12, 13, 14, 15, 16, 17] [18] (by kernel_rfl)) ?_ ?_)
      · rw [e]; exact ⟨by simp only; omega, by simp only; omega, hm'⟩
      · simp only [e]; omega
  have hc : ¬ i < l.length := of_decide_eq_false hc
  rw [List.take_of_length_le (by omega)] at hm
  subst hm
  refine run_exit (loopR_exit (blockR_exit ?_))
  refine reg0 mix (by kernel_rfl) ?_
  refine rBlock ?_
  refine rLoop (f4U later F (mask l t v k) M (mask l t v k)) (fun i => i ≤ 4) (fun i => 4 - i) 0 (wkTo [4, 11, 12, 14, 15, 16, 19] [] (by kernel_rfl)) (by omega) ?_
  have q0 : F = 0 → (mask l t v k).a = true → M.a = true := fun h h2 => by rw [hF0 h]; exact hmono h 0 h2
  have q1 : F = 0 → (mask l t v k).b = true → M.b = true := fun h h2 => by rw [hF0 h]; exact hmono h 1 h2
  have q2 : F = 0 → (mask l t v k).c = true → M.c = true := fun h h2 => by rw [hF0 h]; exact hmono h 2 h2
  have q3 : F = 0 → (mask l t v k).d = true → M.d = true := fun h h2 => by rw [hF0 h]; exact hmono h 3 h2
  intro i hi
  refine reg0 mix (by kernel_rfl) ?_
  rcases (by omega : i = 0 ∨ i = 1 ∨ i = 2 ∨ i = 3 ∨ i = 4) with rfl | rfl | rfl | rfl | rfl
  · refine rCondT true (by kernel_rfl) rfl ?_
    refine rBlock ?_
    refine reg mix [] [pf (by omega : (0 : Int) ≤ 0 ∧ (0 : Int) < 4), pf (by omega : (0 : Int) ≤ 0 ∧ (0 : Int) < 4)] (by kernel_rfl) ?_
    refine rCondF (((F == 0) && (mask l t v k).a) && !M.a) (by kernel_rfl) (step_false q0) ?_
    refine run_nil (blockR_normal ?_)
    refine reg0 mix (by kernel_rfl) ?_
    exact run_nil (loopR_next 1 (wkTo [4, 11, 12, 14, 15, 16, 19] [] (by kernel_rfl)) (by omega) (by omega))
  · refine rCondT true (by kernel_rfl) rfl ?_
    refine rBlock ?_
    refine reg mix [] [pf (by omega : (0 : Int) ≤ 1 ∧ (1 : Int) < 4), pf (by omega : (0 : Int) ≤ 1 ∧ (1 : Int) < 4)] (by kernel_rfl) ?_
    refine rCondF (((F == 0) && (mask l t v k).b) && !M.b) (by kernel_rfl) (step_false q1) ?_
    refine run_nil (blockR_normal ?_)
    refine reg0 mix (by kernel_rfl) ?_
    exact run_nil (loopR_next 2 (wkTo [4, 11, 12, 14, 15, 16, 19] [] (by kernel_rfl)) (by omega) (by omega))
  · refine rCondT true (by kernel_rfl) rfl ?_
    refine rBlock ?_
    refine reg mix [] [pf (by omega : (0 : Int) ≤ 2 ∧ (2 : Int) < 4), pf (by omega : (0 : Int) ≤ 2 ∧ (2 : Int) < 4)] (by kernel_rfl) ?_
    refine rCondF (((F == 0) && (mask l t v k).c) && !M.c) (by kernel_rfl) (step_false q2) ?_
    refine run_nil (blockR_normal ?_)
    refine reg0 mix (by kernel_rfl) ?_
    exact run_nil (loopR_next 3 (wkTo [4, 11, 12, 14, 15, 16, 19] [] (by kernel_rfl)) (by omega) (by omega))
  · refine rCondT true (by kernel_rfl) rfl ?_
    refine rBlock ?_
    refine reg mix [] [pf (by omega : (0 : Int) ≤ 3 ∧ (3 : Int) < 4), pf (by omega : (0 : Int) ≤ 3 ∧ (3 : Int) < 4)] (by kernel_rfl) ?_
    refine rCondF (((F == 0) && (mask l t v k).d) && !M.d) (by kernel_rfl) (step_false q3) ?_
    refine run_nil (blockR_normal ?_)
    refine reg0 mix (by kernel_rfl) ?_
    exact run_nil (loopR_next 4 (wkTo [4, 11, 12, 14, 15, 16, 19] [] (by kernel_rfl)) (by omega) (by omega))
  · refine rCondF false (by kernel_rfl) rfl ?_
    refine run_exit (loopR_exit (blockR_exit ?_))
    refine reg mix [] [pf eq26] (by kernel_rfl) ?_
    refine run_ret (ret_of (.v (vB ((true && mEq (mask l t v k) (mask l t v k)) && ((F == 0) || ((F == 1) && decide (later > 38399)))))) (by kernel_rfl) ?_)
    rw [m4_eq]
    rcases hF1 with h1 | ⟨h1, h2⟩
    · simp [h1]
    · simp [h1, h2]

end Go.Proofs.Yteefindpimnhdaa
