import Derived.Test.YteefindpimnhdaaT16N
namespace Go.Proofs.Yteefindpimnhdaa
open Go.Sym
set_option linter.unusedVariables false
set_option linter.unusedSimpArgs false

def lo3 (a b c : Int) : Int := if c < (if b < a then b else a) then c else (if b < a then b else a)
def hi3 (a b c : Int) : Int := if c > (if b > a then b else a) then c else (if b > a then b else a)
def mid3 (a b c : Int) : Int := if (if c < (if b > a then b else a) then c else (if b > a then b else a)) > (if b < a then b else a) then (if c < (if b > a then b else a) then c else (if b > a then b else a)) else (if b < a then b else a)
theorem lo_mid (a b c : Int) : lo3 a b c ≤ mid3 a b c := by
  unfold lo3 mid3
  repeat' split
  all_goals omega
theorem mid_hi (a b c : Int) : mid3 a b c ≤ hi3 a b c := by
  unfold hi3 mid3
  repeat' split
  all_goals omega
theorem cov_between {l : List Df} {t v a b c x : Int} (h1 : a ≤ b) (h2 : b ≤ c) (h : cov l t v a x = cov l t v c x) : cov l t v a x = cov l t v b x ∧ cov l t v b x = cov l t v c x := by
  have m1 := @cov_mono l t v a b x h1
  have m2 := @cov_mono l t v b c x h2
  revert m1 m2 h
  cases cov l t v a x <;> cases cov l t v b x <;> cases cov l t v c x <;> simp
theorem diff_between {l : List Df} {t a b c x : Int} (h1 : a ≤ b) (h2 : b ≤ c) : diff l t a c x = (diff l t a b x || diff l t b c x) := by
  unfold diff
  rw [Bool.eq_iff_iff]
  simp only [Bool.or_eq_true, Bool.not_eq_true', decide_eq_false_iff_not]
  constructor
  · intro h
    by_cases h3 : mask l t x a = mask l t x b
    · right; rw [← h3]; exact h
    · exact .inl h3
  · intro h he
    simp only [mask, M4.mk.injEq] at he
    have k0 := cov_between h1 h2 he.1
    have k1 := cov_between h1 h2 he.2.1
    have k2 := cov_between h1 h2 he.2.2.1
    have k3 := cov_between h1 h2 he.2.2.2
    rcases h with h | h
    · exact h (by simp only [mask, k0.1, k1.1, k2.1, k3.1])
    · exact h (by simp only [mask, k0.2, k1.2, k2.2, k3.2])
theorem inside_out {l : List Sp} {b m : Int} (h : GapOk l b) (hm : m < 0 ∨ b ≤ m) : inside l m = false := by
  rw [Bool.eq_false_iff]
  intro ha
  obtain ⟨s, hs, hp⟩ := List.any_eq_true.1 ha
  have := h.2 s hs
  simp only [Bool.and_eq_true, decide_eq_true_iff] at hp
  omega
theorem inside_between {l : List Df} (hv : valid l = true) (t a b c m : Int) (h1 : a ≤ b) (h2 : b ≤ c) : inside (chgs l t a c) m = (inside (chgs l t a b) m || inside (chgs l t b c) m) := by
  obtain ⟨x1, y1⟩ := chgs_ok hv t a c
  obtain ⟨x2, y2⟩ := chgs_ok hv t a b
  obtain ⟨x3, y3⟩ := chgs_ok hv t b c
  by_cases hm : m < 0 ∨ 38400 ≤ m
  · rw [inside_out x1 hm, inside_out x2 hm, inside_out x3 hm]; rfl
  · rw [y1 m (by omega) (by omega), y2 m (by omega) (by omega), y3 m (by omega) (by omega), diff_between h1 h2]

theorem f8 (l : List Df) (t one two three m : Int) : FCall Try.prog 8 [lDf l, vI t, vI one, vI two, vI three, vI m] (.v (vB true)) := by
  refine fcall_of Try.func8 rfl (by kernel_rfl) (fun B hB => ?_)
  refine reg0 mix (by kernel_rfl) ?_
  refine regC mix [(0, con f9)] (by kernel_rfl) ?_
  refine reg0 mix (by kernel_rfl) ?_
  refine rCond (decide ((l.length : Int) > 20)) (by kernel_rfl) (fun h => ?_) (fun h => ?_)
  · refine reg0 mix (by kernel_rfl) ?_
    exact run_ret (ret_of (.v (vB true)) (by kernel_rfl) rfl)
  have hl : l.length ≤ 1000000 := by have := of_decide_eq_false h; omega
  refine reg0 mix (by kernel_rfl) ?_
  refine reg0 mix (by kernel_rfl) ?_
  refine regC mix [(4, con (g13 l t (lo3 one two three) (mid3 one two three) hl))] (by kernel_rfl) ?_
  refine regC mix [(4, con (g13 l t (mid3 one two three) (hi3 one two three) hl))] (by kernel_rfl) ?_
  refine regC mix [(4, con (g13 l t (lo3 one two three) (hi3 one two three) hl))] (by kernel_rfl) ?_
  refine reg0 mix (by kernel_rfl) ?_
  have q1 := lo_mid one two three
  have q2 := mid_hi one two three
  refine rCond (((askE l t (lo3 one two three) (mid3 one two three) != 0) || (askE l t (mid3 one two three) (hi3 one two three) != 0)) || (askE l t (lo3 one two three) (hi3 one two three) != 0)) (by kernel_rfl) (fun h => ?_) (fun h => ?_)
  · refine reg0 mix (by kernel_rfl) ?_
    refine run_ret (ret_of (.v (vB (true && ((askE l t (lo3 one two three) (mid3 one two three) == 1) || (askE l t (mid3 one two three) (hi3 one two three) == 1))))) (by kernel_rfl) ?_)
    generalize lo3 one two three = a at *
    generalize mid3 one two three = b at *
    generalize hi3 one two three = c at *
    cases h1 : askOk l t a b
    · simp [askE, h1]
    · cases h2 : askOk l t b c
      · simp [askE, h2]
      · have h3 : askOk l t a c = true := by
          rw [askOk_iff] at h1 h2 ⊢
          exact ⟨h1.1, h1.2.1, h1.2.2.1, h2.2.2.2⟩
        simp [askE, h1, h2, h3] at h
  have e1 := spansV_len l t (lo3 one two three) (mid3 one two three)
  have e2 := spansV_len l t (mid3 one two three) (hi3 one two three)
  have e3 := spansV_len l t (lo3 one two three) (hi3 one two three)
  refine regC mix [(4, con (f18 (spansV l t (lo3 one two three) (hi3 one two three)) m (by omega))), (7, con (f18 (spansV l t (lo3 one two three) (mid3 one two three)) m (by omega))), (11, con (f18 (spansV l t (mid3 one two three) (hi3 one two three)) m (by omega)))] (by kernel_rfl) ?_
  refine run_ret (ret_of (.v (vB (true && (inside (spansV l t (lo3 one two three) (hi3 one two three)) m == (inside (spansV l t (lo3 one two three) (mid3 one two three)) m || inside (spansV l t (mid3 one two three) (hi3 one two three)) m))))) (by kernel_rfl) ?_)
  generalize lo3 one two three = a at *
  generalize mid3 one two three = b at *
  generalize hi3 one two three = c at *
  have h1 : askOk l t a b = true := by
    cases hh : askOk l t a b
    · simp [askE, hh] at h
    · rfl
  have h2 : askOk l t b c = true := by
    cases hh : askOk l t b c
    · simp [askE, hh] at h
    · rfl
  have h3 : askOk l t a c = true := by
    cases hh : askOk l t a c
    · simp [askE, hh] at h
    · rfl
  have := inside_between (askOk_valid h1) t a b c m q1 q2
  simp [spansV, h1, h2, h3, this]

end Go.Proofs.Yteefindpimnhdaa
