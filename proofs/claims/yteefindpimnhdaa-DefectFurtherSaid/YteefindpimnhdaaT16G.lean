import Derived.Test.YteefindpimnhdaaT16F
namespace Go.Proofs.Yteefindpimnhdaa
open Go.Sym
set_option linter.unusedVariables false
set_option linter.unusedSimpArgs false

theorem addSp_til {l : List Sp} {s : Sp} (h : ∀ x, x ∈ l → -1 ≤ x.til ∧ x.til ≤ 38399) (hs : -1 ≤ s.til ∧ s.til ≤ 38399) : ∀ x, x ∈ addSp l s → -1 ≤ x.til ∧ x.til ≤ 38399 := by
  intro x hx
  unfold addSp at hx
  split at hx
  · rcases List.mem_or_eq_of_mem_set hx with hx | rfl
    · exact h x hx
    · exact hs
  · rcases List.mem_append.1 hx with hx | hx
    · exact h x hx
    · simp only [List.mem_singleton] at hx; subst hx; exact hs
theorem chgF_til {l : List Df} (hv : valid l = true) (t one two : Int) : ∀ n, n + 1 ≤ (bs l).length → ∀ x, x ∈ chgF l t one two (bs l) n → -1 ≤ x.til ∧ x.til ≤ 38399 := by
  intro n
  induction n with
  | zero => intro _ x hx; cases hx
  | succ n ih =>
    intro hn
    have := bs_get hv (show n + 1 < (bs l).length by omega)
    simp only [chgF]
    split
    · exact addSp_til (ih (by omega)) ⟨by simp only; omega, by simp only; omega⟩
    · exact ih (by omega)
def joinR (l : List Sp) (m : Int) : Bool := decide ((l.length : Int) > 0) && ((lastSp l).til == IntKind.i64.wrap (m - 1))
theorem joinR_eq {l : List Sp} {m x : Int} (h : ∀ x, x ∈ l → -1 ≤ x.til ∧ x.til ≤ 38399) (h0 : 0 ≤ m) (h1 : m ≤ 38400) : joinR l m = joins l ⟨m, x⟩ := by
  unfold joinR joins
  by_cases hl : l.length = 0
  · have : ¬ ((l.length : Int) > 0) := by omega
    simp [hl]
  · have hb : -1 ≤ (lastSp l).til ∧ (lastSp l).til ≤ 38399 := by
      refine h _ ?_
      have hi : l.length - 1 < l.length := by omega
      rw [lastSp, getSp hi]; exact List.getElem_mem hi
    rw [w64 (m - 1) (by omega) (by omega), w64 ((lastSp l).til + 1) (by omega) (by omega)]
    congr 1
    rw [Bool.eq_iff_iff]
    simp
    omega

structure R1 where
  m : Int
  out : List Sp
structure R2 where
  i : Int
  nx : Int
def r1S (l : List Df) (t one two : Int) (x : R1) : S := mkS 115 [(0, .b (.v (lDf l))), (1, .b (.v (vI t))), (2, .b (.v (vI one))), (3, .b (.v (vI two))), (10, .b (.v (.c (.row 4 x.out.length)))), (11, .b (.v (vI x.m)))] [(4, .row 39 2 (rowSp x.out))]
def r2S (l : List Df) (t one two : Int) (x : R1) (y : R2) : S := mkS 115 [(0, .b (.v (lDf l))), (1, .b (.v (vI t))), (2, .b (.v (vI one))), (3, .b (.v (vI two))), (10, .b (.v (.c (.row 4 x.out.length)))), (11, .b (.v (vI x.m))), (12, .b (.v (vI y.nx))), (13, .b (.v (vI y.i)))] [(4, .row 39 2 (rowSp x.out))]

theorem f14 (l : List Df) (t one two : Int) : FCall Try.prog 14 [lDf l, vI t, vI one, vI two] (chgR l t one two) := by
  refine fcall_of Try.func14 rfl (by kernel_rfl) (fun B hB => ?_)
  refine reg0 mix (by kernel_rfl) ?_
  refine regC mix [(1, con (f16 l)), (5, con (f21 t)), (10, con (f22 one)), (15, con (f22 two))] (by kernel_rfl) ?_
  have e : askOk l t one two = !(((!valid l || !tel t) || !mom one) || !mom two) := by
    unfold askOk; cases valid l <;> cases tel t <;> cases mom one <;> cases mom two <;> rfl
  refine rCond (((!valid l || !tel t) || !mom one) || !mom two) (by kernel_rfl) (fun h => ?_) (fun h => ?_)
  · refine reg0 mix (by kernel_rfl) ?_
    refine run_weaken (wk_nilLst 8 2 (elSp []) (by kernel_rfl)) ?_ (List.cons_ne_nil _ _)
    refine run_ret (ret_of (.tup [lSp [], vI 1]) (by kernel_rfl) ?_)
    rw [chgR, e, h]; rfl
  rw [h] at e
  have hv : valid l = true := by simp [askOk] at e; exact e.1.1.1
  have hl := valid_len hv
  have hbl := bs_len l
  refine reg0 mix (by kernel_rfl) ?_
  refine run_weaken (wk_nilRow 10 4 39 2 (by kernel_rfl) (by kernel_rfl) (by omega)) ?_ (List.cons_ne_nil _ _)
  refine reg0 mix (by kernel_rfl) ?_
  refine rBlock ?_
  have z0 : 0 < (bs l).length ∧ (bs l).getD 0 0 = 0 := by
    have h2 := bs_two l
    obtain ⟨i, hi, he⟩ := srt_has (zs := bord l l.length) (x := 0) (mem_bord.2 (.inl rfl))
    have hi' : i < (bs l).length := hi
    have he' : (bs l).getD i 0 = 0 := he
    have a1 := bs_mono (l := l) (i := 0) (j := i) (by omega) hi'
    have a2 := bs_get hv (show 0 < (bs l).length by omega)
    omega
  refine rLoop (r1S l t one two) (fun x => ∃ k, k < (bs l).length ∧ x.m = (bs l).getD k 0 ∧ x.out = chgF l t one two (bs l) k) (fun x => (38400 - x.m).toNat) ⟨0, []⟩ (wkTo [0, 1, 2, 3, 10, 11] [] (by kernel_rfl)) ⟨0, z0.1, z0.2.symm, rfl⟩ ?_
  rintro ⟨m, out⟩ ⟨k, hk, hm, hout⟩
  simp only at hm hout
  have hmb := bs_get hv hk
  rw [← hm] at hmb
  have hol : out.length ≤ 1000 := by have := chgF_len l t one two (bs l) k; rw [← hout] at this; omega
  refine reg0 mix (by kernel_rfl) ?_
  refine rCond (decide (m ≤ 38399)) (by kernel_rfl) (fun hc => ?_) (fun hc => ?_)
  · have hc : m ≤ 38399 := of_decide_eq_true hc
    obtain ⟨hk1, hnx⟩ := nxt_bs hk (by omega) (by omega)
    rw [← hm] at hnx
    have hn2 := bs_strict (l := l) (i := k) (j := k + 1) (by omega) hk1
    rw [← hm] at hn2
    have hn3 := bs_get hv hk1
    refine rBlock ?_
    refine reg0 mix (by kernel_rfl) ?_
    refine reg0 mix (by kernel_rfl) ?_
    refine rBlock ?_
    refine rLoop (r2S l t one two ⟨m, out⟩) (fun y => 0 ≤ y.i ∧ y.i ≤ l.length ∧ y.nx = nxt l m y.i.toNat) (fun y => (l.length - y.i).toNat) ⟨0, 38400⟩ (wkTo [0, 1, 2, 3, 10, 11, 12, 13] [] (by kernel_rfl)) ⟨by simp, by simp, by simp [nxt]⟩ ?_
    rintro ⟨i, nx⟩ ⟨hi0, hi1, hnn⟩
    simp only at hi0 hi1 hnn
    refine reg0 mix (by kernel_rfl) ?_
    refine rCond (decide (i < (l.length : Int))) (by kernel_rfl) (fun hc2 => ?_) (fun hc2 => ?_)
    · have hc2 : i < l.length := of_decide_eq_true hc2
      have e1 : IntKind.i64.wrap (i + 1) = i + 1 := w64 _ (by omega) (by omega)
      have hd := okDf_bounds (get_ok hv (show i.toNat < l.length by omega))
      have e2 : IntKind.i64.wrap ((l.getD i.toNat zDf).til + 1) = (l.getD i.toNat zDf).til + 1 := w64 _ (by omega) (by omega)
      have hst := nxt_step (l := l) (m := m) (k := i.toNat) (by omega)
      refine rJoin (fun nx' => r2S l t one two ⟨m, out⟩ ⟨i, nx'⟩) (fun nx' => nx' = nxt l m (i + 1).toNat) (List.cons_ne_nil _ _) ?_ ?_
      · refine rBlock ?_
        refine reg mix [] [pf (⟨hi0, hc2⟩ : 0 ≤ i ∧ i < (l.length : Int))] (by kernel_rfl) ?_
        refine rJoin (fun nx' => r2S l t one two ⟨m, out⟩ ⟨i, nx'⟩) (fun nx' => nx' = step1 m nx (l.getD i.toNat zDf)) (List.cons_ne_nil _ _) ?_ ?_
        · refine rCond (decide ((l.getD i.toNat zDf).frm > m)) (by kernel_rfl) (fun h => ?_) (fun h => ?_)
          · refine reg mix [] [pf (⟨hi0, hc2⟩ : 0 ≤ i ∧ i < (l.length : Int))] (by kernel_rfl) ?_
            exact run_nil (joined (if (l.getD i.toNat zDf).frm < nx then (l.getD i.toNat zDf).frm else nx) (by rw [step1, if_pos (of_decide_eq_true h)]) (wkTo [0, 1, 2, 3, 10, 11, 12, 13] [] (by kernel_rfl)))
          · exact run_nil (joined nx (by rw [step1, if_neg (of_decide_eq_false h)]) (wkTo [0, 1, 2, 3, 10, 11, 12, 13] [] (by kernel_rfl)))
        · intro n1 hn1
          refine reg mix [] [pf (⟨hi0, hc2⟩ : 0 ≤ i ∧ i < (l.length : Int))] (by kernel_rfl) ?_
          refine rCond (decide ((l.getD i.toNat zDf).til ≥ m)) (by kernel_rfl) (fun h => ?_) (fun h => ?_)
          · refine reg mix [] [pf (⟨hi0, hc2⟩ : 0 ≤ i ∧ i < (l.length : Int))] (by kernel_rfl) ?_
            refine run_nil (blockR_normal (run_nil (joined (if IntKind.i64.wrap ((l.getD i.toNat zDf).til + 1) < n1 then IntKind.i64.wrap ((l.getD i.toNat zDf).til + 1) else n1) ?_ (wkTo [0, 1, 2, 3, 10, 11, 12, 13] [] (by kernel_rfl)))))
            rw [show (i + 1).toNat = i.toNat + 1 by omega, hst, ← hnn, ← hn1, step2, if_pos (of_decide_eq_true h), e2]
          · refine run_nil (blockR_normal (run_nil (joined n1 ?_ (wkTo [0, 1, 2, 3, 10, 11, 12, 13] [] (by kernel_rfl)))))
            rw [show (i + 1).toNat = i.toNat + 1 by omega, hst, ← hnn, ← hn1, step2, if_neg (of_decide_eq_false h)]
      · intro nx' hx
        refine reg0 mix (by kernel_rfl) ?_
        refine run_nil (loopR_next (⟨IntKind.i64.wrap (i + 1), nx'⟩ : R2) (wkTo [0, 1, 2, 3, 10, 11, 12, 13] [] (by kernel_rfl)) ?_ ?_)
        · rw [e1]; exact ⟨by simp only; omega, by simp only; omega, hx⟩
        · simp only [e1]; omega
    have hc2 : ¬ i < l.length := of_decide_eq_false hc2
    rw [show i.toNat = l.length by omega, hnx] at hnn
    refine run_exit (loopR_exit (blockR_exit ?_))
    refine reg mix [(4, hcon (f23 l t m one hv)), (9, hcon (f23 l t m two hv))] [pf (f23 l t m one hv), pf (f23 l t m two hv), pf eq26] (by kernel_rfl) ?_
    refine rJoin (fun out' => r2S l t one two ⟨m, out'⟩ ⟨i, nx⟩) (fun out' => out' = chgF l t one two (bs l) (k + 1)) (List.cons_ne_nil _ _) ?_ ?_
    · refine rCond (!((mask l t m one).a == (mask l t m two).a && ((mask l t m one).b == (mask l t m two).b && ((mask l t m one).c == (mask l t m two).c && ((mask l t m one).d == (mask l t m two).d && true))))) (by kernel_rfl) (fun h => ?_) (fun h => ?_)
      · rw [m4_ne] at h
        have hd : diff l t one two m = true := h
        have hj := joinR_eq (l := out) (m := m) (x := nx - 1) (by rw [hout]; exact chgF_til hv t one two k (by omega)) (by omega) (by omega)
        have ex : IntKind.i64.wrap (nx - 1) = nx - 1 := w64 _ (by omega) (by omega)
        have ef : chgF l t one two (bs l) (k + 1) = addSp out ⟨m, IntKind.i64.wrap (nx - 1)⟩ := by
          rw [chgF, ← hm, if_pos hd, ← hout, ← hnn, ex]
        rw [← ex] at hj
        have ew : (out.length : Int) > 0 → IntKind.i64.wrap ((out.length : Int) - 1) = (out.length : Int) - 1 := fun h => w64 _ (by omega) (by omega)
        have en : (out.length : Int) > 0 → (IntKind.i64.wrap ((out.length : Int) - 1)).toNat = out.length - 1 := fun h => by rw [ew h]; omega
        have g0 : (out.length : Int) > 0 → (0 ≤ IntKind.i64.wrap ((out.length : Int) - 1) ∧ IntKind.i64.wrap ((out.length : Int) - 1) < (out.length : Int)) ∧ out.length = (rowSp out).length := fun h => ⟨by rw [ew h]; omega, (rowSp_len out).symm⟩
        have g1 : (out.length : Int) > 0 → (out.length = (rowSp out).length ∧ (IntKind.i64.wrap ((out.length : Int) - 1)).toNat < out.length) ∧ (rowSp out).getD (IntKind.i64.wrap ((out.length : Int) - 1)).toNat [] = encSp (lastSp out) := fun h => by
          rw [en h]
          exact ⟨⟨(rowSp_len out).symm, by omega⟩, rowSp_get (by omega)⟩
        refine reg mix [] [pf (rowSp_len out).symm] (by kernel_rfl) ?_
        refine regI mix [(8, .frz 0 (fun _ => encSp (lastSp out)))] [pf (fun h : decide ((out.length : Int) > 0) = true => g0 (of_decide_eq_true h)), pf (fun _ : decide ((out.length : Int) > 0) = true => (rowSp_len out).symm), pf (fun h : decide ((out.length : Int) > 0) = true => g1 (of_decide_eq_true h))] (by kernel_rfl) ?_
        refine rCond (joinR out m) (by kernel_rfl) (fun h => ?_) (fun h => ?_)
        · have hp : (out.length : Int) > 0 := by simp [joinR] at h; omega
          rw [hj] at h
          obtain ⟨a1, a2⟩ := addSp_hit h
          rw [← en hp] at a2
          refine reg mix [(7, .frz 0 (fun _ => encSp (lastSp out)))] [pf (g0 hp), pf (rowSp_len out).symm, pf (g1 hp)] (by kernel_rfl) ?_
          refine run_nil (joined (addSp out ⟨m, IntKind.i64.wrap (nx - 1)⟩) ef.symm ?_)
          unfold r2S
          rw [a1, ← a2]
          exact wkTo [0, 1, 2, 3, 10, 11, 12, 13] [] (by kernel_rfl)
        · rw [hj] at h
          obtain ⟨a1, a2⟩ := addSp_miss h
          refine reg mix [] [pf (rowSp_len out).symm, pf (by omega : (out.length + 1) * 17 ≤ 140737488355328), pf (rfl : 1 = [encSp ⟨m, IntKind.i64.wrap (nx - 1)⟩].length)] (by kernel_rfl) ?_
          refine run_nil (joined (addSp out ⟨m, IntKind.i64.wrap (nx - 1)⟩) ef.symm ?_)
          unfold r2S
          rw [a1, ← a2]
          exact wkTo [0, 1, 2, 3, 10, 11, 12, 13] [110] (by kernel_rfl)
      · rw [m4_ne] at h
        have hd : diff l t one two m = false := h
        refine run_nil (joined out ?_ (wkTo [0, 1, 2, 3, 10, 11, 12, 13] [] (by kernel_rfl)))
        rw [chgF, ← hm, hd]
        exact hout
    · intro out' ho
      refine reg0 mix (by kernel_rfl) ?_
      refine run_nil (blockR_normal ?_)
      refine reg0 mix (by kernel_rfl) ?_
      have em : IntKind.i64.wrap (IntKind.i64.wrap (nx - 1) + 1) = nx := by
        rw [w64 (nx - 1) (by omega) (by omega), w64 _ (by omega) (by omega)]; omega
      refine run_nil (loopR_next (⟨IntKind.i64.wrap (IntKind.i64.wrap (nx - 1) + 1), out'⟩ : R1) (wkTo [0, 1, 2, 3, 10, 11] [] (by kernel_rfl)) ?_ ?_)
      · rw [em]; exact ⟨k + 1, hk1, hnn, ho⟩
      · simp only [em]; omega
  have hc : ¬ m ≤ 38399 := of_decide_eq_false hc
  have hk2 : k = (bs l).length - 1 := by
    by_cases h : k + 1 < (bs l).length
    · have a1 := bs_strict (l := l) (i := k) (j := k + 1) (by omega) h
      have a2 := bs_get hv h
      omega
    · omega
  refine run_exit (loopR_exit (blockR_exit ?_))
  refine reg0 mix (by kernel_rfl) ?_
  refine frzRow hB 8 4 out.length 39 2 (rowSp out) (elSp out) [9] [] (by kernel_rfl) (by kernel_rfl) (rowSp_len _).symm ?_ (by kernel_rfl) ?_ (List.cons_ne_nil _ _)
  · intro i hi
    rw [rowSp_get hi]; rfl
  refine run_ret (ret_of (.tup [lSp out, vI 0]) (by kernel_rfl) ?_)
  rw [chgR, e, hout, hk2]; rfl

end Go.Proofs.Yteefindpimnhdaa
