import Derived.Test.YtaaplpbjjnechaaT35P
namespace Go.Proofs.Ytaaplpbjjnechaa
open Go.Sym
set_option linter.unusedVariables false
set_option linter.unusedSimpArgs false

/-! ### The laws: frames -/
theorem cN_cons (d : De) (l : List De) (p : Pc) : cN (d :: l) p = (if d.pl = p then 1 else 0) + cN l p := by
  unfold cN
  rw [List.filter_cons]
  by_cases h : d.pl = p
  · simp [h]; omega
  · simp [h]
theorem cN_zero {l : List De} {p : Pc} (h : ∀ d, d ∈ l → d.pl ≠ p) : cN l p = 0 := by
  unfold cN
  rw [List.filter_eq_nil_iff.2 fun d hd => by simpa using h d hd]; rfl
theorem cN_one : ∀ {l : List De} {d : De}, (l.Pairwise fun a b => ltP a.pl b.pl = true) → d ∈ l → cN l d.pl = 1
  | x :: l, d, hs, hd => by
    rw [cN_cons]
    have hx := fun y hy => List.rel_of_pairwise_cons hs (a' := y) hy
    rcases List.mem_cons.1 hd with rfl | hd
    · rw [if_pos rfl, cN_zero fun y hy e => by have := hx y hy; rw [e, ltP_irrefl] at this; cases this]; rfl
    · have hne : ¬ x.pl = d.pl := fun e => by
        have := hx d hd
        rw [e, ltP_irrefl] at this; cases this
      rw [if_neg hne, cN_one (List.Pairwise.of_cons hs) hd]; rfl
def oneL (l : List De) : List Ta := l.map fun d => oneT d.pl
theorem rep_one {l : List De} (hs : l.Pairwise fun a b => ltP a.pl b.pl = true) : Rep (oneL l) (cN l) where
  strict := by rw [oneL, List.pairwise_map]; exact hs
  mem := fun x hx => by
    obtain ⟨d, hd, rfl⟩ := List.mem_map.1 hx
    rw [oneT_pl, cN_one hs hd]
    exact ⟨rfl, Int.le_refl _⟩
  all := fun p hp => by
    by_cases h : ∃ d, d ∈ l ∧ d.pl = p
    · obtain ⟨d, hd, e⟩ := h
      exact ⟨oneT d.pl, List.mem_map.2 ⟨d, hd, rfl⟩, e⟩
    · rw [cN_zero fun d hd e => h ⟨d, hd, e⟩] at hp; omega
theorem acc_strict (t f a : Int) (m : M4) (v : V4) (n : Nat) : (acc t f a m v n).Pairwise fun a b => ltP a.pl b.pl = true := by
  rw [acc, List.pairwise_map]
  refine (List.Pairwise.filter _ List.pairwise_lt_range).imp fun {i j} hij => ?_
  rw [lt_iff]
  refine .inr ⟨rfl, .inl ?_⟩
  show ((i : Nat) : Int) < ((j : Nat) : Int)
  omega
theorem acc_pre (t f a : Int) (m : M4) (v : V4) (i k : Nat) : ∃ r, acc t f a m v (i + k) = acc t f a m v i ++ r := by
  induction k with
  | zero => exact ⟨[], by simp⟩
  | succ k ih =>
    obtain ⟨r, hr⟩ := ih
    rw [← Nat.add_assoc, acc_succ, hr, List.append_assoc]
    exact ⟨_, rfl⟩
theorem acc_at {t f a : Int} {m : M4} {v : V4} {i : Nat} (hi : i < 4) (hm : m.at i = true) : (acc t f a m v i).length < (acc t f a m v 4).length ∧ (acc t f a m v 4).getD (acc t f a m v i).length zDe = dAt t f a v i := by
  obtain ⟨r, hr⟩ := acc_pre t f a m v (i + 1) (3 - i)
  rw [show i + 1 + (3 - i) = 4 by omega, acc_succ t f a m v i, hm, if_pos rfl] at hr
  rw [hr]
  simp [List.getD_eq_getElem?_getD]
theorem acc_mem {t f a : Int} {m : M4} {v : V4} {n : Nat} {d : De} (h : d ∈ acc t f a m v n) : ∃ i, i < n ∧ d = dAt t f a v i := by
  rw [acc] at h
  obtain ⟨i, hi, rfl⟩ := List.mem_map.1 h
  exact ⟨i, by simpa using (List.mem_filter.1 hi).1, rfl⟩
def fr3 (t f a : Int) (m : M4) (v : V4) (L : List De) (n i : Int) : S := mkS 109 [(0, .b (.v (vI t))), (1, .b (.v (vI f))), (2, .b (.v (vI a))), (8, .b (.v (.c (.kptr (encM m) 0)))), (9, .b (.v (.c (.kptr (encV v) 0)))), (11, .b (.v (vB true))), (12, .b (.v (lDe L))), (14, .b (.v (vI n))), (15, .b (.v (vI i)))] []
def fs3 (t f : Int) (L : List De) (c : List Ta) (i : Int) : S := mkS 109 [(0, .b (.v (vI t))), (1, .b (.v (vI f))), (11, .b (.v (vB true))), (12, .b (.v (lDe L))), (16, .b (.v (lTa c))), (18, .b (.v (vI i)))] []
theorem f3 (t f a : Int) (m : M4) (v : V4) : FCall Try.prog 3 [vI t, vI f, vI a, .agg (encM m), .agg (encV v)] (.v (vB true)) := by
  have c10 := f10 t f a m v
  refine fcall_of Try.func3 rfl (by kernel_rfl) (fun B hB => ?_)
  refine reg mix [(0, .imm), (1, .imm)] [] (by kernel_rfl) ?_
  refine regC mix [(0, con f9)] (by kernel_rfl) ?_
  by_cases hk : okL t f a v = true
  case neg =>
    rw [show lisR t f a m v = ([], 1) by rw [lisR, if_neg hk]] at c10
    refine regC mix [(5, con c10)] (by kernel_rfl) ?_
    refine reg0 mix (by kernel_rfl) ?_
    refine rCondT true (by kernel_rfl) rfl ?_
    refine reg0 mix (by kernel_rfl) ?_
    exact run_ret (ret_of (.v (vB true)) (by kernel_rfl) rfl)
  rw [show lisR t f a m v = (acc t f a m v 4, 0) by rw [lisR, if_pos hk]] at c10
  obtain ⟨L, hL⟩ : ∃ L, L = acc t f a m v 4 := ⟨_, rfl⟩
  have hLl : L.length ≤ 4 := by rw [hL]; exact acc_le t f a m v 4
  have hstr : L.Pairwise fun a b => ltP a.pl b.pl = true := by rw [hL]; exact acc_strict t f a m v 4
  have hall : L.all okDe = true := List.all_eq_true.2 fun d hd => by
    rw [hL] at hd
    obtain ⟨i, hi, rfl⟩ := acc_mem hd
    exact List.all_eq_true.1 hk i (by simpa using hi)
  have hdat : ∀ j, j < L.length → (deAt L j).t = t ∧ (deAt L j).f = f := fun j hj => by
    have : deAt L j ∈ L := by simp [deAt, List.getD_eq_getElem?_getD, hj]
    rw [hL] at this
    obtain ⟨i, _, e⟩ := acc_mem this
    rw [← hL] at e
    rw [e]; exact ⟨rfl, rfl⟩
  have c11 := f11 L
  rw [show cntR L = (oneL L, 0) by rw [cntR, if_neg (by omega), if_pos hall, (rep_one hstr).eq (cnt_rep L (by omega))]] at c11
  rw [← hL] at c10
  refine regC mix [(5, con c10)] (by kernel_rfl) ?_
  refine reg0 mix (by kernel_rfl) ?_
  refine rCondF false (by kernel_rfl) rfl ?_
  refine reg0 mix (by kernel_rfl) ?_
  refine reg0 mix (by kernel_rfl) ?_
  refine rBlock ?_
  refine rLoop (fun i : Nat => fr3 t f a m v L (acc t f a m v i).length i) (fun i => i ≤ 4) (fun i => 4 - i) 0 (wkTo [0, 1, 2, 8, 9, 11, 12, 14, 15] [] (by kernel_rfl)) (by omega) ?_
  rintro i h1
  refine reg0 mix (by kernel_rfl) ?_
  rcases (by omega : i = 0 ∨ i = 1 ∨ i = 2 ∨ i = 3 ∨ i = 4) with rfl | rfl | rfl | rfl | rfl
  · refine rCondT true (by kernel_rfl) rfl ?_
    have h4 : (0 : Int) ≤ 0 ∧ (0 : Int) < 4 := by omega
    have hsu := acc_succ t f a m v 0
    have hle := acc_le t f a m v 0
    refine rJoin (fun _ : Unit => fr3 t f a m v L (acc t f a m v 1).length 0) (fun _ => True) (List.cons_ne_nil _ _) ?_ ?_
    · refine rBlock ?_
      refine reg mix [] [pf h4] (by kernel_rfl) ?_
      refine rCond (!m.a) (by kernel_rfl) (fun hm => ?_) (fun hm => ?_)
      · have e : acc t f a m v 1 = acc t f a m v 0 := by rw [hsu, if_neg (show ¬ m.at 0 = true by rw [show m.at 0 = false from (by simpa using hm : m.a = false)]; exact Bool.false_ne_true), List.append_nil]
        refine run_exit (blockR_exit (run_nil (joined () trivial ?_)))
        rw [e]
        exact wkTo [0, 1, 2, 8, 9, 11, 12, 14, 15] [] (by kernel_rfl)
      have hmt : m.at 0 = true := (by simpa using hm : m.a = true)
      have e : acc t f a m v 1 = acc t f a m v 0 ++ [dAt t f a v 0] := by rw [hsu, if_pos hmt]
      obtain ⟨hlt, hat⟩ := acc_at (t := t) (f := f) (a := a) (v := v) (m := m) (i := 0) (by omega) hmt
      rw [← hL] at hlt hat
      have hq : (!decide (((acc t f a m v 0).length : Int) ≥ (L.length : Int))) = true → 0 ≤ ((acc t f a m v 0).length : Int) ∧ ((acc t f a m v 0).length : Int) < (L.length : Int) := fun _ => by omega
      refine regI mix [] [pf hq, pf (fun _ : (!decide (((acc t f a m v 0).length : Int) ≥ (L.length : Int))) = true => h4), pf (fun _ : (!decide (((acc t f a m v 0).length : Int) ≥ (L.length : Int))) = true => eqDe)] (by kernel_rfl) ?_
      refine rCondF (decide (((acc t f a m v 0).length : Int) ≥ (L.length : Int)) || !eqDeB (L.getD (acc t f a m v 0).length zDe) (dAt t f a v 0)) (by kernel_rfl) ?_ ?_
      · rw [hat, eqDeB_iff.2 rfl, decide_eq_false (by omega)]; rfl
      refine reg0 mix (by kernel_rfl) ?_
      refine run_nil (blockR_normal (run_nil (joined () trivial ?_)))
      have en : (((acc t f a m v 1).length : Nat) : Int) = IntKind.i64.wrap (((acc t f a m v 0).length : Nat) + 1) := by
        rw [e, List.length_append, List.length_singleton, w64 _ (by omega) (by omega)]; rfl
      rw [en]
      exact wkTo [0, 1, 2, 8, 9, 11, 12, 14, 15] [] (by kernel_rfl)
    · rintro _ _
      refine reg0 mix (by kernel_rfl) ?_
      exact run_nil (loopR_next (1 : Nat) (wkTo [0, 1, 2, 8, 9, 11, 12, 14, 15] [] (by kernel_rfl)) (by omega) (by omega))
  · refine rCondT true (by kernel_rfl) rfl ?_
    have h4 : (0 : Int) ≤ 1 ∧ (1 : Int) < 4 := by omega
    have hsu := acc_succ t f a m v 1
    have hle := acc_le t f a m v 1
    refine rJoin (fun _ : Unit => fr3 t f a m v L (acc t f a m v 2).length 1) (fun _ => True) (List.cons_ne_nil _ _) ?_ ?_
    · refine rBlock ?_
      refine reg mix [] [pf h4] (by kernel_rfl) ?_
      refine rCond (!m.b) (by kernel_rfl) (fun hm => ?_) (fun hm => ?_)
      · have e : acc t f a m v 2 = acc t f a m v 1 := by rw [hsu, if_neg (show ¬ m.at 1 = true by rw [show m.at 1 = false from (by simpa using hm : m.b = false)]; exact Bool.false_ne_true), List.append_nil]
        refine run_exit (blockR_exit (run_nil (joined () trivial ?_)))
        rw [e]
        exact wkTo [0, 1, 2, 8, 9, 11, 12, 14, 15] [] (by kernel_rfl)
      have hmt : m.at 1 = true := (by simpa using hm : m.b = true)
      have e : acc t f a m v 2 = acc t f a m v 1 ++ [dAt t f a v 1] := by rw [hsu, if_pos hmt]
      obtain ⟨hlt, hat⟩ := acc_at (t := t) (f := f) (a := a) (v := v) (m := m) (i := 1) (by omega) hmt
      rw [← hL] at hlt hat
      have hq : (!decide (((acc t f a m v 1).length : Int) ≥ (L.length : Int))) = true → 0 ≤ ((acc t f a m v 1).length : Int) ∧ ((acc t f a m v 1).length : Int) < (L.length : Int) := fun _ => by omega
      refine regI mix [] [pf hq, pf (fun _ : (!decide (((acc t f a m v 1).length : Int) ≥ (L.length : Int))) = true => h4), pf (fun _ : (!decide (((acc t f a m v 1).length : Int) ≥ (L.length : Int))) = true => eqDe)] (by kernel_rfl) ?_
      refine rCondF (decide (((acc t f a m v 1).length : Int) ≥ (L.length : Int)) || !eqDeB (L.getD (acc t f a m v 1).length zDe) (dAt t f a v 1)) (by kernel_rfl) ?_ ?_
      · rw [hat, eqDeB_iff.2 rfl, decide_eq_false (by omega)]; rfl
      refine reg0 mix (by kernel_rfl) ?_
      refine run_nil (blockR_normal (run_nil (joined () trivial ?_)))
      have en : (((acc t f a m v 2).length : Nat) : Int) = IntKind.i64.wrap (((acc t f a m v 1).length : Nat) + 1) := by
        rw [e, List.length_append, List.length_singleton, w64 _ (by omega) (by omega)]; rfl
      rw [en]
      exact wkTo [0, 1, 2, 8, 9, 11, 12, 14, 15] [] (by kernel_rfl)
    · rintro _ _
      refine reg0 mix (by kernel_rfl) ?_
      exact run_nil (loopR_next (2 : Nat) (wkTo [0, 1, 2, 8, 9, 11, 12, 14, 15] [] (by kernel_rfl)) (by omega) (by omega))
  · refine rCondT true (by kernel_rfl) rfl ?_
    have h4 : (0 : Int) ≤ 2 ∧ (2 : Int) < 4 := by omega
    have hsu := acc_succ t f a m v 2
    have hle := acc_le t f a m v 2
    refine rJoin (fun _ : Unit => fr3 t f a m v L (acc t f a m v 3).length 2) (fun _ => True) (List.cons_ne_nil _ _) ?_ ?_
    · refine rBlock ?_
      refine reg mix [] [pf h4] (by kernel_rfl) ?_
      refine rCond (!m.c) (by kernel_rfl) (fun hm => ?_) (fun hm => ?_)
      · have e : acc t f a m v 3 = acc t f a m v 2 := by rw [hsu, if_neg (show ¬ m.at 2 = true by rw [show m.at 2 = false from (by simpa using hm : m.c = false)]; exact Bool.false_ne_true), List.append_nil]
        refine run_exit (blockR_exit (run_nil (joined () trivial ?_)))
        rw [e]
        exact wkTo [0, 1, 2, 8, 9, 11, 12, 14, 15] [] (by kernel_rfl)
      have hmt : m.at 2 = true := (by simpa using hm : m.c = true)
      have e : acc t f a m v 3 = acc t f a m v 2 ++ [dAt t f a v 2] := by rw [hsu, if_pos hmt]
      obtain ⟨hlt, hat⟩ := acc_at (t := t) (f := f) (a := a) (v := v) (m := m) (i := 2) (by omega) hmt
      rw [← hL] at hlt hat
      have hq : (!decide (((acc t f a m v 2).length : Int) ≥ (L.length : Int))) = true → 0 ≤ ((acc t f a m v 2).length : Int) ∧ ((acc t f a m v 2).length : Int) < (L.length : Int) := fun _ => by omega
      refine regI mix [] [pf hq, pf (fun _ : (!decide (((acc t f a m v 2).length : Int) ≥ (L.length : Int))) = true => h4), pf (fun _ : (!decide (((acc t f a m v 2).length : Int) ≥ (L.length : Int))) = true => eqDe)] (by kernel_rfl) ?_
      refine rCondF (decide (((acc t f a m v 2).length : Int) ≥ (L.length : Int)) || !eqDeB (L.getD (acc t f a m v 2).length zDe) (dAt t f a v 2)) (by kernel_rfl) ?_ ?_
      · rw [hat, eqDeB_iff.2 rfl, decide_eq_false (by omega)]; rfl
      refine reg0 mix (by kernel_rfl) ?_
      refine run_nil (blockR_normal (run_nil (joined () trivial ?_)))
      have en : (((acc t f a m v 3).length : Nat) : Int) = IntKind.i64.wrap (((acc t f a m v 2).length : Nat) + 1) := by
        rw [e, List.length_append, List.length_singleton, w64 _ (by omega) (by omega)]; rfl
      rw [en]
      exact wkTo [0, 1, 2, 8, 9, 11, 12, 14, 15] [] (by kernel_rfl)
    · rintro _ _
      refine reg0 mix (by kernel_rfl) ?_
      exact run_nil (loopR_next (3 : Nat) (wkTo [0, 1, 2, 8, 9, 11, 12, 14, 15] [] (by kernel_rfl)) (by omega) (by omega))
  · refine rCondT true (by kernel_rfl) rfl ?_
    have h4 : (0 : Int) ≤ 3 ∧ (3 : Int) < 4 := by omega
    have hsu := acc_succ t f a m v 3
    have hle := acc_le t f a m v 3
    refine rJoin (fun _ : Unit => fr3 t f a m v L (acc t f a m v 4).length 3) (fun _ => True) (List.cons_ne_nil _ _) ?_ ?_
    · refine rBlock ?_
      refine reg mix [] [pf h4] (by kernel_rfl) ?_
      refine rCond (!m.d) (by kernel_rfl) (fun hm => ?_) (fun hm => ?_)
      · have e : acc t f a m v 4 = acc t f a m v 3 := by rw [hsu, if_neg (show ¬ m.at 3 = true by rw [show m.at 3 = false from (by simpa using hm : m.d = false)]; exact Bool.false_ne_true), List.append_nil]
        refine run_exit (blockR_exit (run_nil (joined () trivial ?_)))
        rw [e]
        exact wkTo [0, 1, 2, 8, 9, 11, 12, 14, 15] [] (by kernel_rfl)
      have hmt : m.at 3 = true := (by simpa using hm : m.d = true)
      have e : acc t f a m v 4 = acc t f a m v 3 ++ [dAt t f a v 3] := by rw [hsu, if_pos hmt]
      obtain ⟨hlt, hat⟩ := acc_at (t := t) (f := f) (a := a) (v := v) (m := m) (i := 3) (by omega) hmt
      rw [← hL] at hlt hat
      have hq : (!decide (((acc t f a m v 3).length : Int) ≥ (L.length : Int))) = true → 0 ≤ ((acc t f a m v 3).length : Int) ∧ ((acc t f a m v 3).length : Int) < (L.length : Int) := fun _ => by omega
      refine regI mix [] [pf hq, pf (fun _ : (!decide (((acc t f a m v 3).length : Int) ≥ (L.length : Int))) = true => h4), pf (fun _ : (!decide (((acc t f a m v 3).length : Int) ≥ (L.length : Int))) = true => eqDe)] (by kernel_rfl) ?_
      refine rCondF (decide (((acc t f a m v 3).length : Int) ≥ (L.length : Int)) || !eqDeB (L.getD (acc t f a m v 3).length zDe) (dAt t f a v 3)) (by kernel_rfl) ?_ ?_
      · rw [hat, eqDeB_iff.2 rfl, decide_eq_false (by omega)]; rfl
      refine reg0 mix (by kernel_rfl) ?_
      refine run_nil (blockR_normal (run_nil (joined () trivial ?_)))
      have en : (((acc t f a m v 4).length : Nat) : Int) = IntKind.i64.wrap (((acc t f a m v 3).length : Nat) + 1) := by
        rw [e, List.length_append, List.length_singleton, w64 _ (by omega) (by omega)]; rfl
      rw [en]
      exact wkTo [0, 1, 2, 8, 9, 11, 12, 14, 15] [] (by kernel_rfl)
    · rintro _ _
      refine reg0 mix (by kernel_rfl) ?_
      exact run_nil (loopR_next (4 : Nat) (wkTo [0, 1, 2, 8, 9, 11, 12, 14, 15] [] (by kernel_rfl)) (by omega) (by omega))
  refine rCondF false (by kernel_rfl) rfl ?_
  rw [← hL]
  refine run_exit (loopR_exit (blockR_exit ?_))
  have hol : (oneL L).length = L.length := by simp [oneL]
  refine regC mix [(1, con c11)] (by kernel_rfl) ?_
  refine reg0 mix (by kernel_rfl) ?_
  refine rCondF ((((L.length : Int) != (L.length : Int)) || false) || (((oneL L).length : Int) != (L.length : Int))) (by kernel_rfl) (by rw [hol]; simp) ?_
  refine reg0 mix (by kernel_rfl) ?_
  refine rBlock ?_
  refine rLoop (fs3 t f L (oneL L)) (fun i => 0 ≤ i ∧ i ≤ L.length) (fun i => (L.length - i).toNat) 0 (wkTo [0, 1, 11, 12, 16, 18] [] (by kernel_rfl)) ⟨by omega, by omega⟩ ?_
  rintro i ⟨h0, h1⟩
  refine reg0 mix (by kernel_rfl) ?_
  refine rCond (decide (i < ((oneL L).length : Int))) (by kernel_rfl) (fun hc => ?_) (fun hc => ?_)
  · have hc : i < ((oneL L).length : Int) := of_decide_eq_true hc
    have e : IntKind.i64.wrap (i + 1) = i + 1 := w64 _ (by omega) (by omega)
    have hi : 0 ≤ i ∧ i < ((oneL L).length : Int) := ⟨h0, hc⟩
    have hi2 : 0 ≤ i ∧ i < (L.length : Int) := ⟨h0, by omega⟩
    refine rBlock ?_
    refine reg mix [] [pf hi, pf hi2, pf eqTa] (by kernel_rfl) ?_
    refine rCondF (!eqTaB ((oneL L).getD i.toNat zTa) ⟨t, (deAt L i.toNat).c, f, 1⟩) (by kernel_rfl) ?_ ?_
    · have hlt : i.toNat < L.length := by omega
      obtain ⟨g1, g2⟩ := hdat i.toNat hlt
      have : (oneL L).getD i.toNat zTa = ⟨t, (deAt L i.toNat).c, f, 1⟩ := by
        rw [← g1, ← g2]
        simp [oneL, deAt, List.getD_eq_getElem?_getD, hlt, oneT, De.pl]
      rw [this, eqTaB_iff.2 rfl]; rfl
    refine run_nil (blockR_normal ?_)
    refine reg0 mix (by kernel_rfl) ?_
    refine run_nil (loopR_next (IntKind.i64.wrap (i + 1)) (wkTo [0, 1, 11, 12, 16, 18] [] (by kernel_rfl)) ?_ ?_)
    · rw [e]; exact ⟨by omega, by omega⟩
    · rw [e]; omega
  refine run_exit (loopR_exit (blockR_exit ?_))
  refine reg0 mix (by kernel_rfl) ?_
  exact run_ret (ret_of (.v (vB true)) (by kernel_rfl) rfl)
end Go.Proofs.Ytaaplpbjjnechaa
