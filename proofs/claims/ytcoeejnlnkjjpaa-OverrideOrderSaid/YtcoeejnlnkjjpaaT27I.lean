import Derived.Test.YtcoeejnlnkjjpaaT27H
namespace Go.Proofs.Ytcoeejnlnkjjpaa
open Go.Sym
set_option linter.unusedVariables false
set_option linter.unusedSimpArgs false

theorem inside_within (m : Int) : inside m 0 38399 = within m 38400 := by
  rw [Bool.eq_iff_iff]; simp only [inside, within, Bool.and_eq_true, decide_eq_true_iff]; omega
theorem inside6 (m : Int) : inside m 0 5 = within m 6 := by
  rw [Bool.eq_iff_iff]; simp only [inside, within, Bool.and_eq_true, decide_eq_true_iff]; omega
theorem inside64 (m : Int) : inside m 0 63 = within m 64 := by
  rw [Bool.eq_iff_iff]; simp only [inside, within, Bool.and_eq_true, decide_eq_true_iff]; omega
theorem inside512 (m : Int) : inside m 0 511 = within m 512 := by
  rw [Bool.eq_iff_iff]; simp only [inside, within, Bool.and_eq_true, decide_eq_true_iff]; omega
theorem g23 (m : Int) : FCall Try.prog 23 [vI m] (.v (vB (within m 38400))) := by rw [← inside_within]; exact f23 m
theorem g26a (m : Int) : FCall Try.prog 26 [vI m, vI 0, vI 5] (.v (vB (within m 6))) := by rw [← inside6]; exact f26 m 0 5
theorem g26b (m : Int) : FCall Try.prog 26 [vI m, vI 0, vI 63] (.v (vB (within m 64))) := by rw [← inside64]; exact f26 m 0 63
theorem g26c (m : Int) : FCall Try.prog 26 [vI m, vI 0, vI 511] (.v (vB (within m 512))) := by rw [← inside512]; exact f26 m 0 511

/-! ### equal -/
def eqI (a b : List Int) : Bool := decide (a = b)
def eqS (a b : List Int) (i : Int) : S := mkS 26 [(0, .b (.v (lI a))), (1, .b (.v (lI b))), (4, .b (.v (vB false))), (5, .b (.v (vI i)))] []
theorem f16 (a b : List Int) (ha : a.length ≤ 1000000) : FCall Try.prog 16 [lI a, lI b] (.v (vB (eqI a b))) := by
  refine fcall_of Try.func16 rfl (by kernel_rfl) (fun B hB => ?_)
  refine reg0 mix (by kernel_rfl) ?_
  refine reg0 mix (by kernel_rfl) ?_
  refine rCond ((a.length : Int) != (b.length : Int)) (by kernel_rfl) (fun h => ?_) (fun h => ?_)
  · refine reg0 mix (by kernel_rfl) ?_
    refine run_ret (ret_of (.v (vB false)) (by kernel_rfl) ?_)
    have : ¬ a = b := by rintro rfl; simp at h
    simp [eqI, this]
  have hl : a.length = b.length := by
    have : (a.length : Int) = b.length := by simpa using h
    omega
  refine reg0 mix (by kernel_rfl) ?_
  refine rBlock ?_
  refine rLoop (eqS a b) (fun i => 0 ≤ i ∧ i ≤ a.length ∧ ∀ j : Nat, (j : Int) < i → a.getD j 0 = b.getD j 0) (fun i => (a.length - i).toNat) 0 (wkTo [0, 1, 4, 5] [] (by kernel_rfl)) ⟨by omega, by omega, fun j hj => by omega⟩ ?_
  intro i ⟨h0, h1, h2⟩
  refine reg0 mix (by kernel_rfl) ?_
  refine rCond (decide (i < (a.length : Int))) (by kernel_rfl) (fun hc => ?_) (fun hc => ?_)
  · have hc : i < a.length := of_decide_eq_true hc
    refine rBlock ?_
    refine reg mix [] [pf (⟨h0, hc⟩ : 0 ≤ i ∧ i < (a.length : Int)), pf (⟨h0, by omega⟩ : 0 ≤ i ∧ i < (b.length : Int))] (by kernel_rfl) ?_
    refine rCond (a.getD i.toNat 0 != b.getD i.toNat 0) (by kernel_rfl) (fun h => ?_) (fun h => ?_)
    · refine reg0 mix (by kernel_rfl) ?_
      refine run_ret (blockR_ret (loopR_ret (blockR_ret (ret_of (.v (vB false)) (by kernel_rfl) ?_))))
      have : ¬ a = b := by rintro rfl; simp at h
      simp [eqI, this]
    · refine run_nil (blockR_normal ?_)
      refine reg0 mix (by kernel_rfl) ?_
      have e : IntKind.i64.wrap (i + 1) = i + 1 := w64 _ (by omega) (by omega)
      refine run_nil (loopR_next (IntKind.i64.wrap (i + 1)) (wkTo [0, 1, 4, 5] [] (by kernel_rfl)) ?_ ?_)
      · rw [e]
        refine ⟨by omega, by omega, fun j hj => ?_⟩
        by_cases hji : (j : Int) < i
        · exact h2 j hji
        · have : j = i.toNat := by omega
          rw [this]; simpa using h
      · rw [e]; omega
  · have hc : ¬ i < a.length := of_decide_eq_false hc
    refine run_exit (loopR_exit (blockR_exit ?_))
    refine reg0 mix (by kernel_rfl) ?_
    refine run_ret (ret_of (.v (vB true)) (by kernel_rfl) ?_)
    have : a = b := by
      refine List.ext_getElem hl fun j hj hj' => ?_
      have := h2 j (by omega)
      simpa [List.getD_eq_getElem?_getD, hj, hj'] using this
    simp [eqI, this]

/-! ### the reference's Active -/
def rowP (l : List Ov) (m : Int) (n : Nat) : List (List C) := (actL l m n).map fun x => [cI (x.1 : Nat)]
theorem rowP_succ (l : List Ov) (m : Int) (n : Nat) : rowP l m (n + 1) = if force (l.getD n zOv) m then rowP l m n ++ [[cI (n : Nat)]] else rowP l m n := by
  unfold rowP
  rw [actL_succ, inF_force]
  split <;> simp
theorem rowP_le (l : List Ov) (m : Int) : ∀ n, (rowP l m n).length ≤ n := by
  intro n
  induction n with
  | zero => exact Nat.le_refl _
  | succ n ih =>
    rw [rowP_succ]
    split
    · simp; exact ih
    · omega

def arS (l : List Ov) (m : Int) (x : Int × Nat × List (List C)) : S := mkS 33 [(0, .b (.v (lOv l))), (1, .b (.v (vI m))), (6, .b (.v (.c (.row 1 x.2.1)))), (7, .b (.v (vI x.1)))] [(1, .row 3 1 x.2.2)]
theorem f11 (l : List Ov) (m : Int) : FCall Try.prog 11 [lOv l, vI m] (.tup [lI (active l m), vI (actErr l m)]) := by
  refine fcall_of Try.func11 rfl (by kernel_rfl) (fun B hB => ?_)
  refine reg0 mix (by kernel_rfl) ?_
  refine regC mix [(1, con (f15 l)), (5, con (g23 m))] (by kernel_rfl) ?_
  refine rCond (!valid l || !within m 38400) (by kernel_rfl) (fun h => ?_) (fun h => ?_)
  · have hk : argOk l m = false := by
      revert h; unfold argOk; cases valid l <;> cases within m 38400 <;> simp
    refine reg0 mix (by kernel_rfl) ?_
    refine run_weaken (wk_nilLst 4 1 (elI []) (by kernel_rfl)) ?_ (List.cons_ne_nil _ _)
    refine run_ret (ret_of (.tup [lI [], vI 1]) (by kernel_rfl) ?_)
    simp [active, actErr, hk]
  have hv : valid l = true ∧ within m 38400 = true := by
    revert h; cases valid l <;> cases within m 38400 <;> simp
  have hk : argOk l m = true := by simp [argOk, hv]
  have hl := valid_len hv.1
  refine reg0 mix (by kernel_rfl) ?_
  refine run_weaken (wk_nilRow 6 1 3 1 (by kernel_rfl) (by kernel_rfl) (by omega)) ?_ (List.cons_ne_nil _ _)
  refine reg0 mix (by kernel_rfl) ?_
  refine rBlock ?_
  refine rLoop (arS l m) (fun x => 0 ≤ x.1 ∧ x.1 ≤ l.length ∧ x.2.1 = x.2.2.length ∧ x.2.2 = rowP l m x.1.toNat) (fun x => (l.length - x.1).toNat) (0, 0, []) (wkTo [0, 1, 6, 7] [] (by kernel_rfl)) ⟨by omega, by omega, rfl, rfl⟩ ?_
  rintro ⟨i, n, css⟩ ⟨h0, h1, h2, h3⟩
  simp only at h0 h1 h2 h3
  refine reg0 mix (by kernel_rfl) ?_
  refine rCond (decide (i < (l.length : Int))) (by kernel_rfl) (fun hc => ?_) (fun hc => ?_)
  · have hc : i < l.length := of_decide_eq_true hc
    have e : IntKind.i64.wrap (i + 1) = i + 1 := w64 _ (by omega) (by omega)
    have et : (i + 1).toNat = i.toNat + 1 := by omega
    have hn : n ≤ i.toNat := by rw [h2, h3]; exact rowP_le _ _ _
    refine rBlock ?_
    refine reg mix [(5, hcon (f24 (l.getD i.toNat zOv) m))] [pf (⟨h0, hc⟩ : 0 ≤ i ∧ i < (l.length : Int)), pf (f24 (l.getD i.toNat zOv) m)] (by kernel_rfl) ?_
    refine rCond (force (l.getD i.toNat zOv) m) (by kernel_rfl) (fun h => ?_) (fun h => ?_)
    · refine reg mix [] [pf h2, pf (by omega : (n + 1) * 9 ≤ 140737488355328), pf (rfl : 1 = [[cI i]].length)] (by kernel_rfl) ?_
      refine run_nil (blockR_normal ?_)
      refine reg0 mix (by kernel_rfl) ?_
      refine run_nil (loopR_next (IntKind.i64.wrap (i + 1), n + 1, css ++ [[cI i]]) (wkTo [0, 1, 6, 7] [30] (by kernel_rfl)) ?_ ?_)
      · simp only [e]
        refine ⟨by omega, by omega, by simp [h2], ?_⟩
        rw [et, rowP_succ, if_pos h, h3, show ((i.toNat : Nat) : Int) = i by omega]
      · simp only [e]; omega
    · refine run_nil (blockR_normal ?_)
      refine reg0 mix (by kernel_rfl) ?_
      refine run_nil (loopR_next (IntKind.i64.wrap (i + 1), n, css) (wkTo [0, 1, 6, 7] [] (by kernel_rfl)) ?_ ?_)
      · simp only [e]
        refine ⟨by omega, by omega, h2, ?_⟩
        rw [et, rowP_succ, if_neg (by rw [h]; exact Bool.false_ne_true), h3]
      · simp only [e]; omega
  · have hc : ¬ i < l.length := of_decide_eq_false hc
    refine run_exit (loopR_exit (blockR_exit ?_))
    refine reg0 mix (by kernel_rfl) ?_
    have hi : i.toNat = l.length := by omega
    rw [hi] at h3
    refine frzRow hB 4 1 n 3 1 css (elI (actI l m)) [5] [] (by kernel_rfl) (by kernel_rfl) h2 ?_ (by kernel_rfl) ?_ (List.cons_ne_nil _ _)
    · intro j hj
      rw [h2, h3] at hj
      rw [h3]
      have hj' : j < (actL l m l.length).length := by simpa [rowP] using hj
      simp [elI, actI, rowP, List.getD_eq_getElem?_getD, hj']
    · refine run_ret (ret_of (.tup [.c (.lst 1 n (elI (actI l m))), vI 0]) (by kernel_rfl) ?_)
      simp only [active, actErr, hk, if_true]
      rw [show n = (actI l m).length by rw [h2, h3]; simp [actI, rowP]]
      rfl

/-! ### the reference's Stuck and Judge -/
theorem fl_find (l : List Ov) (m : Int) (p : Ov → Bool) : (fl l m).find? p = l.find? fun o => force o m && p o := by
  unfold fl
  induction l with
  | nil => rfl
  | cons o l ih =>
    rw [List.filter_cons, List.find?_cons]
    cases h : force o m
    · simp only [Bool.false_and]; exact ih
    · simp only [if_true, List.find?_cons, Bool.true_and]
      cases p o <;> simp [ih]

def rsS (l : List Ov) (t m : Int) (i : Int) : S := mkS 51 [(0, .b (.v (lOv l))), (1, .b (.v (vI t))), (2, .b (.v (vI m))), (6, .b (.v (vB false))), (7, .b (.v (vI 0))), (8, .b (.v (vI i)))] []
theorem f13 (l : List Ov) (t m : Int) : FCall Try.prog 13 [lOv l, vI t, vI m] (.tup [vB (stuckB l t m), vI (stuckE l t m)]) := by
  refine fcall_of Try.func13 rfl (by kernel_rfl) (fun B hB => ?_)
  refine reg0 mix (by kernel_rfl) ?_
  refine regC mix [(1, con (f15 l)), (5, con (g23 m)), (10, con (g26a t))] (by kernel_rfl) ?_
  refine rCond ((!valid l || !within m 38400) || !within t 6) (by kernel_rfl) (fun h => ?_) (fun h => ?_)
  · have hk : argsS l t m = false := by
      revert h; unfold argsS argOk; cases valid l <;> cases within m 38400 <;> cases within t 6 <;> simp
    refine reg0 mix (by kernel_rfl) ?_
    refine run_ret (ret_of (.tup [vB false, vI 1]) (by kernel_rfl) ?_)
    simp [stuckB, stuckE, hk]
  have hv : valid l = true ∧ within m 38400 = true ∧ within t 6 = true := by
    revert h; cases valid l <;> cases within m 38400 <;> cases within t 6 <;> simp
  have hk : argsS l t m = true := by simp [argsS, argOk, hv]
  have hl := valid_len hv.1
  refine reg0 mix (by kernel_rfl) ?_
  refine rBlock ?_
  have hfl : (fl l m).any (pStuck t) = (l.find? fun o => force o m && pStuck t o).isSome := by rw [any_find, fl_find]
  refine rLoop (rsS l t m) (fun i => 0 ≤ i ∧ i ≤ l.length ∧ i.toNat ≤ l.findIdx (fun o => force o m && pStuck t o)) (fun i => (l.length - i).toNat) 0 (wkTo [0, 1, 2, 6, 7, 8] [] (by kernel_rfl)) ⟨by omega, by omega, Nat.zero_le _⟩ ?_
  intro i ⟨h0, h1, h2⟩
  refine reg0 mix (by kernel_rfl) ?_
  refine rCond (decide (i < (l.length : Int))) (by kernel_rfl) (fun hc => ?_) (fun hc => ?_)
  · have hc : i < l.length := of_decide_eq_true hc
    have hlt : i.toNat < l.length := by omega
    refine rBlock ?_
    refine reg mix [(21, hcon (f24 (l.getD i.toNat zOv) m))] [pf (⟨h0, hc⟩ : 0 ≤ i ∧ i < (l.length : Int)), pf (⟨h0, hc⟩ : 0 ≤ i ∧ i < (l.length : Int)), pf (⟨h0, hc⟩ : 0 ≤ i ∧ i < (l.length : Int)), pf (f24 (l.getD i.toNat zOv) m)] (by kernel_rfl) ?_
    refine rCond (pStuck t (l.getD i.toNat zOv) && force (l.getD i.toNat zOv) m) (by kernel_rfl) (fun h => ?_) (fun h => ?_)
    · obtain ⟨g1, g2⟩ := find_hit (p := fun o => force o m && pStuck t o) (d := zOv) hlt h2 (by rw [Bool.and_comm]; exact h)
      refine reg0 mix (by kernel_rfl) ?_
      refine run_ret (blockR_ret (loopR_ret (blockR_ret (ret_of (.tup [vB true, vI 0]) (by kernel_rfl) ?_))))
      simp [stuckB, stuckE, hk, hfl, g2]
    · have g := find_miss (p := fun o => force o m && pStuck t o) (d := zOv) hlt h2 (by rw [Bool.and_comm]; exact h)
      refine run_nil (blockR_normal ?_)
      refine reg0 mix (by kernel_rfl) ?_
      have e : IntKind.i64.wrap (i + 1) = i + 1 := w64 _ (by omega) (by omega)
      refine run_nil (loopR_next (IntKind.i64.wrap (i + 1)) (wkTo [0, 1, 2, 6, 7, 8] [] (by kernel_rfl)) ?_ ?_)
      · rw [e]; exact ⟨by omega, by omega, by omega⟩
      · rw [e]; omega
  · have hc : ¬ i < l.length := of_decide_eq_false hc
    refine run_exit (loopR_exit (blockR_exit ?_))
    refine reg0 mix (by kernel_rfl) ?_
    refine run_ret (ret_of (.tup [vB false, vI 0]) (by kernel_rfl) ?_)
    have := find_none (p := fun o => force o m && pStuck t o) (l := l) (by have := findIdx_le (p := fun o => force o m && pStuck t o) l; omega)
    simp [stuckB, stuckE, hk, hfl, this]

def rjS (l : List Ov) (t p u m : Int) (i : Int) : S := mkS 79 [(0, .b (.v (lOv l))), (1, .b (.v (vI t))), (2, .b (.v (vI p))), (3, .b (.v (vI u))), (4, .b (.v (vI m))), (10, .b (.v (vI 0))), (11, .b (.v (vI i)))] []
theorem f18 (l : List Ov) (t p u m : Int) : FCall Try.prog 18 [lOv l, vI t, vI p, vI u, vI m] (.v (vI (judge l t p u m))) := by
  refine fcall_of Try.func18 rfl (by kernel_rfl) (fun B hB => ?_)
  refine reg0 mix (by kernel_rfl) ?_
  refine regC mix [(1, con (f15 l)), (5, con (g23 m)), (10, con (g26a t)), (15, con (g26b p)), (20, con (g26c u))] (by kernel_rfl) ?_
  refine rCond ((((!valid l || !within m 38400) || !within t 6) || !within p 64) || !within u 512) (by kernel_rfl) (fun h => ?_) (fun h => ?_)
  · have hk : argsJ l t p u m = false := by
      revert h; unfold argsJ argOk candOk; cases valid l <;> cases within m 38400 <;> cases within t 6 <;> cases within p 64 <;> cases within u 512 <;> simp
    refine reg0 mix (by kernel_rfl) ?_
    refine run_ret (ret_of (.v (vI 1)) (by kernel_rfl) ?_)
    simp [judge, hk]
  have hv : valid l = true ∧ argsJ l t p u m = true := by
    revert h; unfold argsJ argOk candOk; cases valid l <;> cases within m 38400 <;> cases within t 6 <;> cases within p 64 <;> cases within u 512 <;> simp
  have hk := hv.2
  have hl := valid_len hv.1
  refine reg0 mix (by kernel_rfl) ?_
  refine rBlock ?_
  refine rLoop (rjS l t p u m) (fun i => 0 ≤ i ∧ i ≤ l.length ∧ i.toNat ≤ l.findIdx (fun o => force o m && hits o t p u)) (fun i => (l.length - i).toNat) 0 (wkTo [0, 1, 2, 3, 4, 10, 11] [] (by kernel_rfl)) ⟨by omega, by omega, Nat.zero_le _⟩ ?_
  intro i ⟨h0, h1, h2⟩
  refine reg0 mix (by kernel_rfl) ?_
  refine rCond (decide (i < (l.length : Int))) (by kernel_rfl) (fun hc => ?_) (fun hc => ?_)
  · have hc : i < l.length := of_decide_eq_true hc
    have hlt : i.toNat < l.length := by omega
    have hhit := @find_hit Ov (fun o => force o m && hits o t p u) zOv l i.toNat hlt h2
    have hmiss := @find_miss Ov (fun o => force o m && hits o t p u) zOv l i.toNat hlt h2
    have e : IntKind.i64.wrap (i + 1) = i + 1 := w64 _ (by omega) (by omega)
    refine rBlock ?_
    refine reg mix [] [pf (⟨h0, hc⟩ : 0 ≤ i ∧ i < (l.length : Int))] (by kernel_rfl) ?_
    refine regC mix [(2, con (f24 (l.getD i.toNat zOv) m))] (by kernel_rfl) ?_
    refine rCond (!force (l.getD i.toNat zOv) m) (by kernel_rfl) (fun h => ?_) (fun h => ?_)
    · have g := hmiss (by simp only [Bool.not_eq_true'] at h; rw [h]; rfl)
      refine run_exit (blockR_exit ?_)
      refine reg0 mix (by kernel_rfl) ?_
      refine run_nil (loopR_next (IntKind.i64.wrap (i + 1)) (wkTo [0, 1, 2, 3, 4, 10, 11] [12] (by kernel_rfl)) ?_ ?_)
      · rw [e]; exact ⟨by omega, by omega, by omega⟩
      · rw [e]; omega
    have hf : force (l.getD i.toNat zOv) m = true := by simpa using h
    refine reg0 mix (by kernel_rfl) ?_
    refine rCond ((l.getD i.toNat zOv).kind == 1 && (l.getD i.toNat zOv).tel == t) (by kernel_rfl) (fun h => ?_) (fun h => ?_)
    · simp only [Bool.and_eq_true, beq_iff_eq] at h
      obtain ⟨g1, g2⟩ := hhit (by rw [hf]; simp only [hits, h.1, h.2]; simp)
      refine reg0 mix (by kernel_rfl) ?_
      refine run_ret (blockR_ret (loopR_ret (blockR_ret (ret_of (.v (vI 18)) (by kernel_rfl) ?_))))
      simp only [judge, hk, if_true, fl_find, g2, errOf, h.1]
    refine reg0 mix (by kernel_rfl) ?_
    refine rCond (((l.getD i.toNat zOv).kind == 2 && (l.getD i.toNat zOv).prg == p) || ((l.getD i.toNat zOv).kind == 3 && (l.getD i.toNat zOv).tile == u)) (by kernel_rfl) (fun h' => ?_) (fun h' => ?_)
    · simp only [Bool.or_eq_true, Bool.and_eq_true, beq_iff_eq] at h'
      have hk23 : (l.getD i.toNat zOv).kind = 2 ∨ (l.getD i.toNat zOv).kind = 3 := by omega
      obtain ⟨g1, g2⟩ := hhit (by
        rw [hf]
        rcases h' with ⟨a, b⟩ | ⟨a, b⟩ <;> simp only [hits, a, b] <;> simp)
      refine reg0 mix (by kernel_rfl) ?_
      refine run_ret (blockR_ret (loopR_ret (blockR_ret (ret_of (.v (vI 22)) (by kernel_rfl) ?_))))
      have hne : ¬ (l.getD i.toNat zOv).kind = 1 := by omega
      simp only [judge, hk, if_true, fl_find, g2, errOf, hk23, hne, if_false]
    · have g := hmiss (by
        rw [hf, Bool.true_and]
        simp only [Bool.or_eq_false_iff] at h'
        simp only [hits]
        split
        · rename_i hk1; rw [hk1] at h; simpa using h
        · split
          · rename_i hk2; rw [hk2] at h'; simpa using h'.1
          · split
            · rename_i hk3; rw [hk3] at h'; simpa using h'.2
            · rfl)
      refine run_nil (blockR_normal ?_)
      refine reg0 mix (by kernel_rfl) ?_
      refine run_nil (loopR_next (IntKind.i64.wrap (i + 1)) (wkTo [0, 1, 2, 3, 4, 10, 11] [12] (by kernel_rfl)) ?_ ?_)
      · rw [e]; exact ⟨by omega, by omega, by omega⟩
      · rw [e]; omega
  · have hc : ¬ i < l.length := of_decide_eq_false hc
    refine run_exit (loopR_exit (blockR_exit ?_))
    refine reg0 mix (by kernel_rfl) ?_
    refine run_ret (ret_of (.v (vI 0)) (by kernel_rfl) ?_)
    have := find_none (p := fun o => force o m && hits o t p u) (l := l) (by have := findIdx_le (p := fun o => force o m && hits o t p u) l; omega)
    simp [judge, hk, fl_find, this]

end Go.Proofs.Ytcoeejnlnkjjpaa
