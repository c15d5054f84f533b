import Derived.Test.YtmdgbejfdcfhpaaT20L
namespace Go.Proofs.Ytmdgbejfdcfhpaa
open Go.Sym
set_option linter.unusedVariables false
set_option linter.unusedSimpArgs false

/-! ### What the median is, told by counts -/
theorem med_unique {l : List Int} (hl : l.length ≠ 0) {v : Int} (h1 : l.countP (fun x => decide (x < v)) ≤ (l.length - 1) / 2) (h2 : (l.length - 1) / 2 + 1 ≤ l.countP (fun x => decide (x ≤ v))) : medI l = v := by
  have h3 := med_below hl
  have h4 := med_upto hl
  rcases Int.lt_trichotomy v (medI l) with h5 | h5 | h5
  · have := countP_le_of (l := l) (p := fun x => decide (x ≤ v)) (q := fun x => decide (x < medI l)) fun x hx => by simp only [decide_eq_true_eq] at hx ⊢; omega
    omega
  · exact h5.symm
  · have := countP_le_of (l := l) (p := fun x => decide (x ≤ medI l)) (q := fun x => decide (x < v)) fun x hx => by simp only [decide_eq_true_eq] at hx ⊢; omega
    omega
theorem med_perm {l l' : List Int} (h : l.Perm l') (hl : l.length ≠ 0) : medI l = medI l' := by
  have e := h.length_eq
  refine med_unique hl ?_ ?_
  · rw [h.countP_eq, e]; exact med_below (by omega)
  · rw [h.countP_eq, e]; exact med_upto (by omega)
theorem med_shift {l : List Int} (hl : l.length ≠ 0) (s : Int) : medI (l.map (· + s)) = medI l + s := by
  have e1 : (fun x => decide (x < medI l + s)) ∘ (fun x => x + s) = fun x => decide (x < medI l) := by
    funext x; simp only [Function.comp_apply, decide_eq_decide]; omega
  have e2 : (fun x => decide (x ≤ medI l + s)) ∘ (fun x => x + s) = fun x => decide (x ≤ medI l) := by
    funext x; simp only [Function.comp_apply, decide_eq_decide]; omega
  refine med_unique (by simpa using hl) ?_ ?_
  · rw [List.countP_map, List.length_map, e1]; exact med_below hl
  · rw [List.countP_map, List.length_map, e2]; exact med_upto hl
theorem countP_set {q : Int → Bool} {y : Int} : ∀ {l : List Int} {k : Nat}, (q y = true → q (l.getD k 0) = true) → (l.set k y).countP q ≤ l.countP q
  | [], k, _ => by simp
  | x :: l, 0, h => by
    simp only [List.set_cons_zero, List.countP_cons]
    simp only [List.getD_cons_zero] at h
    revert h
    cases q y <;> cases q x <;> simp
  | x :: l, k + 1, h => by
    simp only [List.set_cons_succ, List.countP_cons]
    have := countP_set (q := q) (y := y) (l := l) (k := k) (by simpa using h)
    omega
theorem med_more {l : List Int} (hl : l.length ≠ 0) {k : Nat} {y : Int} (hk : l.getD k 0 ≤ y) : medI l ≤ medI (l.set k y) := by
  have hl' : (l.set k y).length ≠ 0 := by simpa using hl
  have h1 := med_below hl
  have h2 := med_upto hl'
  rw [List.length_set] at h2
  rcases Int.lt_or_le (medI (l.set k y)) (medI l) with h | h
  · have a1 := countP_set (q := fun x => decide (x ≤ medI (l.set k y))) (y := y) (l := l) (k := k) (fun h => by simp only [decide_eq_true_eq] at h ⊢; omega)
    have a2 := countP_le_of (l := l) (p := fun x => decide (x ≤ medI (l.set k y))) (q := fun x => decide (x < medI l)) fun x hx => by simp only [decide_eq_true_eq] at hx ⊢; omega
    omega
  · exact h
theorem k13n {l : List Int} {n : Nat} (hn : l.length = n) (h0 : n ≠ 0) (h1 : n ≤ 1000) : FCall Try.prog 13 [.c (.lst 1 n (elI l))] (.tup [vI (medI l), vI 0]) := by
  subst hn; exact k13 l h0 h1
theorem rowI_el {l : List Int} {n i : Nat} (hn : l.length = n) (hi : i < n) : elI l i = (rowI l).getD i [] := by
  subst hn
  simp [rowI, elI, List.getD_eq_getElem?_getD, hi]

def lw5 (l : List Int) (shift w b : Int) (x : Int × Nat × List (List C) × List (List C)) : S := mkS 145 [(0, .b (.v (lI l))), (1, .b (.v (vI shift))), (2, .b (.v (.c (.int .u8 w)))), (3, .b (.v (.c (.int .u16 b)))), (9, .b (.v (vB true))), (10, .b (.v (.c (.row 1 x.2.1)))), (11, .b (.v (.c (.row 2 x.2.1)))), (12, .b (.v (vI x.1)))] [(1, .row 3 1 x.2.2.1), (2, .row 3 1 x.2.2.2)]
theorem rev_getD {l : List Int} {n : Nat} (h : n < l.length) : l.reverse.getD n 0 = l.getD (l.length - 1 - n) 0 := by
  simp [List.getD_eq_getElem?_getD, h, show l.length - 1 - n < l.length by omega]
theorem f5 (l : List Int) (shift w b : Int) (hw : 0 ≤ w ∧ w ≤ 255) (hb : 0 ≤ b ∧ b ≤ 65535) : FCall Try.prog 5 [lI l, vI shift, .c (.int .u8 w), .c (.int .u16 b)] (.v (vB true)) := by
  refine fcall_of Try.func5 rfl (by kernel_rfl) (fun B hB => ?_)
  refine reg0 mix (by kernel_rfl) ?_
  refine regC mix [(0, con f9)] (by kernel_rfl) ?_
  refine reg0 mix (by kernel_rfl) ?_
  refine rCond (((decide ((l.length : Int) > 100) || ((l.length : Int) == 0)) || decide (shift < -1000000000)) || decide (shift > 1000000000)) (by kernel_rfl) (fun h => ?_) (fun h => ?_)
  · refine reg0 mix (by kernel_rfl) ?_
    exact run_ret (ret_of (.v (vB true)) (by kernel_rfl) rfl)
  simp only [Bool.or_eq_false_iff, decide_eq_false_iff_not, beq_eq_false_iff_ne] at h
  have h0 : l.length ≠ 0 := by omega
  have h1 : l.length ≤ 100 := by omega
  have hs : -1000000000 ≤ shift ∧ shift ≤ 1000000000 := by omega
  clear h
  refine reg0 mix (by kernel_rfl) ?_
  refine run_weaken (wk_nilRow 10 1 3 1 (by kernel_rfl) (by kernel_rfl) (by omega)) ?_ (List.cons_ne_nil _ _)
  refine run_weaken (wk_nilRow 11 2 3 1 (by kernel_rfl) (by kernel_rfl) (by omega)) ?_ (List.cons_ne_nil _ _)
  refine reg0 mix (by kernel_rfl) ?_
  refine rBlock ?_
  have e0 : IntKind.i64.wrap ((l.length : Int) - 1) = (l.length : Int) - 1 := w64 _ (by omega) (by omega)
  refine rLoop (lw5 l shift w b) (fun x => -1 ≤ x.1 ∧ x.1 < l.length ∧ (x.2.1 : Int) = (l.length : Int) - 1 - x.1 ∧ x.2.2.1 = rowI (l.reverse.take x.2.1) ∧ x.2.2.2 = rowI ((l.reverse.map (· + shift)).take x.2.1) ∧ ∀ y, y ∈ l.reverse.take x.2.1 → -1000000000 ≤ y ∧ y ≤ 1000000000) (fun x => (x.1 + 1).toNat) (IntKind.i64.wrap ((l.length : Int) - 1), 0, [], []) (wkTo [0, 1, 2, 3, 9, 10, 11, 12] [] (by kernel_rfl)) ⟨by rw [e0]; simp only; omega, by rw [e0]; simp only; omega, by rw [e0]; simp only; omega, rfl, rfl, fun y hy => by simp at hy⟩ ?_
  rintro ⟨i, n, c1, c2⟩ ⟨hi0, hi1, hn, hc1, hc2, hr⟩
  simp only at hi0 hi1 hn hc1 hc2 hr
  subst hc1 hc2
  have hl1 : (rowI (l.reverse.take n)).length = n := by simp [rowI]; omega
  have hl2 : (rowI ((l.reverse.map (· + shift)).take n)).length = n := by simp [rowI]; omega
  refine reg0 mix (by kernel_rfl) ?_
  refine rCond (decide (i ≥ 0)) (by kernel_rfl) (fun hc => ?_) (fun hc => ?_)
  · have hc : i ≥ 0 := of_decide_eq_true hc
    refine rBlock ?_
    refine regI mix [] [pf (fun _ : true = true => (⟨hc, hi1⟩ : 0 ≤ i ∧ i < (l.length : Int))), pf (fun _ : (!decide (l.getD i.toNat 0 < -1000000000)) = true => (⟨hc, hi1⟩ : 0 ≤ i ∧ i < (l.length : Int)))] (by kernel_rfl) ?_
    refine rCond (decide (l.getD i.toNat 0 < -1000000000) || decide (l.getD i.toNat 0 > 1000000000)) (by kernel_rfl) (fun h => ?_) (fun h => ?_)
    · refine reg0 mix (by kernel_rfl) ?_
      exact run_ret (blockR_ret (loopR_ret (blockR_ret (ret_of (.v (vB true)) (by kernel_rfl) rfl))))
    simp only [Bool.or_eq_false_iff, decide_eq_false_iff_not] at h
    refine reg mix [] [pf (⟨hc, hi1⟩ : 0 ≤ i ∧ i < (l.length : Int)), pf hl1.symm, pf (by omega : (n + 1) * 9 ≤ 140737488355328), pf (rfl : 1 = [[cI (l.getD i.toNat 0)]].length)] (by kernel_rfl) ?_
    refine reg mix [] [pf (⟨hc, hi1⟩ : 0 ≤ i ∧ i < (l.length : Int)), pf hl2.symm, pf (by omega : (n + 1) * 9 ≤ 140737488355328), pf (rfl : 1 = [[cI (IntKind.i64.wrap (l.getD i.toNat 0 + shift))]].length)] (by kernel_rfl) ?_
    refine run_nil (blockR_normal ?_)
    refine reg0 mix (by kernel_rfl) ?_
    have ei : IntKind.i64.wrap (i - 1) = i - 1 := w64 _ (by omega) (by omega)
    have ew : IntKind.i64.wrap (l.getD i.toNat 0 + shift) = l.getD i.toNat 0 + shift := w64 _ (by omega) (by omega)
    have hrg : l.reverse.getD n 0 = l.getD i.toNat 0 := by rw [rev_getD (by omega)]; congr 1; omega
    have hmg : (l.reverse.map (· + shift)).getD n 0 = l.getD i.toNat 0 + shift := by
      rw [← hrg]
      simp [List.getD_eq_getElem?_getD, show n < l.length by omega]
    refine run_nil (loopR_next (IntKind.i64.wrap (i - 1), n + 1, rowI (l.reverse.take n) ++ [[cI (l.getD i.toNat 0)]], rowI ((l.reverse.map (· + shift)).take n) ++ [[cI (IntKind.i64.wrap (l.getD i.toNat 0 + shift))]]) (wkTo [0, 1, 2, 3, 9, 10, 11, 12] [65, 74] (by kernel_rfl)) ⟨by simp only; rw [ei]; omega, by simp only; rw [ei]; omega, by simp only; rw [ei]; omega, ?_, ?_, ?_⟩ (by simp only; rw [ei]; omega))
    · simp only
      rw [rowI_succ (by simp; omega), hrg]
    · simp only
      rw [rowI_succ (by simp; omega), hmg, ew]
    · intro y hy
      simp only at hy
      rw [take_getD (by simp; omega), hrg] at hy
      rcases List.mem_append.1 hy with hy | hy
      · exact hr y hy
      · rw [List.mem_singleton.1 hy]; omega
  have hc : ¬ i ≥ 0 := of_decide_eq_false hc
  have hnl : n = l.length := by omega
  subst hnl
  have t1 : l.reverse.take l.length = l.reverse := List.take_of_length_le (by simp)
  have t2 : (l.reverse.map (· + shift)).take l.length = l.reverse.map (· + shift) := List.take_of_length_le (by simp)
  rw [t1] at hr hl1
  rw [t2] at hl2
  rw [t1, t2]
  refine run_exit (loopR_exit (blockR_exit ?_))
  have hR : [] ++ (List.range l.length).map (elI l) = rowI l := by
    rw [List.nil_append]
    apply List.ext_getElem
    · simp [rowI]
    · intro i h1 h2
      simp [rowI, elI, List.getD_eq_getElem?_getD, show i < l.length by simpa using h1]
  refine reg mix [] [pf (rfl : 0 = ([] : List (List C)).length), pf (by omega : (0 + l.length) * 9 ≤ 140737488355328)] (by kernel_rfl) ?_
  refine rTold (mkS 145 [(0, .b (.v (lI l))), (1, .b (.v (vI shift))), (2, .b (.v (.c (.int .u8 w)))), (3, .b (.v (.c (.int .u16 b)))), (9, .b (.v (vB true))), (10, .b (.v (.c (.row 1 l.length)))), (11, .b (.v (.c (.row 2 l.length)))), (13, .b (.v (.c (.row 76 (0 + l.length)))))] [(1, .row 3 1 (rowI l.reverse)), (2, .row 3 1 (rowI (l.reverse.map (· + shift)))), (76, .row 3 1 ([] ++ (List.range l.length).map (elI l)))]) [0, 1, 2, 3, 9, 10, 11, 13] [] (by kernel_rfl) ?_ (List.cons_ne_nil _ _)
  rw [hR, Nat.zero_add]
  obtain ⟨k, hk⟩ : ∃ k : Nat, (IntKind.i64.wrap w).tmod (l.length : Int) = k := by
    rw [w64 w (by omega) (by omega)]
    exact ⟨(w % l.length).toNat, by rw [Int.tmod_eq_emod_of_nonneg hw.1]; exact (Int.toNat_of_nonneg (Int.emod_nonneg _ (by omega))).symm⟩
  have hkl : k < l.length := by
    have := Int.tmod_lt_of_pos w (show (0 : Int) < (l.length : Int) by omega)
    rw [w64 w (by omega) (by omega)] at hk
    omega
  have ew : IntKind.i64.wrap b = b := w64 _ (by omega) (by omega)
  have q1 : QAt ((IntKind.i64.wrap w).tmod (l.length : Int)) l.length (rowI l) := ⟨by rw [hk]; omega, by rw [rowI_len]⟩
  have q2 : QEl l.length ((IntKind.i64.wrap w).tmod (l.length : Int)).toNat (rowI l) [cI (l.getD k 0)] := by
    rw [hk]
    exact ⟨⟨by rw [rowI_len], by omega⟩, by simp [rowI, List.getD_eq_getElem?_getD, hkl]⟩
  refine reg mix [(7, .frz 0 (fun _ => [cI (l.getD k 0)])), (12, .frz 0 (fun _ => [cI (l.getD k 0)]))] [pf (by omega : (l.length : Int) ≠ 0), pf q1, pf q2, pf q1, pf q2] (by kernel_rfl) ?_
  have hlk : -1000000000 ≤ l.getD k 0 ∧ l.getD k 0 ≤ 1000000000 := hr _ (by simp [List.getD_eq_getElem?_getD, hkl])
  have ek : IntKind.i64.wrap (l.getD k 0 + IntKind.i64.wrap b) = l.getD k 0 + b := by rw [ew, w64 _ (by omega) (by omega)]
  have hset : (rowI l).set ((IntKind.i64.wrap w).tmod (l.length : Int)).toNat [cI (IntKind.i64.wrap (l.getD k 0 + IntKind.i64.wrap b))] = rowI (l.set k (l.getD k 0 + b)) := by
    rw [ek, hk, Int.toNat_natCast]
    simp [rowI]
  have n1 : l.reverse.length = l.length := by simp
  have n2 : (l.reverse.map (· + shift)).length = l.length := by simp
  have n3 : (l.set k (l.getD k 0 + b)).length = l.length := by simp
  refine frzRow hB 10 1 l.length 3 1 (rowI l.reverse) (elI l.reverse) [0, 1, 9, 11, 13] [] (by kernel_rfl) (by kernel_rfl) hl1.symm (fun i hi => rowI_el n1 hi) (by kernel_rfl) ?_ (List.cons_ne_nil _ _)
  refine frzRow hB 11 2 l.length 3 1 (rowI (l.reverse.map (· + shift))) (elI (l.reverse.map (· + shift))) [0, 1, 9, 10, 13] [] (by kernel_rfl) (by kernel_rfl) hl2.symm (fun i hi => rowI_el n2 hi) (by kernel_rfl) ?_ (List.cons_ne_nil _ _)
  refine frzRow hB 13 76 l.length 3 1 ((rowI l).set ((IntKind.i64.wrap w).tmod (l.length : Int)).toNat [cI (IntKind.i64.wrap (l.getD k 0 + IntKind.i64.wrap b))]) (elI (l.set k (l.getD k 0 + b))) [0, 1, 9, 10, 11] [] (by kernel_rfl) (by kernel_rfl) (by rw [List.length_set, rowI_len]) (fun i hi => by rw [hset]; exact rowI_el n3 hi) (by kernel_rfl) ?_ (List.cons_ne_nil _ _)
  have p1 : medI l.reverse = medI l := (med_perm (List.reverse_perm l).symm h0).symm
  have p2 : medI (l.reverse.map (· + shift)) = medI l + shift := by rw [med_shift (by simpa using h0), p1]
  have p3 : medI l ≤ medI (l.set k (l.getD k 0 + b)) := med_more h0 (by omega)
  have p4 : -1000000000 ≤ medI l ∧ medI l ≤ 1000000000 := hr _ (by simpa using med_mem h0)
  have p5 : IntKind.i64.wrap (medI l + shift) = medI l + shift := w64 _ (by omega) (by omega)
  refine regC mix [(1, con (k13n (l := l) rfl h0 (by omega)))] (by kernel_rfl) ?_
  refine regC mix [(1, con (k13n n1 h0 (by omega)))] (by kernel_rfl) ?_
  refine regC mix [(1, con (k13n n2 h0 (by omega)))] (by kernel_rfl) ?_
  refine regC mix [(1, con (k13n n3 h0 (by omega)))] (by kernel_rfl) ?_
  refine reg0 mix (by kernel_rfl) ?_
  refine run_ret (ret_of (.v (vB ((medI l == medI l.reverse && (medI (l.reverse.map (· + shift)) == IntKind.i64.wrap (medI l + shift))) && decide (medI (l.set k (l.getD k 0 + b)) ≥ medI l)))) (by kernel_rfl) ?_)
  rw [p1, p2, p5, decide_eq_true (by omega)]; simp
end Go.Proofs.Ytmdgbejfdcfhpaa
