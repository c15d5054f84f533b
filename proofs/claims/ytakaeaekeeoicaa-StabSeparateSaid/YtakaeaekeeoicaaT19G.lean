import Derived.Test.YtakaeaekeeoicaaT19P
namespace Go.Proofs.Ytakaeaekeeoicaa
open Go.Sym
set_option linter.unusedVariables false
set_option linter.unusedSimpArgs false

/-! ### Plan, told by its parts -/
theorem planR_len (l : List Sp) : (planR l).1.pts.length ≤ l.length ∧ (planR l).1.aps.length ≤ l.length := by
  unfold planR; split
  · exact planP_len l l.length (Nat.le_refl _)
  · simp
theorem planR_ok {l : List Sp} (hv : valid l = true) : planR l = (pln l, 0) := by rw [planR, if_pos hv]; rfl
theorem planR_no {l : List Sp} (hv : valid l = false) : planR l = (⟨[], []⟩, 1) := by rw [planR, if_neg (by rw [hv]; exact Bool.false_ne_true)]
theorem pln_le (l : List Sp) : (pln l).pts.length ≤ l.length ∧ (pln l).aps.length ≤ l.length := planP_len l l.length (Nat.le_refl _)
theorem p12 {l : List Sp} (hv : valid l = true) : FCall Try.prog 12 [lSp l] (.tup [lI (pln l).pts, lI (pln l).aps, vI 0]) := by
  have h := f12 l (by have := valid_len hv; omega)
  rw [planR_ok hv] at h; exact h
theorem n12 {l : List Sp} (hl : l.length ≤ 1000000) (hv : valid l = false) : FCall Try.prog 12 [lSp l] (.tup [lI [], lI [], vI 1]) := by
  have h := f12 l hl
  rw [planR_no hv] at h; exact h
theorem i14 (a : List Int) (ha : a.length ≤ 1000000) : FCall Try.prog 14 [lI a, lI a] (.v (vB true)) := by
  have h := f14 a a ha
  rw [decide_eq_true rfl] at h; exact h

/-! ### The example -/
theorem CVle.nil (sz : Nat) (f : Nat → List C) : CVle (.c .nil) (.c (.lst sz 0 f)) := fun K v h => by
  obtain ⟨h1, h2⟩ := h
  cases h1
  exact ⟨RelK.lst0 sz f, rfl⟩
def l4 : List Sp := [⟨1, 4⟩, ⟨3, 6⟩, ⟨8, 9⟩, ⟨4, 8⟩]
theorem h4a : FCall Try.prog 12 [lSp l4] (.tup [lI [4, 9], lI [0, 2], vI 0]) := by
  have h := f12 l4 (by decide)
  rw [show sbP (planR l4) = .tup [lI [4, 9], lI [0, 2], vI 0] by kernel_rfl] at h
  exact h
theorem h4b : FCall Try.prog 12 [.c .nil] (.tup [lI [], lI [], vI 0]) := by
  have h := f12 [] (by decide)
  rw [show sbP (planR []) = .tup [lI [], lI [], vI 0] by kernel_rfl] at h
  exact h.of_le ⟨CVle.nil _ _, trivial⟩
theorem h4c : FCall Try.prog 15 [lSp l4, lI [4, 8], lI [0, 2]] (.v (vB true)) := by
  have h := f15 l4 [4, 8] [0, 2] (by decide) (by decide) (by decide)
  rw [show chkB l4 [4, 8] [0, 2] = true by kernel_rfl] at h
  exact h
theorem h4d : FCall Try.prog 15 [lSp l4, lI [3, 4, 8], lI [0, 2]] (.v (vB false)) := by
  have h := f15 l4 [3, 4, 8] [0, 2] (by decide) (by decide) (by decide)
  rw [show chkB l4 [3, 4, 8] [0, 2] = false by kernel_rfl] at h
  exact h
theorem h4e : FCall Try.prog 15 [lSp l4, lI [4, 9], lI [0, 3]] (.v (vB false)) := by
  have h := f15 l4 [4, 9] [0, 3] (by decide) (by decide) (by decide)
  rw [show chkB l4 [4, 9] [0, 3] = false by kernel_rfl] at h
  exact h
theorem two (a b : Int) : 2 = 2 ∧ ∀ i, i < 2 → elI [a, b] i = [[cI a], [cI b]].getD i [] := ⟨rfl, fun i hi => by
  match i, hi with
  | 0, _ => rfl
  | 1, _ => rfl⟩
theorem three (a b c : Int) : 3 = 3 ∧ ∀ i, i < 3 → elI [a, b, c] i = [[cI a], [cI b], [cI c]].getD i [] := ⟨rfl, fun i hi => by
  match i, hi with
  | 0, _ => rfl
  | 1, _ => rfl
  | 2, _ => rfl⟩
theorem f10 : FCall Try.prog 10 [] (.v (vB true)) := by
  refine fcall_of Try.func10 rfl (by kernel_rfl) (fun B hB => ?_)
  refine reg0 mix (by kernel_rfl) ?_
  refine reg mix [(4, .frz 4 (elSp l4))] [pf ((⟨rfl, fun i hi => by
    match i, hi with
    | 0, _ => rfl
    | 1, _ => rfl
    | 2, _ => rfl
    | 3, _ => rfl⟩) : 4 = 4 ∧ ∀ i, i < 4 → elSp l4 i = [encSp ⟨1, 4⟩, encSp ⟨3, 6⟩, encSp ⟨8, 9⟩, encSp ⟨4, 8⟩].getD i [])] (by kernel_rfl) ?_
  refine regC mix [(1, con h4a)] (by kernel_rfl) ?_
  refine regC mix [(0, con h4b)] (by kernel_rfl) ?_
  refine reg mix [(4, .frz 2 (elI [4, 9])), (5, hcon (i14 [4, 9] (by decide))), (9, .frz 2 (elI [0, 2])), (10, hcon (i14 [0, 2] (by decide)))] [pf (two 4 9), pf (i14 [4, 9] (by decide)), pf (two 0 2), pf (i14 [0, 2] (by decide))] (by kernel_rfl) ?_
  refine reg mix [(3, .frz 2 (elI [4, 8])), (4, .frz 2 (elI [0, 2])), (5, hcon h4c), (9, .frz 3 (elI [3, 4, 8])), (10, .frz 2 (elI [0, 2])), (11, hcon h4d), (16, .frz 2 (elI [4, 9])), (17, .frz 2 (elI [0, 3])), (18, hcon h4e)] [pf (two 4 8), pf (two 0 2), pf h4c, pf (three 3 4 8), pf (two 0 2), pf h4d, pf (two 4 9), pf (two 0 3), pf h4e] (by kernel_rfl) ?_
  exact run_ret (ret_of (.v (vB true)) (by kernel_rfl) rfl)

/-! ### Laws -/
theorem f3 (l : List Sp) (pts aps : List Int) : FCall Try.prog 3 [lSp l, lI pts, lI aps] (.v (vB true)) := by
  refine fcall_of Try.func3 rfl (by kernel_rfl) (fun B hB => ?_)
  refine reg0 mix (by kernel_rfl) ?_
  refine regC mix [(0, con f10)] (by kernel_rfl) ?_
  refine regC mix [(1, con (f11 l))] (by kernel_rfl) ?_
  refine rCond ((!few l || decide ((pts.length : Int) > 40)) || decide ((aps.length : Int) > 40)) (by kernel_rfl) (fun h => ?_) (fun h => ?_)
  · refine reg0 mix (by kernel_rfl) ?_
    exact run_ret (ret_of (.v (vB true)) (by kernel_rfl) rfl)
  simp only [Bool.or_eq_false_iff, Bool.not_eq_false', few, Bool.or_eq_true, Bool.and_eq_true, decide_eq_true_eq, decide_eq_false_iff_not] at h
  have hl : l.length ≤ 1000000 := by omega
  have c12 := f12 l hl
  have c13 := g13 l hl
  have hpl := planR_len l
  have c15 := f15 l pts aps hl (by omega) (by omega)
  have c16 := f16 l pts aps hl (by omega) (by omega)
  generalize planR l = r at c12 c13 hpl
  generalize chkB l pts aps = c at c15 c16
  have ci := i14 r.1.pts (by omega)
  have cj := i14 r.1.aps (by omega)
  refine regC mix [(1, con c12)] (by kernel_rfl) ?_
  refine regC mix [(1, con c13)] (by kernel_rfl) ?_
  refine reg mix [(4, hcon ci), (9, hcon cj), (20, hcon c15), (24, hcon c16)] [pf ci, pf cj, pf c15, pf c16] (by kernel_rfl) ?_
  refine run_ret (ret_of (.v (vB ((r.2 == r.2) && (c == c)))) (by kernel_rfl) ?_)
  simp

theorem f4 (l : List Sp) : FCall Try.prog 4 [lSp l] (.v (vB true)) := by
  refine fcall_of Try.func4 rfl (by kernel_rfl) (fun B hB => ?_)
  refine reg0 mix (by kernel_rfl) ?_
  refine regC mix [(0, con f10)] (by kernel_rfl) ?_
  refine regC mix [(1, con (f11 l))] (by kernel_rfl) ?_
  refine rCond (!few l) (by kernel_rfl) (fun h => ?_) (fun h => ?_)
  · refine reg0 mix (by kernel_rfl) ?_
    exact run_ret (ret_of (.v (vB true)) (by kernel_rfl) rfl)
  simp only [Bool.not_eq_false', few, Bool.or_eq_true, Bool.and_eq_true, decide_eq_true_eq] at h
  have hl : l.length ≤ 1000000 := by omega
  cases hv : valid l with
  | true =>
    have hpl := pln_le l
    have c15 := f15 l (pln l).pts (pln l).aps hl (by omega) (by omega)
    rw [chk_true (pln_chk hv)] at c15
    have c12 := p12 hv
    refine regC mix [(1, con c12)] (by kernel_rfl) ?_
    refine reg mix [(5, hcon c15)] [pf c15] (by kernel_rfl) ?_
    exact run_ret (ret_of (.v (vB true)) (by kernel_rfl) rfl)
  | false =>
    have c15 := f15 l [] [] hl (by simp) (by simp)
    rw [chk_false (fun hc => by rw [hc.val] at hv; cases hv)] at c15
    have c12 := n12 hl hv
    refine regC mix [(1, con c12)] (by kernel_rfl) ?_
    refine reg mix [(5, hcon c15)] [pf c15] (by kernel_rfl) ?_
    exact run_ret (ret_of (.v (vB true)) (by kernel_rfl) rfl)

theorem f5 (l : List Sp) (pts aps oth : List Int) : FCall Try.prog 5 [lSp l, lI pts, lI aps, lI oth] (.v (vB true)) := by
  refine fcall_of Try.func5 rfl (by kernel_rfl) (fun B hB => ?_)
  refine reg0 mix (by kernel_rfl) ?_
  refine regC mix [(0, con f10)] (by kernel_rfl) ?_
  refine reg0 mix (by kernel_rfl) ?_
  refine rCond (((decide ((l.length : Int) > 30) || decide ((pts.length : Int) > 40)) || decide ((aps.length : Int) > 40)) || decide ((oth.length : Int) > 40)) (by kernel_rfl) (fun h => ?_) (fun h => ?_)
  · refine reg0 mix (by kernel_rfl) ?_
    exact run_ret (ret_of (.v (vB true)) (by kernel_rfl) rfl)
  simp only [Bool.or_eq_false_iff, decide_eq_false_iff_not] at h
  have hl : l.length ≤ 1000000 := by omega
  have c17 := f17 l pts hl (by omega)
  have d17 := f17 l oth hl (by omega)
  have c15 := f15 l pts aps hl (by omega) (by omega)
  cases hv : valid l with
  | false =>
    have e17 := f17 l [] hl (by simp)
    have c12 := n12 hl hv
    refine regC mix [(1, con c12)] (by kernel_rfl) ?_
    refine reg mix [(5, hcon e17)] [pf e17] (by kernel_rfl) ?_
    refine rCondT true (by kernel_rfl) rfl ?_
    refine reg0 mix (by kernel_rfl) ?_
    exact run_ret (ret_of (.v (vB true)) (by kernel_rfl) rfl)
  | true =>
    have hpl := pln_le l
    have e17 := f17 l (pln l).pts hl (by omega)
    rw [pln_meets hv] at e17
    have c12 := p12 hv
    refine regC mix [(1, con c12)] (by kernel_rfl) ?_
    refine reg mix [(5, hcon e17)] [pf e17] (by kernel_rfl) ?_
    refine rCondF false (by kernel_rfl) rfl ?_
    refine regC mix [(3, con c15)] (by kernel_rfl) ?_
    refine reg mix [(4, hcon c17)] [pf c17] (by kernel_rfl) ?_
    refine rCondF (chkB l pts aps && (!meets l pts || ((pts.length : Int) != ((pln l).pts.length : Int)))) (by kernel_rfl) ?_ ?_
    · rw [Bool.and_eq_false_iff]
      cases hc : chkB l pts aps with
      | false => exact .inl rfl
      | true =>
        have hk := (chk_iff l pts aps).1 hc
        refine .inr ?_
        rw [hk.met, chk_len hk]; simp
    refine reg mix [(4, hcon d17)] [pf d17] (by kernel_rfl) ?_
    refine run_ret (ret_of (.v (vB (!meets l oth || decide ((oth.length : Int) ≥ ((pln l).pts.length : Int))))) (by kernel_rfl) ?_)
    cases hm : meets l oth with
    | false => rfl
    | true =>
      have := pln_least hv hm
      rw [decide_eq_true (by omega)]; rfl

/-! ### In the opposite order, and twice -/
def bk (l : List Sp) : List Sp := l.reverse.flatMap fun s => [s, s]
theorem bk_mem {l : List Sp} {s : Sp} : s ∈ bk l ↔ s ∈ l := by simp [bk]
theorem bk_cons (a : Sp) (l : List Sp) : bk (a :: l) = bk l ++ [a, a] := by rw [bk, bk, List.reverse_cons, List.flatMap_append]; simp
theorem bk_len : ∀ (l : List Sp), (bk l).length = 2 * l.length
  | [] => rfl
  | a :: l => by rw [bk_cons, List.length_append, bk_len l]; simp; omega
theorem valid_same {a b : List Sp} (ha : a.length ≤ 1000) (hb : b.length ≤ 1000) (h : ∀ s, s ∈ a ↔ s ∈ b) : valid a = valid b := by
  have e : a.any wrong = b.any wrong := by
    rw [Bool.eq_iff_iff, List.any_eq_true, List.any_eq_true]
    constructor
    · rintro ⟨s, h1, h2⟩; exact ⟨s, (h s).1 h1, h2⟩
    · rintro ⟨s, h1, h2⟩; exact ⟨s, (h s).2 h1, h2⟩
  rw [valid, valid, e, decide_eq_true (by omega), decide_eq_true (by omega)]
theorem bk_plan {l : List Sp} (hl : l.length ≤ 30) : (planR (bk l)).2 = (planR l).2 ∧ (planR (bk l)).1.pts = (planR l).1.pts := by
  have hv := valid_same (a := bk l) (b := l) (by rw [bk_len]; omega) (by omega) fun s => bk_mem
  cases h : valid l with
  | true =>
    rw [h] at hv
    rw [planR_ok h, planR_ok hv]
    exact ⟨rfl, pts_same hv h fun s => bk_mem⟩
  | false =>
    rw [h] at hv
    rw [planR_no h, planR_no hv]
    exact ⟨rfl, rfl⟩
def lw6 (l : List Sp) (x : Int × Nat × List (List C)) : S := mkS 58 [(0, .b (.v (lSp l))), (3, .b (.v (vB true))), (4, .b (.v (.c (.row 1 x.2.1)))), (5, .b (.v (vI x.1)))] [(1, .row 34 2 x.2.2)]
theorem rowSp_el {l : List Sp} {j : Nat} (h : j < l.length) : elSp l j = (rowSp l).getD j [] := (rowSp_at h).symm
theorem f6 (l : List Sp) : FCall Try.prog 6 [lSp l] (.v (vB true)) := by
  refine fcall_of Try.func6 rfl (by kernel_rfl) (fun B hB => ?_)
  refine reg0 mix (by kernel_rfl) ?_
  refine regC mix [(0, con f10)] (by kernel_rfl) ?_
  refine reg0 mix (by kernel_rfl) ?_
  refine rCond (decide ((l.length : Int) > 30)) (by kernel_rfl) (fun h => ?_) (fun h => ?_)
  · refine reg0 mix (by kernel_rfl) ?_
    exact run_ret (ret_of (.v (vB true)) (by kernel_rfl) rfl)
  have hl : l.length ≤ 30 := by have := of_decide_eq_false h; omega
  refine reg0 mix (by kernel_rfl) ?_
  refine run_weaken (wk_nilRow 4 1 34 2 (by kernel_rfl) (by kernel_rfl) (by omega)) ?_ (List.cons_ne_nil _ _)
  refine reg0 mix (by kernel_rfl) ?_
  refine rBlock ?_
  have e0 : IntKind.i64.wrap ((l.length : Int) - 1) = (l.length : Int) - 1 := w64 _ (by omega) (by omega)
  refine rLoop (lw6 l) (fun x => -1 ≤ x.1 ∧ x.1 < l.length ∧ x.2.1 = (bk (l.drop (x.1 + 1).toNat)).length ∧ x.2.2 = rowSp (bk (l.drop (x.1 + 1).toNat))) (fun x => (x.1 + 1).toNat) (IntKind.i64.wrap ((l.length : Int) - 1), 0, []) (wkTo [0, 3, 4, 5] [] (by kernel_rfl)) ⟨by simp only [e0]; omega, by simp only [e0]; omega, by simp only [e0]; simp [bk], by simp only [e0]; simp [bk, rowSp]⟩ ?_
  rintro ⟨i, n, css⟩ ⟨hi0, hi1, hn, hcss⟩
  simp only at hi0 hi1 hn hcss
  have hcn : css.length = n := by rw [hcss, rowSp_len, hn]
  have hnl : n ≤ 60 := by rw [hn, bk_len]; simp; omega
  refine reg0 mix (by kernel_rfl) ?_
  refine rCond (decide (i ≥ 0)) (by kernel_rfl) (fun hc => ?_) (fun hc => ?_)
  · have hc : i ≥ 0 := of_decide_eq_true hc
    have e1 : IntKind.i64.wrap (i - 1) = i - 1 := w64 _ (by omega) (by omega)
    have hd : l.drop (i - 1 + 1).toNat = l.getD i.toNat zSp :: l.drop (i + 1).toNat := by
      rw [show (i - 1 + 1).toNat = i.toNat by omega, show (i + 1).toNat = i.toNat + 1 by omega, List.drop_eq_getElem_cons (by omega)]
      simp [List.getD_eq_getElem?_getD, show i.toNat < l.length by omega]
    have hb : bk (l.drop (i - 1 + 1).toNat) = bk (l.drop (i + 1).toNat) ++ [l.getD i.toNat zSp, l.getD i.toNat zSp] := by
      rw [hd, bk, bk, List.reverse_cons, List.flatMap_append]; simp
    refine rBlock ?_
    refine reg mix [] [pf (⟨hc, hi1⟩ : 0 ≤ i ∧ i < (l.length : Int)), pf (⟨hc, hi1⟩ : 0 ≤ i ∧ i < (l.length : Int)), pf hcn.symm, pf (by omega : (n + 2) * 17 ≤ 140737488355328), pf (rfl : 2 = [encSp (l.getD i.toNat zSp), encSp (l.getD i.toNat zSp)].length)] (by kernel_rfl) ?_
    refine run_nil (blockR_normal ?_)
    refine reg0 mix (by kernel_rfl) ?_
    refine run_nil (loopR_next (IntKind.i64.wrap (i - 1), n + 2, css ++ [encSp (l.getD i.toNat zSp), encSp (l.getD i.toNat zSp)]) (wkTo [0, 3, 4, 5] [33] (by kernel_rfl)) ?_ ?_)
    · simp only [e1]
      refine ⟨by omega, by omega, ?_, ?_⟩
      · rw [hb, List.length_append, hn]; rfl
      · rw [hb, hcss]; simp [rowSp]
    · simp only [e1]; omega
  have hc : ¬ i ≥ 0 := of_decide_eq_false hc
  rw [show (i + 1).toNat = 0 by omega, List.drop_zero] at hn hcss
  subst hn hcss
  obtain ⟨q1, q2⟩ := bk_plan hl
  have c12 := f12 l (by omega)
  have d12 := f12 (bk l) (by rw [bk_len]; omega)
  have hpl := planR_len l
  rw [sbP, q1, q2] at d12
  generalize (planR (bk l)).1.aps = x at d12
  generalize planR l = r at c12 d12 hpl
  have ci := i14 r.1.pts (by omega)
  refine run_exit (loopR_exit (blockR_exit ?_))
  refine frzRow hB 4 1 (bk l).length 34 2 (rowSp (bk l)) (elSp (bk l)) [0, 3] [] (by kernel_rfl) (by kernel_rfl) hcn.symm (fun j hj => rowSp_el hj) (by kernel_rfl) ?_ (List.cons_ne_nil _ _)
  refine regC mix [(1, con c12)] (by kernel_rfl) ?_
  refine regC mix [(1, con d12)] (by kernel_rfl) ?_
  refine regI mix [(9, hcon ci)] [pf (fun _ : (r.2 == r.2) = true => ci)] (by kernel_rfl) ?_
  refine run_ret (ret_of (.v (vB ((r.2 == r.2) && true))) (by kernel_rfl) ?_)
  simp
end Go.Proofs.Ytakaeaekeeoicaa
