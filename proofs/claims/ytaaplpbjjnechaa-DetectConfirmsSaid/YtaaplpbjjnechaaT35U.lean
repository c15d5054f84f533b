import Derived.Test.YtaaplpbjjnechaaT35T
import Derived.Test.YtaaplpbjjnechaaT35O
namespace Go.Proofs.Ytaaplpbjjnechaa
set_option linter.unusedVariables false
set_option linter.unusedSimpArgs false
section
open Go.Sym

/-! ### The laws: the reference, additions -/
theorem lis_len (t f a : Int) (m : M4) (v : V4) : (lisR t f a m v).1.length ≤ 1000000 := by
  unfold lisR; split
  · have := acc_le t f a m v 4; simp only; omega
  · simp
theorem cntR_len (l : List De) (h : l.length ≤ 1010) : (cntR l).1.length ≤ 1000000 := by
  unfold cntR; split
  · simp
  · split
    · have := cnt_len l; simp only; omega
    · simp
theorem conR_len (l : List Ta) (k : Int) (h : l.length ≤ 1001) : (conR l k).1.length ≤ 1000000 := by
  unfold conR; split
  · have := atLeast_le (k := k) (l := l); simp only; omega
  · simp
theorem addR_len (l : List Ta) (d : De) (h : l.length ≤ 1000) : (addR l d).1.length ≤ 1001 := by
  have := insT_len l d.pl
  unfold addR; split
  · split
    · simp only; omega
    · simp
  · simp
theorem few_len {l : List De} {t : List Ta} (h : fewB l t = true) : l.length ≤ 1010 ∧ t.length ≤ 40 := by
  simp only [fewB, Bool.and_eq_true, Bool.or_eq_true, decide_eq_true_eq] at h
  omega
theorem f6 (t f a : Int) (m : M4) (v : V4) (l : List De) (ts : List Ta) (d : De) (k : Int) :
    FCall Try.prog 6 [vI t, vI f, vI a, .agg (encM m), .agg (encV v), lDe l, lTa ts, .agg (encDe d), vI k] (.v (vB true)) := by
  have c12 := f12 l ts
  refine fcall_of Try.func6 rfl (by kernel_rfl) (fun B hB => ?_)
  refine reg mix [(0, .imm), (1, .imm), (2, .imm)] [] (by kernel_rfl) ?_
  refine regC mix [(0, con f9)] (by kernel_rfl) ?_
  refine regC mix [(2, con c12)] (by kernel_rfl) ?_
  refine rCond (!fewB l ts) (by kernel_rfl) (fun h => ?_) (fun h => ?_)
  · refine reg0 mix (by kernel_rfl) ?_
    exact run_ret (ret_of (.v (vB true)) (by kernel_rfl) rfl)
  obtain ⟨hl, ht⟩ := few_len (show fewB l ts = true by simpa using h)
  have c10 := f10 t f a m v
  have c15 := f15 t f a m v
  have hA := lis_len t f a m v
  have c11 := f11 l
  have c16 := f16 l
  have hP := cntR_len l hl
  have c17 := f17 ts d (by omega)
  have c18 := f18 ts d (by omega)
  have hX := addR_len ts d (by omega)
  have c19 := f19 ts k (by omega)
  have c20 := f20 ts k (by omega)
  have hU := conR_len ts k (by omega)
  generalize (lisR t f a m v).1 = A, (lisR t f a m v).2 = e at c10 c15 hA
  generalize (cntR l).1 = Pp, (cntR l).2 = g at c11 c16 hP
  generalize (addR ts d).1 = X, (addR ts d).2 = i at c17 c18 hX
  generalize (conR ts k).1 = U, (conR ts k).2 = j at c19 c20 hU
  have cA := f21 A A hA
  have cP := f14 Pp Pp hP
  have cX := f14 X X (by omega)
  have cU := f14 U U hU
  rw [decide_eq_true rfl] at cA cP cX cU
  refine regC mix [(5, con c10)] (by kernel_rfl) ?_
  refine regC mix [(5, con c15)] (by kernel_rfl) ?_
  refine regC mix [(1, con c11)] (by kernel_rfl) ?_
  refine regC mix [(1, con c16)] (by kernel_rfl) ?_
  refine regC mix [(2, con c17)] (by kernel_rfl) ?_
  refine regC mix [(2, con c18)] (by kernel_rfl) ?_
  refine regC mix [(2, con c19)] (by kernel_rfl) ?_
  refine regC mix [(2, con c20)] (by kernel_rfl) ?_
  refine regI mix [(2, hcon cA), (11, hcon cP)] [pf (fun _ : true = true => cA), pf (fun _ : (true && (e == e)) = true => cP)] (by kernel_rfl) ?_
  refine regI mix [(7, hcon cX), (17, hcon cU)] [pf (fun _ : (true && (((true && (e == e)) && true) && (g == g))) = true => cX), pf (fun _ : (((true && (((true && (e == e)) && true) && (g == g))) && true) && (i == i)) = true => cU)] (by kernel_rfl) ?_
  refine run_ret (ret_of (.v (vB (((((true && (((true && (e == e)) && true) && (g == g))) && true) && (i == i)) && true) && (j == j)))) (by kernel_rfl) ?_)
  simp
theorem cnt_ok {l : List De} (hl : l.length ≤ 1000) (hall : l.all okDe = true) : OkTs (cnt l) := by
  have hr := cnt_rep l (by omega)
  refine ⟨fun i hi => ?_, Nat.le_trans (cnt_len l) hl⟩
  have hm := hr.mem _ (taAt_mem hi)
  have hle := cN_le l (taAt (cnt l) i).pl
  have hex : exB (taAt (cnt l) i).pl = true := by
    by_cases h : ∃ d, d ∈ l ∧ d.pl = (taAt (cnt l) i).pl
    · obtain ⟨d, hd, e⟩ := h
      rw [← e]
      exact (ok_iff.1 (List.all_eq_true.1 hall d hd)).1
    · have := cN_zero (l := l) (p := (taAt (cnt l) i).pl) fun d hd e => h ⟨d, hd, e⟩
      omega
  unfold badT
  rw [hex, decide_eq_false (show ¬ (taAt (cnt l) i).n < 1 by omega), decide_eq_false (show ¬ (taAt (cnt l) i).n > 1000 by omega)]
  by_cases h0 : (i : Int) > 0
  · rw [strict_at hr.strict (i := i - 1) (j := i) (by omega) hi]; simp
  · rw [decide_eq_false h0]; rfl
theorem f7 (l : List De) (d : De) : FCall Try.prog 7 [lDe l, .agg (encDe d)] (.v (vB true)) := by
  refine fcall_of Try.func7 rfl (by kernel_rfl) (fun B hB => ?_)
  refine reg mix [(0, .imm)] [] (by kernel_rfl) ?_
  refine regC mix [(0, con f9)] (by kernel_rfl) ?_
  refine reg0 mix (by kernel_rfl) ?_
  refine rCond (decide ((l.length : Int) > 40)) (by kernel_rfl) (fun h => ?_) (fun h => ?_)
  · refine reg0 mix (by kernel_rfl) ?_
    exact run_ret (ret_of (.v (vB true)) (by kernel_rfl) rfl)
  have hl : l.length ≤ 40 := by have := of_decide_eq_false h; omega
  have c11 := f11 l
  have c11' := f11 (l ++ [d])
  have hcl : (cntR l).1.length ≤ 1000 := by
    unfold cntR; split
    · simp
    · split
      · have := cnt_len l; simp only; omega
      · simp
  have c17 := f17 (cntR l).1 d (by omega)
  have hxl := addR_len (cntR l).1 d hcl
  have key : (cntR l).2 ≠ 0 ∨ ((cntR (l ++ [d])).2 = 1 ∧ (addR (cntR l).1 d).2 = 1) ∨ ((cntR l).2 = 0 ∧ (cntR (l ++ [d])).2 = 0 ∧ (addR (cntR l).1 d).2 = 0 ∧ (addR (cntR l).1 d).1 = (cntR (l ++ [d])).1) := by
    have h1 : ¬ (l.length : Int) > 1000 := by omega
    have h2 : ¬ ((l ++ [d]).length : Int) > 1000 := by rw [List.length_append, List.length_singleton]; omega
    by_cases hall : l.all okDe = true
    · have e1 : cntR l = (cnt l, 0) := by rw [cntR, if_neg h1, if_pos hall]
      by_cases hd : okDe d = true
      · have hall2 : (l ++ [d]).all okDe = true := by rw [List.all_append, hall]; simp [hd]
        have e2 : cntR (l ++ [d]) = (cnt (l ++ [d]), 0) := by rw [cntR, if_neg h2, if_pos hall2]
        have h3 : okTs (cnt l) = true := okTs_iff.2 (cnt_ok (by omega) hall)
        have h4 : okTs (insT (cnt l) d.pl) = true := by rw [← cnt_snoc]; exact okTs_iff.2 (cnt_ok (by simp; omega) hall2)
        have e3 : addR (cnt l) d = (insT (cnt l) d.pl, 0) := by rw [addR, if_pos ⟨h3, hd⟩, if_pos h4]
        rw [e1, e2, e3]
        exact .inr (.inr ⟨rfl, rfl, rfl, (cnt_snoc l d).symm⟩)
      · have hall2 : ¬ (l ++ [d]).all okDe = true := by rw [List.all_append]; simp [hd]
        have e2 : cntR (l ++ [d]) = ([], 1) := by rw [cntR, if_neg h2, if_neg hall2]
        have e3 : addR (cnt l) d = ([], 1) := by rw [addR, if_neg (fun h => hd h.2)]
        rw [e1, e2, e3]
        exact .inr (.inl ⟨rfl, rfl⟩)
    · have e1 : cntR l = ([], 1) := by rw [cntR, if_neg h1, if_neg hall]
      rw [e1]
      exact .inl (by simp)
  generalize (addR (cntR l).1 d).1 = X, (addR (cntR l).1 d).2 = g at c17 hxl key
  generalize (cntR l).1 = Cc, (cntR l).2 = e at c11 c17 hcl key
  generalize (cntR (l ++ [d])).1 = A, (cntR (l ++ [d])).2 = ff at c11' key
  have row_app : ∀ i, i < (l ++ [d]).length → elDe (l ++ [d]) i = ((([] : List (List C)) ++ (List.range l.length).map (elDe l)) ++ [encDe d]).getD i [] := fun i hi => by
    rw [List.length_append, List.length_singleton] at hi
    by_cases h : i < l.length
    · simp [elDe, List.getD_eq_getElem?_getD, List.getElem?_append_left, h]
    · obtain rfl : i = l.length := by omega
      simp [elDe, List.getD_eq_getElem?_getD]
  refine regC mix [(1, con c11)] (by kernel_rfl) ?_
  refine regF hB mix [(5, .frzA (l ++ [d]).length (elDe (l ++ [d]))), (6, hcon c11')]
    [pf (rfl : 0 = ([] : List (List C)).length), pf (by omega : (0 + l.length) * 41 ≤ 140737488355328), pf (by simp : 0 + l.length = (([] : List (List C)) ++ (List.range l.length).map (elDe l)).length), pf (by omega : (0 + l.length + 1) * 41 ≤ 140737488355328),
     pf (⟨by simp, row_app⟩ : (l ++ [d]).length = 0 + l.length + 1 ∧ ∀ i, i < (l ++ [d]).length → elDe (l ++ [d]) i = ((([] : List (List C)) ++ (List.range l.length).map (elDe l)) ++ [encDe d]).getD i []), pf (rfl : 1 = [encDe d].length), pf c11'] (by kernel_rfl) ?_
  refine regC mix [(2, con c17)] (by kernel_rfl) ?_
  refine reg0 mix (by kernel_rfl) ?_
  refine rCond ((e != 0) || (ff != 0)) (by kernel_rfl) (fun h => ?_) (fun h => ?_)
  · refine reg0 mix (by kernel_rfl) ?_
    refine run_ret (ret_of (.v (vB (true && ((e != 0) || ((ff == 1) && (g == 1)))))) (by kernel_rfl) ?_)
    rcases key with hk | ⟨hk1, hk2⟩ | ⟨hk1, hk2, _⟩
    · simp [hk]
    · simp [hk1, hk2]
    · simp [hk1, hk2] at h
  · have h' : e = 0 ∧ ff = 0 := by simpa using h
    rcases key with hk | ⟨hk1, hk2⟩ | ⟨hk1, hk2, hk3, hk4⟩
    · exact absurd h'.1 hk
    · omega
    · subst hk4
      have c14 := f14 X X (by omega)
      rw [decide_eq_true rfl] at c14
      refine regI mix [(8, hcon c14)] [pf (fun _ : (true && (g == 0)) = true => c14)] (by kernel_rfl) ?_
      refine run_ret (ret_of (.v (vB ((true && (g == 0)) && true))) (by kernel_rfl) ?_)
      rw [hk3]; rfl
end
section
open Go.Sym

/-! ### The laws: confirmations -/
theorem ok_mem {l : List Ta} (h : OkTs l) {x : Ta} (hx : x ∈ l) : 1 ≤ x.n ∧ x.n ≤ 1000 := by
  obtain ⟨i, hi, rfl⟩ := List.getElem_of_mem hx
  have := bad_ex (h.ok i hi)
  have e : taAt l i = l[i] := by simp [taAt, List.getD_eq_getElem?_getD, hi]
  rw [e] at this
  exact ⟨this.2.1, this.2.2.1⟩
theorem atLeast_one {l : List Ta} (h : OkTs l) : atLeast 1 l = l := List.filter_eq_self.2 fun x hx => by
  have := ok_mem h hx
  rw [decide_eq_true_eq]; omega
theorem mem_atLeast {l : List Ta} {k : Int} {x : Ta} : x ∈ atLeast k l ↔ x ∈ l ∧ k ≤ x.n := by
  rw [atLeast, List.mem_filter, decide_eq_true_eq]
theorem atLeast_mono : ∀ (l : List Ta) {j k : Int}, j ≤ k → (atLeast k l).length ≤ (atLeast j l).length
  | [], j, k, _ => by simp [atLeast]
  | x :: l, j, k, h => by
    have ih := atLeast_mono l h
    unfold atLeast at ih ⊢
    rw [List.filter_cons, List.filter_cons]
    by_cases h1 : k ≤ x.n
    · rw [if_pos (by rw [decide_eq_true_eq]; exact h1), if_pos (by rw [decide_eq_true_eq]; omega)]
      simp only [List.length_cons]; omega
    · rw [if_neg (by rw [decide_eq_true_eq]; exact h1)]
      split
      · simp only [List.length_cons]; omega
      · exact ih
theorem insR_keeps : ∀ {t : List Ta} (p : Pc), (∀ x, x ∈ t → 1 ≤ x.n ∧ x.n ≤ 1000) → ∀ x, x ∈ t → ∃ y, y ∈ insR t p ∧ y.pl = x.pl ∧ x.n ≤ y.n
  | z :: t, p, h, x, hx => by
    rw [insR]
    split
    · rcases List.mem_cons.1 hx with rfl | hx
      · exact ⟨x, List.mem_cons_self, rfl, Int.le_refl _⟩
      · obtain ⟨y, hy, e⟩ := insR_keeps p (fun y hy => h y (List.mem_cons_of_mem _ hy)) x hx
        exact ⟨y, List.mem_cons_of_mem _ hy, e⟩
    · split
      · exact ⟨x, List.mem_cons_of_mem _ hx, rfl, Int.le_refl _⟩
      · rcases List.mem_cons.1 hx with rfl | hx
        · have hb := h x List.mem_cons_self
          refine ⟨upT x, List.mem_cons_self, rfl, ?_⟩
          have : (upT x).n = x.n + 1 := w64 _ (by omega) (by omega)
          omega
        · exact ⟨x, List.mem_cons_of_mem _ hx, rfl, Int.le_refl _⟩
theorem has_of {l : List Ta} {x y : Ta} (hy : y ∈ l) (h : y.pl = x.pl) : (l.any fun z => eqTp z x) = true :=
  List.any_eq_true.2 ⟨y, hy, by rw [eqTp_iff, decide_eq_true_eq]; exact h⟩
def mnI (a b : Int) : Int := if b < a then b else a
def mxI (a b : Int) : Int := if b > a then b else a
theorem mn_mx (a b : Int) : mnI a b ≤ mxI a b := by unfold mnI mxI; split <;> split <;> omega
theorem con_cases (l : List Ta) (k : Int) : ((conR l k) = (atLeast k l, 0) ∧ okTs l = true ∧ 1 ≤ k ∧ k ≤ 1000) ∨ conR l k = ([], 1) := by
  by_cases h : okTs l = true ∧ 1 ≤ k ∧ k ≤ 1000
  · exact .inl ⟨by rw [conR, if_pos h], h⟩
  · exact .inr (by rw [conR, if_neg h])
def lp8 (ts : List Ta) (d : De) (one two : Int) (A Bb : List Ta) (f : Int) (i : Int) : S := mkS 131 [(0, .b (.v (lTa ts))), (2, .b (.v (vI one))), (3, .b (.v (vI two))), (5, .b (.v (.c (.kptr (encDe d) 0)))), (9, .b (.v (vB true))), (12, .b (.v (lTa A))), (13, .b (.v (vI f))), (14, .b (.v (lTa Bb))), (16, .b (.v (vI i)))] []
def lq8 (Bb Cc : List Ta) (j : Int) (i : Int) : S := mkS 131 [(9, .b (.v (vB true))), (14, .b (.v (lTa Bb))), (19, .b (.v (lTa Cc))), (20, .b (.v (vI j))), (21, .b (.v (vI i)))] []
theorem f8 (ts : List Ta) (d : De) (one two : Int) : FCall Try.prog 8 [lTa ts, .agg (encDe d), vI one, vI two] (.v (vB true)) := by
  have c12 : FCall Try.prog 12 [.c .nil, lTa ts] (.v (vB (fewB [] ts))) := (f12 [] ts).of_le ⟨CVle.nil _ _, CVle.refl _, trivial⟩
  refine fcall_of Try.func8 rfl (by kernel_rfl) (fun B hB => ?_)
  refine reg mix [(0, .imm)] [] (by kernel_rfl) ?_
  refine regC mix [(0, con f9)] (by kernel_rfl) ?_
  refine regC mix [(1, con c12)] (by kernel_rfl) ?_
  refine rCond (!fewB [] ts) (by kernel_rfl) (fun h => ?_) (fun h => ?_)
  · refine reg0 mix (by kernel_rfl) ?_
    exact run_ret (ret_of (.v (vB true)) (by kernel_rfl) rfl)
  obtain ⟨_, ht⟩ := few_len (show fewB [] ts = true by simpa using h)
  have c19 := f19 ts 1 (by omega)
  by_cases hok : okTs ts = true
  case neg =>
    rw [show conR ts 1 = ([], 1) by rw [conR, if_neg (fun h => hok h.1)]] at c19
    refine regC mix [(1, con c19)] (by kernel_rfl) ?_
    refine reg0 mix (by kernel_rfl) ?_
    refine rCondT true (by kernel_rfl) rfl ?_
    refine reg0 mix (by kernel_rfl) ?_
    exact run_ret (ret_of (.v (vB true)) (by kernel_rfl) rfl)
  have hO := okTs_iff.1 hok
  rw [show conR ts 1 = (ts, 0) by rw [conR, if_pos ⟨hok, by decide, by decide⟩, atLeast_one hO]] at c19
  have ca := f19 ts (mnI one two) (by omega)
  have cb := f19 ts (mxI one two) (by omega)
  have cS := f14 ts ts (by omega)
  rw [decide_eq_true rfl] at cS
  have c17 := f17 ts d (by omega)
  have hA := con_cases ts (mnI one two)
  have hB2 := con_cases ts (mxI one two)
  have hmm := mn_mx one two
  have hAl := conR_len ts (mnI one two) (by omega)
  have hBl := conR_len ts (mxI one two) (by omega)
  have hMl := addR_len ts d (by omega)
  have cc := f19 (addR ts d).1 (mxI one two) (by omega)
  have hCl := conR_len (addR ts d).1 (mxI one two) (by omega)
  -- what the lesser number returns has what the greater one returns
  have h1 : (conR ts (mnI one two)).2 = 0 → ∀ x, x ∈ (conR ts (mxI one two)).1 → ((conR ts (mnI one two)).1.any fun z => eqTp z x) = true := fun hz x hx => by
    rcases hB2 with ⟨e, _, _⟩ | e
    · rcases hA with ⟨e', _, _⟩ | e'
      · rw [e] at hx
        rw [e']
        have := mem_atLeast.1 hx
        exact has_of (mem_atLeast.2 ⟨this.1, by omega⟩) rfl
      · rw [e'] at hz; cases hz
    · rw [e] at hx; cases hx
  have h2 : (((conR ts (mnI one two)).2 == 0) && ((conR ts (mxI one two)).2 == 0) && decide (((conR ts (mxI one two)).1.length : Int) > ((conR ts (mnI one two)).1.length : Int))) = false := by
    rcases hB2 with ⟨e, _, _⟩ | e
    · rcases hA with ⟨e', _, _⟩ | e'
      · rw [e, e']
        have := atLeast_mono ts hmm
        simp only
        rw [decide_eq_false (by omega)]; simp
      · rw [e']; rfl
    · rw [e]; simp
  have h3 : (addR ts d).2 = 0 → ∀ x, x ∈ (conR ts (mxI one two)).1 → (conR (addR ts d).1 (mxI one two)).2 = 0 ∧ ((conR (addR ts d).1 (mxI one two)).1.any fun z => eqTp z x) = true := fun hz x hx => by
    rcases hB2 with ⟨e, _, hk1, hk2⟩ | e
    · rw [e] at hx
      have hmx := mem_atLeast.1 hx
      have hadd : okTs (insT ts d.pl) = true ∧ (addR ts d).1 = insT ts d.pl := by
        unfold addR at hz ⊢
        split
        · rename_i hc
          rw [if_pos hc] at hz
          split
          · rename_i hc2; exact ⟨hc2, rfl⟩
          · rename_i hc2; rw [if_neg hc2] at hz; cases hz
        · rename_i hc; rw [if_neg hc] at hz; cases hz
      rw [hadd.2]
      have e2 : conR (insT ts d.pl) (mxI one two) = (atLeast (mxI one two) (insT ts d.pl), 0) := by rw [conR, if_pos ⟨hadd.1, hk1, hk2⟩]
      rw [e2]
      refine ⟨rfl, ?_⟩
      obtain ⟨y, hy, e3, e4⟩ := insR_keeps d.pl (fun x hx => ok_mem hO hx) x hmx.1
      rw [← insT_R] at hy
      exact has_of (mem_atLeast.2 ⟨hy, by omega⟩) e3
    · rw [e] at hx; cases hx
  clear hA hB2
  generalize (conR ts (mnI one two)).1 = A, (conR ts (mnI one two)).2 = f at ca h1 h2 hAl
  generalize (conR ts (mxI one two)).1 = Bb, (conR ts (mxI one two)).2 = g at cb h1 h2 h3 hBl
  generalize (conR (addR ts d).1 (mxI one two)).1 = Cc, (conR (addR ts d).1 (mxI one two)).2 = j at cc h3 hCl
  generalize (addR ts d).1 = M, (addR ts d).2 = hh at c17 cc h3 hMl
  refine regC mix [(1, con c19)] (by kernel_rfl) ?_
  refine reg0 mix (by kernel_rfl) ?_
  refine rCondF false (by kernel_rfl) rfl ?_
  refine regC mix [(4, con ca)] (by kernel_rfl) ?_
  refine regC mix [(4, con cb)] (by kernel_rfl) ?_
  refine regI mix [(2, hcon cS)] [pf (fun _ : true = true => cS)] (by kernel_rfl) ?_
  refine rCondF (((f == 0) && (g == 0)) && decide ((Bb.length : Int) > (A.length : Int))) (by kernel_rfl) h2 ?_
  refine reg0 mix (by kernel_rfl) ?_
  refine rBlock ?_
  refine rLoop (lp8 ts d one two A Bb f) (fun i => 0 ≤ i ∧ i ≤ Bb.length) (fun i => (Bb.length - i).toNat) 0 (wkTo [0, 2, 3, 5, 9, 12, 13, 14, 16] [] (by kernel_rfl)) ⟨by omega, by omega⟩ ?_
  rintro i ⟨h0, hi1⟩
  refine reg0 mix (by kernel_rfl) ?_
  refine rCond (decide (i < (Bb.length : Int)) && (f == 0)) (by kernel_rfl) (fun hc => ?_) (fun hc => ?_)
  · obtain ⟨hc, hf⟩ := Bool.and_eq_true_iff.1 hc
    have hc : i < Bb.length := of_decide_eq_true hc
    have hf : f = 0 := by simpa using hf
    have e : IntKind.i64.wrap (i + 1) = i + 1 := w64 _ (by omega) (by omega)
    have hi : 0 ≤ i ∧ i < (Bb.length : Int) := ⟨h0, hc⟩
    have c22 := f22 A (taAt Bb i.toNat) hAl
    rw [h1 hf _ (taAt_mem (by omega))] at c22
    refine rBlock ?_
    refine reg mix [(5, hcon c22)] [pf hi, pf c22] (by kernel_rfl) ?_
    refine rCondF false (by kernel_rfl) rfl ?_
    refine run_nil (blockR_normal ?_)
    refine reg0 mix (by kernel_rfl) ?_
    refine run_nil (loopR_next (IntKind.i64.wrap (i + 1)) (wkTo [0, 2, 3, 5, 9, 12, 13, 14, 16] [] (by kernel_rfl)) ?_ ?_)
    · rw [e]; exact ⟨by omega, by omega⟩
    · rw [e]; omega
  refine run_exit (loopR_exit (blockR_exit ?_))
  refine regC mix [(2, con c17)] (by kernel_rfl) ?_
  refine reg0 mix (by kernel_rfl) ?_
  refine rCond (hh != 0) (by kernel_rfl) (fun hz => ?_) (fun hz => ?_)
  · refine reg0 mix (by kernel_rfl) ?_
    exact run_ret (ret_of (.v (vB true)) (by kernel_rfl) rfl)
  have h3 := h3 (by simpa using hz)
  refine regC mix [(4, con cc)] (by kernel_rfl) ?_
  refine reg0 mix (by kernel_rfl) ?_
  refine rBlock ?_
  refine rLoop (lq8 Bb Cc j) (fun i => 0 ≤ i ∧ i ≤ Bb.length) (fun i => (Bb.length - i).toNat) 0 (wkTo [9, 14, 19, 20, 21] [] (by kernel_rfl)) ⟨by omega, by omega⟩ ?_
  rintro i ⟨h0, hi1⟩
  refine reg0 mix (by kernel_rfl) ?_
  refine rCond (decide (i < (Bb.length : Int))) (by kernel_rfl) (fun hc => ?_) (fun hc => ?_)
  · have hc : i < Bb.length := of_decide_eq_true hc
    have e : IntKind.i64.wrap (i + 1) = i + 1 := w64 _ (by omega) (by omega)
    have hi : 0 ≤ i ∧ i < (Bb.length : Int) := ⟨h0, hc⟩
    obtain ⟨hj, hhas⟩ := h3 _ (taAt_mem (l := Bb) (i := i.toNat) (by omega))
    have c22 := f22 Cc (taAt Bb i.toNat) hCl
    rw [hhas] at c22
    refine rBlock ?_
    refine regI mix [(8, hcon c22)] [pf (fun _ : (!(j != 0)) = true => hi), pf (fun _ : (!(j != 0)) = true => c22)] (by kernel_rfl) ?_
    refine rCondF ((j != 0) || false) (by kernel_rfl) (by rw [hj]; rfl) ?_
    refine run_nil (blockR_normal ?_)
    refine reg0 mix (by kernel_rfl) ?_
    refine run_nil (loopR_next (IntKind.i64.wrap (i + 1)) (wkTo [9, 14, 19, 20, 21] [] (by kernel_rfl)) ?_ ?_)
    · rw [e]; exact ⟨by omega, by omega⟩
    · rw [e]; omega
  refine run_exit (loopR_exit (blockR_exit ?_))
  refine reg0 mix (by kernel_rfl) ?_
  exact run_ret (ret_of (.v (vB true)) (by kernel_rfl) rfl)
end
end Go.Proofs.Ytaaplpbjjnechaa
