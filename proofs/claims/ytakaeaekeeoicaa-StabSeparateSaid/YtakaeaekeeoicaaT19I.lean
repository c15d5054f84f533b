import Derived.Test.YtakaeaekeeoicaaT19H
namespace Go.Proofs.Ytakaeaekeeoicaa
open Go.Sym
set_option linter.unusedVariables false
set_option linter.unusedSimpArgs false

/-! ### One list behind another -/
def bad1 (a : List Sp) (i : Int) : Bool := decide (i < (a.length : Int)) && (decide ((a.getD i.toNat zSp).frm < -100) || decide ((a.getD i.toNat zSp).til > 100))
def bad2 (b : List Sp) (i : Int) : Bool := decide (i < (b.length : Int)) && ((decide ((b.getD i.toNat zSp).frm < -100) || decide ((b.getD i.toNat zSp).til > 100)) || decide ((b.getD i.toNat zSp).frm > (b.getD i.toNat zSp).til))
theorem bad1_no {a : List Sp} {i : Int} (h : bad1 a i = false) (hi : i < a.length) : -100 ≤ (a.getD i.toNat zSp).frm ∧ (a.getD i.toNat zSp).til ≤ 100 := by
  rw [bad1, decide_eq_true hi] at h
  simp only [Bool.true_and, Bool.or_eq_false_iff, decide_eq_false_iff_not] at h
  omega
theorem bad2_no {b : List Sp} {i : Int} (h : bad2 b i = false) (hi : i < b.length) : -100 ≤ (b.getD i.toNat zSp).frm ∧ (b.getD i.toNat zSp).til ≤ 100 ∧ (b.getD i.toNat zSp).frm ≤ (b.getD i.toNat zSp).til := by
  rw [bad2, decide_eq_true hi] at h
  simp only [Bool.true_and, Bool.or_eq_false_iff, decide_eq_false_iff_not] at h
  omega
theorem sep_valid {b : List Sp} (hl : b.length ≤ 30) (h : ∀ s, s ∈ b → -100 ≤ s.frm ∧ s.til ≤ 100 ∧ s.frm ≤ s.til) : valid (b.map (mvS 300)) = true := by
  rw [valid, Bool.and_eq_true, decide_eq_true_eq, Bool.not_eq_true', List.any_eq_false]
  refine ⟨by simp; omega, fun s hs => ?_⟩
  obtain ⟨t, ht, rfl⟩ := List.mem_map.1 hs
  have := h t ht
  simp only [wrong, Bool.or_eq_true, decide_eq_true_eq]
  show ¬ ((t.frm + 300 < -39399 ∨ t.til + 300 > 39399) ∨ t.frm + 300 > t.til + 300)
  omega
theorem sep_both {a b : List Sp} (ha : a.length ≤ 30) (hb : b.length ≤ 30) (hv : valid b = true) : valid (a ++ b) = valid a := by
  rw [valid, Bool.and_eq_true, decide_eq_true_eq, Bool.not_eq_true'] at hv
  rw [valid, valid, decide_eq_true (by omega : (a.length : Int) ≤ 1000), decide_eq_true (by rw [List.length_append]; omega), List.any_append, hv.2]
  simp
theorem app_sp (a b : List Sp) : ∀ i, i < (a ++ b).length → elSp (a ++ b) i = ((([] : List (List C)) ++ (List.range a.length).map (elSp a)) ++ (List.range b.length).map (elSp b)).getD i [] := by
  intro i hi
  rw [List.nil_append, row_map, row_map, rowSp_el hi, rowSp, rowSp, rowSp, List.map_append]
theorem app_in (a b : List Int) : ∀ i, i < (a ++ b).length → elI (a ++ b) i = ((([] : List (List C)) ++ (List.range a.length).map (elI a)) ++ (List.range b.length).map (elI b)).getD i [] := by
  have e : ∀ l : List Int, (List.range l.length).map (elI l) = rowI l := fun l => by
    refine List.ext_getElem (by simp [rowI]) fun i h1 h2 => ?_
    simp at h1
    simp [elI, rowI, List.getD_eq_getElem?_getD, h1]
  intro i hi
  rw [List.nil_append, e, e, elI, ← rowI_at hi, rowI, rowI, rowI, List.map_append]
theorem all_of {b : List Sp} {P : Sp → Prop} (h : ∀ j, j < b.length → P (b.getD j zSp)) : ∀ s, s ∈ b → P s := by
  intro s hs
  obtain ⟨j, hj, rfl⟩ := List.getElem_of_mem hs
  have := h j hj
  rwa [show b.getD j zSp = b[j] by simp [List.getD_eq_getElem?_getD, hj]] at this
structure L9 where
  i : Int
  n : Nat
  css : List (List C)
def lw9 (a b : List Sp) (x : L9) : S := mkS 165 [(0, .b (.v (lSp a))), (1, .b (.v (lSp b))), (5, .b (.v (vB true))), (6, .b (.v (.c (.row 28 (0 + a.length))))), (7, .b (.v (.c (.row 1 x.n)))), (8, .b (.v (vI x.i)))] [(1, .row 34 2 x.css), (28, .row 34 2 (([] : List (List C)) ++ (List.range a.length).map (elSp a)))]
theorem f9 (a b : List Sp) : FCall Try.prog 9 [lSp a, lSp b] (.v (vB true)) := by
  refine fcall_of Try.func9 rfl (by kernel_rfl) (fun B hB => ?_)
  refine reg0 mix (by kernel_rfl) ?_
  refine regC mix [(0, con f10)] (by kernel_rfl) ?_
  refine reg0 mix (by kernel_rfl) ?_
  refine rCond (decide ((a.length : Int) > 30) || decide ((b.length : Int) > 30)) (by kernel_rfl) (fun h => ?_) (fun h => ?_)
  · refine reg0 mix (by kernel_rfl) ?_
    exact run_ret (ret_of (.v (vB true)) (by kernel_rfl) rfl)
  simp only [Bool.or_eq_false_iff, decide_eq_false_iff_not] at h
  have ha : a.length ≤ 30 := by omega
  have hb : b.length ≤ 30 := by omega
  refine reg mix [] [pf (rfl : 0 = ([] : List (List C)).length), pf (by omega : (0 + a.length) * 17 ≤ 140737488355328)] (by kernel_rfl) ?_
  refine reg0 mix (by kernel_rfl) ?_
  refine run_weaken (wk_nilRow 7 1 34 2 (by kernel_rfl) (by kernel_rfl) (by omega)) ?_ (List.cons_ne_nil _ _)
  refine reg0 mix (by kernel_rfl) ?_
  refine rBlock ?_
  refine rLoop (lw9 a b) (fun x => 0 ≤ x.i ∧ x.i ≤ 30 ∧ (x.n = ((b.take x.i.toNat).map (mvS 300)).length ∧ x.css = rowSp ((b.take x.i.toNat).map (mvS 300))) ∧ ∀ j : Nat, (j : Int) < x.i → bad1 a j = false ∧ bad2 b j = false) (fun x => (30 - x.i).toNat) ⟨0, 0, []⟩ (wkTo [0, 1, 5, 6, 7, 8] [] (by kernel_rfl)) ⟨by simp, by simp, ⟨by simp, by simp [rowSp]⟩, fun j hj => by simp at hj; omega⟩ ?_
  rintro ⟨i, n, css⟩ ⟨hi0, hi1, ⟨hn, hcss⟩, hno⟩
  simp only at hi0 hi1 hn hcss hno
  have hcn : css.length = n := by rw [hcss, rowSp_len, hn]
  have hnl : n ≤ 30 := by rw [hn]; simp; omega
  refine reg0 mix (by kernel_rfl) ?_
  refine rCond (decide (i < (a.length : Int)) || decide (i < (b.length : Int))) (by kernel_rfl) (fun hcc => ?_) (fun hcc => ?_)
  · simp only [Bool.or_eq_true, decide_eq_true_eq] at hcc
    have e1 : IntKind.i64.wrap (i + 1) = i + 1 := w64 _ (by omega) (by omega)
    have hA : decide (i < (a.length : Int)) = true → 0 ≤ i ∧ i < (a.length : Int) := fun h => ⟨hi0, of_decide_eq_true h⟩
    have hA2 : (decide (i < (a.length : Int)) && !decide ((a.getD i.toNat zSp).frm < -100)) = true → 0 ≤ i ∧ i < (a.length : Int) := fun h => hA (Bool.and_eq_true_iff.1 h).1
    have hB1 : (!bad1 a i && decide (i < (b.length : Int))) = true → 0 ≤ i ∧ i < (b.length : Int) := fun h => ⟨hi0, of_decide_eq_true (Bool.and_eq_true_iff.1 h).2⟩
    have hB2 : ((!bad1 a i && decide (i < (b.length : Int))) && !decide ((b.getD i.toNat zSp).frm < -100)) = true → 0 ≤ i ∧ i < (b.length : Int) := fun h => hB1 (Bool.and_eq_true_iff.1 h).1
    have hB3 : ((!bad1 a i && decide (i < (b.length : Int))) && !(decide ((b.getD i.toNat zSp).frm < -100) || decide ((b.getD i.toNat zSp).til > 100))) = true → 0 ≤ i ∧ i < (b.length : Int) := fun h => hB1 (Bool.and_eq_true_iff.1 h).1
    refine rJoin (fun x : Nat × List (List C) => lw9 a b ⟨i, x.1, x.2⟩) (fun x => (x.1 = ((b.take (i.toNat + 1)).map (mvS 300)).length ∧ x.2 = rowSp ((b.take (i.toNat + 1)).map (mvS 300))) ∧ bad1 a i = false ∧ bad2 b i = false) (List.cons_ne_nil _ _) ?_ ?_
    · refine rBlock ?_
      refine regI mix [] [pf hA, pf hA2, pf hB1, pf hB2, pf hB3, pf hB3] (by kernel_rfl) ?_
      refine rCond (bad1 a i || bad2 b i) (by kernel_rfl) (fun h => ?_) (fun h => ?_)
      · refine reg0 mix (by kernel_rfl) ?_
        exact run_ret (blockR_ret (left_ret (loopR_ret (blockR_ret (ret_of (.v (vB true)) (by kernel_rfl) rfl)))))
      obtain ⟨h1, h2⟩ := Bool.or_eq_false_iff.1 h
      refine reg0 mix (by kernel_rfl) ?_
      refine rCond (decide (i < (b.length : Int))) (by kernel_rfl) (fun h => ?_) (fun h => ?_)
      · have h : i < b.length := of_decide_eq_true h
        have hi : 0 ≤ i ∧ i < (b.length : Int) := ⟨hi0, h⟩
        have hrg := bad2_no h2 h
        have ef : IntKind.i64.wrap ((b.getD i.toNat zSp).frm + 300) = (b.getD i.toNat zSp).frm + 300 := w64 _ (by omega) (by omega)
        have et : IntKind.i64.wrap ((b.getD i.toNat zSp).til + 300) = (b.getD i.toNat zSp).til + 300 := w64 _ (by omega) (by omega)
        refine reg mix [] [pf hi, pf hi, pf hcn.symm, pf (by omega : (n + 1) * 17 ≤ 140737488355328), pf (rfl : 1 = [[cI (IntKind.i64.wrap ((b.getD i.toNat zSp).frm + 300)), cI (IntKind.i64.wrap ((b.getD i.toNat zSp).til + 300))]].length)] (by kernel_rfl) ?_
        refine run_nil (blockR_normal (run_nil (joined (n + 1, css ++ [[cI (IntKind.i64.wrap ((b.getD i.toNat zSp).frm + 300)), cI (IntKind.i64.wrap ((b.getD i.toNat zSp).til + 300))]]) ⟨⟨?_, ?_⟩, h1, h2⟩ (wkTo [0, 1, 5, 6, 7, 8] [117] (by kernel_rfl)))))
        · rw [takeSp (show i.toNat < b.length by omega), List.map_append, List.length_append, hn]; rfl
        · rw [takeSp (show i.toNat < b.length by omega), List.map_append, hcss, ef, et]; simp [rowSp, mvS, encSp]
      · have h : ¬ i < b.length := of_decide_eq_false h
        refine run_nil (blockR_normal (run_nil (joined (n, css) ⟨⟨?_, ?_⟩, h1, h2⟩ (wkTo [0, 1, 5, 6, 7, 8] [] (by kernel_rfl)))))
        · rw [hn, List.take_of_length_le (by omega), List.take_of_length_le (by omega)]
        · rw [hcss, List.take_of_length_le (by omega), List.take_of_length_le (by omega)]
    · rintro ⟨n', css'⟩ ⟨⟨g1, g2⟩, g3, g4⟩
      refine reg0 mix (by kernel_rfl) ?_
      refine run_nil (loopR_next (⟨IntKind.i64.wrap (i + 1), n', css'⟩ : L9) (wkTo [0, 1, 5, 6, 7, 8] [] (by kernel_rfl)) ?_ ?_)
      · simp only [e1, show (i + 1).toNat = i.toNat + 1 by omega]
        refine ⟨by omega, by omega, ⟨g1, g2⟩, fun j hj => ?_⟩
        by_cases hji : (j : Int) < i
        · exact hno j hji
        · rw [show (j : Int) = i by omega]; exact ⟨g3, g4⟩
      · simp only [e1]; omega
  simp only [Bool.or_eq_false_iff, decide_eq_false_iff_not] at hcc
  rw [List.take_of_length_le (by omega)] at hn hcss
  subst hn hcss
  have hra := all_of (b := a) (P := fun s => -100 ≤ s.frm ∧ s.til ≤ 100) fun j hj => by
    have := bad1_no (hno j (by omega)).1 (by omega)
    rwa [Int.toNat_natCast] at this
  have hrb := all_of (b := b) (P := fun s => -100 ≤ s.frm ∧ s.til ≤ 100 ∧ s.frm ≤ s.til) fun j hj => by
    have := bad2_no (hno j (by omega)).2 (by omega)
    rwa [Int.toNat_natCast] at this
  have hvm := sep_valid hb hrb
  have hvb := sep_both (a := a) (b := b.map (mvS 300)) ha (by simp; omega) hvm
  have hsep : ∀ s, s ∈ a → ∀ t, t ∈ b.map (mvS 300) → s.til < t.frm := fun s hs t ht => by
    obtain ⟨u, hu, rfl⟩ := List.mem_map.1 ht
    have h1 := hra s hs
    have h2 := hrb u hu
    simp only [mvS]; omega
  have hlm : (b.map (mvS 300)).length ≤ 30 := by simp; omega
  clear hno hrb
  generalize b.map (mvS 300) = m at hcn hvm hvb hsep hlm
  have m12 := p12 hvm
  have hrow : 0 + a.length = (([] : List (List C)) ++ (List.range a.length).map (elSp a)).length := by simp
  have hfz : (a ++ m).length = 0 + a.length + m.length ∧ ∀ i, i < (a ++ m).length → elSp (a ++ m) i = ((([] : List (List C)) ++ (List.range a.length).map (elSp a)) ++ (List.range m.length).map (elSp m)).getD i [] := ⟨by simp, app_sp a m⟩
  refine run_exit (loopR_exit (blockR_exit ?_))
  refine frzRow hB 7 1 m.length 34 2 (rowSp m) (elSp m) [0, 5, 6] [] (by kernel_rfl) (by kernel_rfl) hcn.symm (fun j hj => rowSp_el hj) (by kernel_rfl) ?_ (List.cons_ne_nil _ _)
  cases hv : valid a with
  | false =>
    have c12 := n12 (by omega) hv
    have d12 := n12 (l := a ++ m) (by simp; omega) (by rw [hvb, hv])
    refine regC mix [(1, con c12)] (by kernel_rfl) ?_
    refine regC mix [(1, con m12)] (by kernel_rfl) ?_
    refine regF hB mix [(2, .frzA (a ++ m).length (elSp (a ++ m))), (3, hcon d12)] [pf hrow, pf (by omega : (0 + a.length + m.length) * 17 ≤ 140737488355328), pf hfz, pf d12] (by kernel_rfl) ?_
    refine reg0 mix (by kernel_rfl) ?_
    refine rCondT true (by kernel_rfl) rfl ?_
    refine reg0 mix (by kernel_rfl) ?_
    exact run_ret (ret_of (.v (vB true)) (by kernel_rfl) rfl)
  | true =>
    have c12 := p12 hv
    have d12 := p12 (l := a ++ m) (by rw [hvb, hv])
    rw [pts_app hv hvm (by rw [hvb, hv]) hsep] at d12
    have hp := (pln_le a).1
    have hq := (pln_le m).1
    generalize (pln a).pts = p at c12 d12 hp
    generalize (pln m).pts = q at m12 d12 hq
    have ci := i14 (p ++ q) (by simp; omega)
    have hr1 : 0 + p.length = (([] : List (List C)) ++ (List.range p.length).map (elI p)).length := by simp
    have hfi : (p ++ q).length = 0 + p.length + q.length ∧ ∀ i, i < (p ++ q).length → elI (p ++ q) i = ((([] : List (List C)) ++ (List.range p.length).map (elI p)) ++ (List.range q.length).map (elI q)).getD i [] := ⟨by simp, app_in p q⟩
    refine regC mix [(1, con c12)] (by kernel_rfl) ?_
    refine regC mix [(1, con m12)] (by kernel_rfl) ?_
    refine regF hB mix [(2, .frzA (a ++ m).length (elSp (a ++ m))), (3, hcon d12)] [pf hrow, pf (by omega : (0 + a.length + m.length) * 17 ≤ 140737488355328), pf hfz, pf d12] (by kernel_rfl) ?_
    refine reg0 mix (by kernel_rfl) ?_
    refine rCondF false (by kernel_rfl) rfl ?_
    refine regF hB mix [(15, .frzA (p ++ q).length (elI (p ++ q))), (16, hcon ci)] [pf (rfl : 0 = ([] : List (List C)).length), pf (by omega : (0 + p.length) * 9 ≤ 140737488355328), pf hr1, pf (by omega : (0 + p.length + q.length) * 9 ≤ 140737488355328), pf hfi, pf ci] (by kernel_rfl) ?_
    exact run_ret (ret_of (.v (vB true)) (by kernel_rfl) rfl)
end Go.Proofs.Ytakaeaekeeoicaa
