import Derived.Test.YtmdgbejfdcfhpaaT20H
namespace Go.Proofs.Ytmdgbejfdcfhpaa
open Go.Sym
set_option linter.unusedVariables false
set_option linter.unusedSimpArgs false

/-! ### The reference's Master -/
def aggP (a b c d : Int) : CV := .agg [cI a, cI b, cI c, cI d]
def zP : CV := aggP 0 0 0 0
def medP (used : List Ca) : CV := aggP (medI (used.map (·.a))) (medI (used.map (·.b))) (medI (used.map (·.c))) (medI (used.map (·.d)))
def wantCa (kind tel flt at' known : Int) : Ca := ⟨kind, tel, flt, at', known, 0, 0, 0, 0⟩
/-- What the two functions return, if these are the calibrations that are combined. -/
def masG (l : List Ca) (kind tel flt at' known : Int) (used : List Ca) : SB :=
  if (l.length : Int) > 1000 then .tup [zP, vI 2]
  else if (l.any (fun x => !okCa x) || !okCa (wantCa kind tel flt at' known)) = true then .tup [zP, vI 1]
  else if used.length = 0 then .tup [zP, vI 10]
  else .tup [medP used, vI 0]

def medCol (used : List Ca) (f : Ca → Int) (i j : Nat) : Int := if i < j then medI (used.map f) else 0
def outC (used : List Ca) (i : Nat) : List C := [cI (medCol used (·.a) 0 i), cI (medCol used (·.b) 1 i), cI (medCol used (·.c) 2 i), cI (medCol used (·.d) 3 i)]
theorem col_succ {used : List Ca} {f : Ca → Int} {i : Nat} (h : i < used.length) : rowI ((used.map f).take (i + 1)) = rowI ((used.map f).take i) ++ [[cI (f (used.getD i zCa))]] := by
  rw [rowI_succ (by simpa using h)]
  simp [List.getD_eq_getElem?_getD, h]
theorem col_el {used : List Ca} {f : Ca → Int} {i : Nat} (h : i < used.length) : elI (used.map f) i = (rowI ((used.map f).take used.length)).getD i [] := by
  rw [List.take_of_length_le (by simp)]
  simp [rowI, elI, List.getD_eq_getElem?_getD, h]
theorem g14c (used : List Ca) (f : Ca → Int) (h0 : used.length ≠ 0) (h1 : used.length ≤ 1000) : FCall Try.prog 14 [.c (.lst 1 used.length (elI (used.map f)))] (.tup [vI (medI (used.map f)), vI 0]) := by
  have h := g14 (used.map f)
  rw [lI, medG, if_neg (by simp; omega), if_neg (by simpa using h0)] at h
  simpa using h
theorem g13c (used : List Ca) (f : Ca → Int) (h0 : used.length ≠ 0) (h1 : used.length ≤ 1000) : FCall Try.prog 13 [.c (.lst 1 used.length (elI (used.map f)))] (.tup [vI (medI (used.map f)), vI 0]) := by
  have h := f13 (used.map f)
  rw [lI, medG, if_neg (by simp; omega), if_neg (by simpa using h0)] at h
  simpa using h
section
variable (l : List Ca) (kind tel flt at' known : Int)
def ma1 (i : Int) : S := mkS 85 (laT l kind tel flt at' known ++ [(12, .b (.v (.c (.ptr 12 0)))), (14, .b (.v (vI i)))]) [(12, .cells [cI 0, cI 0, cI 0, cI 0])]
def ma2 (used : List Ca) (i : Nat) : S := mkS 85 [(12, .b (.v (.c (.ptr 12 0)))), (15, .b (.v (lPx used))), (16, .b (.v (.c (.ptr 16 0)))), (17, .b (.v (vI i)))] [(12, .cells [cI 0, cI 0, cI 0, cI 0]), (16, .cells (outC used i))]
def ma3 (used : List Ca) (i : Nat) (x : Int × Nat × List (List C)) : S := mkS 85 [(12, .b (.v (.c (.ptr 12 0)))), (15, .b (.v (lPx used))), (16, .b (.v (.c (.ptr 16 0)))), (17, .b (.v (vI i))), (18, .b (.v (.c (.row 1 x.2.1)))), (19, .b (.v (vI x.1)))] [(12, .cells [cI 0, cI 0, cI 0, cI 0]), (16, .cells (outC used i)), (1, .row 3 1 x.2.2)]
end
theorem lat_len (l : List Ca) (p : Ca → Bool) : ∀ n tk out, (lat l p n tk out).length ≤ out.length + n
  | 0, _, out => by simp [lat]
  | n + 1, tk, out => by
    rw [lat]; split
    · omega
    · have := lat_len l p n (tk.set (bst l tk p l.length).toNat true) (out ++ [l.getD (bst l tk p l.length).toNat zCa])
      rw [List.length_append, List.length_singleton] at this; omega
theorem latest_len (l : List Ca) (p : Ca → Bool) : (latest l p).length ≤ 5 := by
  have := lat_len l p 5 (List.replicate l.length false) []
  simpa [latest] using this
theorem f12 (l : List Ca) (kind tel flt at' known : Int) : FCall Try.prog 12 [lCa l, vI kind, vI tel, vI flt, vI at', vI known] (masG l kind tel flt at' known (latest l fun x => applies x kind tel flt at' known)) := by
  have hul := latest_len l (fun x => applies x kind tel flt at' known)
  have h26 := f26 l kind tel flt at' known
  generalize (latest l fun x => applies x kind tel flt at' known) = used at hul h26 ⊢
  refine fcall_of Try.func12 rfl (by kernel_rfl) (fun B hB => ?_)
  refine reg0 mix (by kernel_rfl) ?_
  refine reg0 mix (by kernel_rfl) ?_
  refine rCond (decide ((l.length : Int) > 1000)) (by kernel_rfl) (fun h => ?_) (fun h => ?_)
  · refine reg0 mix (by kernel_rfl) ?_
    refine run_ret (ret_of (.tup [zP, vI 2]) (by kernel_rfl) ?_)
    rw [masG, if_pos (of_decide_eq_true h)]
  have h1 := of_decide_eq_false h
  refine reg0 mix (by kernel_rfl) ?_
  refine rBlock ?_
  refine rLoop (ma1 l kind tel flt at' known) (fun i => 0 ≤ i ∧ i ≤ l.length ∧ ∀ j, j < i.toNat → okCa (l.getD j zCa) = true) (fun i => (l.length - i).toNat) 0 (wkTo [0, 1, 2, 3, 4, 5, 12, 14] [] (by kernel_rfl)) ⟨by omega, by omega, fun j hj => by simp at hj⟩ ?_
  rintro i ⟨hi0, hi1, hok⟩
  refine reg0 mix (by kernel_rfl) ?_
  refine rCond (decide (i < (l.length : Int))) (by kernel_rfl) (fun hc => ?_) (fun hc => ?_)
  · have hc : i < l.length := of_decide_eq_true hc
    have e : IntKind.i64.wrap (i + 1) = i + 1 := w64 _ (by omega) (by omega)
    refine rBlock ?_
    refine reg mix [(4, hcon (f16 (l.getD i.toNat zCa)))] [pf (⟨hi0, hc⟩ : 0 ≤ i ∧ i < (l.length : Int)), pf (f16 (l.getD i.toNat zCa))] (by kernel_rfl) ?_
    refine rCond (!okCa (l.getD i.toNat zCa)) (by kernel_rfl) (fun h => ?_) (fun h => ?_)
    · refine reg0 mix (by kernel_rfl) ?_
      refine run_ret (blockR_ret (loopR_ret (blockR_ret (ret_of (.tup [zP, vI 1]) (by kernel_rfl) ?_))))
      have : l.any (fun x => !okCa x) = true := by
        rw [List.any_eq_true]
        exact ⟨l.getD i.toNat zCa, by simp [List.getD_eq_getElem?_getD, show i.toNat < l.length by omega], h⟩
      rw [masG, if_neg h1, this, Bool.true_or, if_pos rfl]
    · refine run_nil (blockR_normal ?_)
      refine reg0 mix (by kernel_rfl) ?_
      refine run_nil (loopR_next (IntKind.i64.wrap (i + 1)) (wkTo [0, 1, 2, 3, 4, 5, 12, 14] [] (by kernel_rfl)) ?_ ?_)
      · rw [e]
        refine ⟨by omega, by omega, fun j hj => ?_⟩
        by_cases hji : j < i.toNat
        · exact hok j hji
        · rw [show j = i.toNat by omega]; simpa using h
      · rw [e]; omega
  have hc : ¬ i < l.length := of_decide_eq_false hc
  have hall : l.any (fun x => !okCa x) = false := by
    rw [List.any_eq_false]
    intro x hx
    obtain ⟨j, hj, rfl⟩ := List.getElem_of_mem hx
    have := hok j (by omega)
    rw [show l.getD j zCa = l[j] by simp [List.getD_eq_getElem?_getD, hj]] at this
    simp [this]
  refine run_exit (loopR_exit (blockR_exit ?_))
  refine regC mix [(7, con (f16 (wantCa kind tel flt at' known)))] (by kernel_rfl) ?_
  refine rCond (!okCa (wantCa kind tel flt at' known)) (by kernel_rfl) (fun h => ?_) (fun h => ?_)
  · refine reg0 mix (by kernel_rfl) ?_
    refine run_ret (ret_of (.tup [zP, vI 1]) (by kernel_rfl) ?_)
    rw [masG, if_neg h1, hall, Bool.false_or, if_pos h]
  refine regC mix [(6, con (h26 (by omega)))] (by kernel_rfl) ?_
  have hm0 : masG l kind tel flt at' known used = if used.length = 0 then .tup [zP, vI 10] else .tup [medP used, vI 0] := by
    rw [masG, if_neg h1, hall, Bool.false_or, if_neg (by rw [h]; exact Bool.false_ne_true)]
  rw [hm0]
  refine reg0 mix (by kernel_rfl) ?_
  refine rCond ((used.length : Int) == 0) (by kernel_rfl) (fun h => ?_) (fun h => ?_)
  · refine reg0 mix (by kernel_rfl) ?_
    refine run_ret (ret_of (.tup [zP, vI 10]) (by kernel_rfl) ?_)
    rw [if_pos (by simp at h; simp [h])]
  have hu0 : used.length ≠ 0 := by simpa using h
  rw [if_neg hu0]
  refine reg0 mix (by kernel_rfl) ?_
  refine reg0 mix (by kernel_rfl) ?_
  refine rBlock ?_
  refine rLoop (ma2 used) (fun i => i ≤ 4) (fun i => 4 - i) 0 (wkTo [12, 15, 16, 17] [] (by kernel_rfl)) (by omega) ?_
  intro i hi
  refine reg0 mix (by kernel_rfl) ?_
  rcases (by omega : i = 0 ∨ i = 1 ∨ i = 2 ∨ i = 3 ∨ i = 4) with rfl | rfl | rfl | rfl | rfl
  · refine rCondT true (by kernel_rfl) rfl ?_
    refine rBlock ?_
    refine reg0 mix (by kernel_rfl) ?_
    refine run_weaken (wk_nilRow 18 1 3 1 (by kernel_rfl) (by kernel_rfl) (by omega)) ?_ (List.cons_ne_nil _ _)
    refine reg0 mix (by kernel_rfl) ?_
    refine rBlock ?_
    refine rLoop (ma3 used 0) (fun x => 0 ≤ x.1 ∧ x.1 = x.2.1 ∧ x.2.1 ≤ used.length ∧ x.2.2 = rowI ((used.map (·.a)).take x.2.1)) (fun x => (used.length - x.1).toNat) (0, 0, []) (wkTo [12, 15, 16, 17, 18, 19] [] (by kernel_rfl)) ⟨by simp, rfl, by simp, rfl⟩ ?_
    rintro ⟨kk, k, css⟩ ⟨g0, g1, g2, g3⟩
    simp only at g0 g1 g2 g3
    subst g3
    refine reg0 mix (by kernel_rfl) ?_
    refine rCond (decide (kk < (used.length : Int))) (by kernel_rfl) (fun hc => ?_) (fun hc => ?_)
    · have hc : kk < used.length := of_decide_eq_true hc
      have ek : kk.toNat = k := by omega
      have e : IntKind.i64.wrap (kk + 1) = kk + 1 := w64 _ (by omega) (by omega)
      have hlen : (rowI ((used.map (·.a)).take k)).length = k := by simp [rowI]; omega
      refine rBlock ?_
      refine reg mix [] [pf (⟨g0, hc⟩ : 0 ≤ kk ∧ kk < (used.length : Int)), pf (by omega : (0 : Int) ≤ 0 ∧ (0 : Int) < 4), pf hlen.symm, pf (by omega : (k + 1) * 9 ≤ 140737488355328), pf (rfl : 1 = [[cI (used.getD kk.toNat zCa).a]].length)] (by kernel_rfl) ?_
      refine run_nil (blockR_normal ?_)
      refine reg0 mix (by kernel_rfl) ?_
      refine run_nil (loopR_next (IntKind.i64.wrap (kk + 1), k + 1, rowI ((used.map (·.a)).take k) ++ [[cI (used.getD kk.toNat zCa).a]]) (wkTo [12, 15, 16, 17, 18, 19] [75] (by kernel_rfl)) ⟨by simp only; rw [e]; omega, by simp only; rw [e]; omega, by simp only; omega, by simp only; rw [ek, col_succ (by omega)]⟩ (by simp only; rw [e]; omega))
    have hc : ¬ kk < used.length := of_decide_eq_false hc
    have hk : k = used.length := by omega
    subst hk
    refine run_exit (loopR_exit (blockR_exit ?_))
    refine frzRow hB 18 1 used.length 3 1 (rowI ((used.map (·.a)).take used.length)) (elI (used.map (·.a))) [12, 15, 16, 17] [] (by kernel_rfl) (by kernel_rfl) (by simp [rowI]) (fun j hj => col_el hj) (by kernel_rfl) ?_ (List.cons_ne_nil _ _)
    refine reg mix [(2, hcon (g14c used (·.a) hu0 (by omega)))] [pf (g14c used (·.a) hu0 (by omega)), pf (by omega : (0 : Int) ≤ 0 ∧ (0 : Int) < 4)] (by kernel_rfl) ?_
    refine run_nil (blockR_normal ?_)
    refine reg0 mix (by kernel_rfl) ?_
    exact run_nil (loopR_next 1 (wkTo [12, 15, 16, 17] [] (by kernel_rfl)) (by omega) (by omega))
  · refine rCondT true (by kernel_rfl) rfl ?_
    refine rBlock ?_
    refine reg0 mix (by kernel_rfl) ?_
    refine run_weaken (wk_nilRow 18 1 3 1 (by kernel_rfl) (by kernel_rfl) (by omega)) ?_ (List.cons_ne_nil _ _)
    refine reg0 mix (by kernel_rfl) ?_
    refine rBlock ?_
    refine rLoop (ma3 used 1) (fun x => 0 ≤ x.1 ∧ x.1 = x.2.1 ∧ x.2.1 ≤ used.length ∧ x.2.2 = rowI ((used.map (·.b)).take x.2.1)) (fun x => (used.length - x.1).toNat) (0, 0, []) (wkTo [12, 15, 16, 17, 18, 19] [] (by kernel_rfl)) ⟨by simp, rfl, by simp, rfl⟩ ?_
    rintro ⟨kk, k, css⟩ ⟨g0, g1, g2, g3⟩
    simp only at g0 g1 g2 g3
    subst g3
    refine reg0 mix (by kernel_rfl) ?_
    refine rCond (decide (kk < (used.length : Int))) (by kernel_rfl) (fun hc => ?_) (fun hc => ?_)
    · have hc : kk < used.length := of_decide_eq_true hc
      have ek : kk.toNat = k := by omega
      have e : IntKind.i64.wrap (kk + 1) = kk + 1 := w64 _ (by omega) (by omega)
      have hlen : (rowI ((used.map (·.b)).take k)).length = k := by simp [rowI]; omega
      refine rBlock ?_
      refine reg mix [] [pf (⟨g0, hc⟩ : 0 ≤ kk ∧ kk < (used.length : Int)), pf (by omega : (0 : Int) ≤ 1 ∧ (1 : Int) < 4), pf hlen.symm, pf (by omega : (k + 1) * 9 ≤ 140737488355328), pf (rfl : 1 = [[cI (used.getD kk.toNat zCa).b]].length)] (by kernel_rfl) ?_
      refine run_nil (blockR_normal ?_)
      refine reg0 mix (by kernel_rfl) ?_
      refine run_nil (loopR_next (IntKind.i64.wrap (kk + 1), k + 1, rowI ((used.map (·.b)).take k) ++ [[cI (used.getD kk.toNat zCa).b]]) (wkTo [12, 15, 16, 17, 18, 19] [75] (by kernel_rfl)) ⟨by simp only; rw [e]; omega, by simp only; rw [e]; omega, by simp only; omega, by simp only; rw [ek, col_succ (by omega)]⟩ (by simp only; rw [e]; omega))
    have hc : ¬ kk < used.length := of_decide_eq_false hc
    have hk : k = used.length := by omega
    subst hk
    refine run_exit (loopR_exit (blockR_exit ?_))
    refine frzRow hB 18 1 used.length 3 1 (rowI ((used.map (·.b)).take used.length)) (elI (used.map (·.b))) [12, 15, 16, 17] [] (by kernel_rfl) (by kernel_rfl) (by simp [rowI]) (fun j hj => col_el hj) (by kernel_rfl) ?_ (List.cons_ne_nil _ _)
    refine reg mix [(2, hcon (g14c used (·.b) hu0 (by omega)))] [pf (g14c used (·.b) hu0 (by omega)), pf (by omega : (0 : Int) ≤ 1 ∧ (1 : Int) < 4)] (by kernel_rfl) ?_
    refine run_nil (blockR_normal ?_)
    refine reg0 mix (by kernel_rfl) ?_
    exact run_nil (loopR_next 2 (wkTo [12, 15, 16, 17] [] (by kernel_rfl)) (by omega) (by omega))
  · refine rCondT true (by kernel_rfl) rfl ?_
    refine rBlock ?_
    refine reg0 mix (by kernel_rfl) ?_
    refine run_weaken (wk_nilRow 18 1 3 1 (by kernel_rfl) (by kernel_rfl) (by omega)) ?_ (List.cons_ne_nil _ _)
    refine reg0 mix (by kernel_rfl) ?_
    refine rBlock ?_
    refine rLoop (ma3 used 2) (fun x => 0 ≤ x.1 ∧ x.1 = x.2.1 ∧ x.2.1 ≤ used.length ∧ x.2.2 = rowI ((used.map (·.c)).take x.2.1)) (fun x => (used.length - x.1).toNat) (0, 0, []) (wkTo [12, 15, 16, 17, 18, 19] [] (by kernel_rfl)) ⟨by simp, rfl, by simp, rfl⟩ ?_
    rintro ⟨kk, k, css⟩ ⟨g0, g1, g2, g3⟩
    simp only at g0 g1 g2 g3
    subst g3
    refine reg0 mix (by kernel_rfl) ?_
    refine rCond (decide (kk < (used.length : Int))) (by kernel_rfl) (fun hc => ?_) (fun hc => ?_)
    · have hc : kk < used.length := of_decide_eq_true hc
      have ek : kk.toNat = k := by omega
      have e : IntKind.i64.wrap (kk + 1) = kk + 1 := w64 _ (by omega) (by omega)
      have hlen : (rowI ((used.map (·.c)).take k)).length = k := by simp [rowI]; omega
      refine rBlock ?_
      refine reg mix [] [pf (⟨g0, hc⟩ : 0 ≤ kk ∧ kk < (used.length : Int)), pf (by omega : (0 : Int) ≤ 2 ∧ (2 : Int) < 4), pf hlen.symm, pf (by omega : (k + 1) * 9 ≤ 140737488355328), pf (rfl : 1 = [[cI (used.getD kk.toNat zCa).c]].length)] (by kernel_rfl) ?_
      refine run_nil (blockR_normal ?_)
      refine reg0 mix (by kernel_rfl) ?_
      refine run_nil (loopR_next (IntKind.i64.wrap (kk + 1), k + 1, rowI ((used.map (·.c)).take k) ++ [[cI (used.getD kk.toNat zCa).c]]) (wkTo [12, 15, 16, 17, 18, 19] [75] (by kernel_rfl)) ⟨by simp only; rw [e]; omega, by simp only; rw [e]; omega, by simp only; omega, by simp only; rw [ek, col_succ (by omega)]⟩ (by simp only; rw [e]; omega))
    have hc : ¬ kk < used.length := of_decide_eq_false hc
    have hk : k = used.length := by omega
    subst hk
    refine run_exit (loopR_exit (blockR_exit ?_))
    refine frzRow hB 18 1 used.length 3 1 (rowI ((used.map (·.c)).take used.length)) (elI (used.map (·.c))) [12, 15, 16, 17] [] (by kernel_rfl) (by kernel_rfl) (by simp [rowI]) (fun j hj => col_el hj) (by kernel_rfl) ?_ (List.cons_ne_nil _ _)
    refine reg mix [(2, hcon (g14c used (·.c) hu0 (by omega)))] [pf (g14c used (·.c) hu0 (by omega)), pf (by omega : (0 : Int) ≤ 2 ∧ (2 : Int) < 4)] (by kernel_rfl) ?_
    refine run_nil (blockR_normal ?_)
    refine reg0 mix (by kernel_rfl) ?_
    exact run_nil (loopR_next 3 (wkTo [12, 15, 16, 17] [] (by kernel_rfl)) (by omega) (by omega))
  · refine rCondT true (by kernel_rfl) rfl ?_
    refine rBlock ?_
    refine reg0 mix (by kernel_rfl) ?_
    refine run_weaken (wk_nilRow 18 1 3 1 (by kernel_rfl) (by kernel_rfl) (by omega)) ?_ (List.cons_ne_nil _ _)
    refine reg0 mix (by kernel_rfl) ?_
    refine rBlock ?_
    refine rLoop (ma3 used 3) (fun x => 0 ≤ x.1 ∧ x.1 = x.2.1 ∧ x.2.1 ≤ used.length ∧ x.2.2 = rowI ((used.map (·.d)).take x.2.1)) (fun x => (used.length - x.1).toNat) (0, 0, []) (wkTo [12, 15, 16, 17, 18, 19] [] (by kernel_rfl)) ⟨by simp, rfl, by simp, rfl⟩ ?_
    rintro ⟨kk, k, css⟩ ⟨g0, g1, g2, g3⟩
    simp only at g0 g1 g2 g3
    subst g3
    refine reg0 mix (by kernel_rfl) ?_
    refine rCond (decide (kk < (used.length : Int))) (by kernel_rfl) (fun hc => ?_) (fun hc => ?_)
    · have hc : kk < used.length := of_decide_eq_true hc
      have ek : kk.toNat = k := by omega
      have e : IntKind.i64.wrap (kk + 1) = kk + 1 := w64 _ (by omega) (by omega)
      have hlen : (rowI ((used.map (·.d)).take k)).length = k := by simp [rowI]; omega
      refine rBlock ?_
      refine reg mix [] [pf (⟨g0, hc⟩ : 0 ≤ kk ∧ kk < (used.length : Int)), pf (by omega : (0 : Int) ≤ 3 ∧ (3 : Int) < 4), pf hlen.symm, pf (by omega : (k + 1) * 9 ≤ 140737488355328), pf (rfl : 1 = [[cI (used.getD kk.toNat zCa).d]].length)] (by kernel_rfl) ?_
      refine run_nil (blockR_normal ?_)
      refine reg0 mix (by kernel_rfl) ?_
      refine run_nil (loopR_next (IntKind.i64.wrap (kk + 1), k + 1, rowI ((used.map (·.d)).take k) ++ [[cI (used.getD kk.toNat zCa).d]]) (wkTo [12, 15, 16, 17, 18, 19] [75] (by kernel_rfl)) ⟨by simp only; rw [e]; omega, by simp only; rw [e]; omega, by simp only; omega, by simp only; rw [ek, col_succ (by omega)]⟩ (by simp only; rw [e]; omega))
    have hc : ¬ kk < used.length := of_decide_eq_false hc
    have hk : k = used.length := by omega
    subst hk
    refine run_exit (loopR_exit (blockR_exit ?_))
    refine frzRow hB 18 1 used.length 3 1 (rowI ((used.map (·.d)).take used.length)) (elI (used.map (·.d))) [12, 15, 16, 17] [] (by kernel_rfl) (by kernel_rfl) (by simp [rowI]) (fun j hj => col_el hj) (by kernel_rfl) ?_ (List.cons_ne_nil _ _)
    refine reg mix [(2, hcon (g14c used (·.d) hu0 (by omega)))] [pf (g14c used (·.d) hu0 (by omega)), pf (by omega : (0 : Int) ≤ 3 ∧ (3 : Int) < 4)] (by kernel_rfl) ?_
    refine run_nil (blockR_normal ?_)
    refine reg0 mix (by kernel_rfl) ?_
    exact run_nil (loopR_next 4 (wkTo [12, 15, 16, 17] [] (by kernel_rfl)) (by omega) (by omega))
  · refine rCondF false (by kernel_rfl) rfl ?_
    refine run_exit (loopR_exit (blockR_exit ?_))
    refine reg0 mix (by kernel_rfl) ?_
    exact run_ret (ret_of (.tup [medP used, vI 0]) (by kernel_rfl) rfl)
end Go.Proofs.Ytmdgbejfdcfhpaa
