import Derived.Test.YtmdgbejfdcfhpaaT20I
namespace Go.Proofs.Ytmdgbejfdcfhpaa
open Go.Sym
set_option linter.unusedVariables false
set_option linter.unusedSimpArgs false

/-! ### Master -/
def keyCa (x : Ca) : Int := -x.at'
theorem okCa_at {x : Ca} (h : okCa x = true) : 0 ≤ x.at' ∧ x.at' ≤ 38399 := by
  simp only [okCa, mom, Bool.and_eq_true, decide_eq_true_eq] at h
  omega
theorem ordCa : StbCa.Ord 25 [] (fun x y => IntKind.i64.wrap (y.at' - x.at')) keyCa (fun x => okCa x = true) where
  call := fun x y _ _ => f25 x y
  lt := fun x y hx hy => by
    have h1 := okCa_at hx
    have h2 := okCa_at hy
    rw [w64 _ (by omega) (by omega), keyCa, keyCa]
    omega
/-- Those of a list that apply, the last one first; i of them have been looked at. -/
def selN (l : List Ca) (p : Ca → Bool) (i : Nat) : List Ca := (l.reverse.take i).filter p
def sel (l : List Ca) (p : Ca → Bool) : List Ca := l.reverse.filter p
def usedG (l : List Ca) (p : Ca → Bool) : List Ca := (isort keyCa (sel l p)).take 5
theorem bwX_get {l : List Ca} {i : Nat} (h : i < (bwX l).length) : (bwX l).getD i [] = [vI ((l.length : Int) - 1 - (i : Int)), .agg (encCa (l.getD (l.length - 1 - i) zCa))] := by
  rw [bwX_len] at h
  simp [bwX, List.getD_eq_getElem?_getD, h]
theorem selN_succ {l : List Ca} {p : Ca → Bool} {i : Nat} (h : i < l.length) : selN l p (i + 1) = selN l p i ++ [l.getD (l.length - 1 - i) zCa].filter p := by
  have h' : i < l.reverse.length := by simpa using h
  rw [selN, selN, List.take_succ_eq_append_getElem h', List.filter_append]
  congr 2
  simp [List.getD_eq_getElem?_getD, show l.length - 1 - i < l.length by omega]
theorem selN_len (l : List Ca) (p : Ca → Bool) (i : Nat) : (selN l p i).length ≤ l.length := by
  refine Nat.le_trans (List.length_filter_le _ _) ?_
  simp; omega
abbrev caps22 (kind tel flt at' known : Int) : List C := [.kptr [cI at'] 0, .kptr [cI kind, cI tel, cI flt, cI at'] 0, .kptr [cI known] 0]
section
variable (kind tel flt at' known : Int)
def mbI (n : Nat) (css : List (List C)) : S := mkS 92 [(12, .b (.v (.c (.ptr 12 0)))), (15, .b (.v (.c (.ptr 15 0)))), (16, .b (.v (.c (.ptr 16 0))))] [(12, .cells [cI 0, cI 0, cI 0, cI 0]), (15, .cells [.clo 22 (caps22 kind tel flt at' known)]), (16, .pcells [.row 90 n]), (90, .row 42 9 css)]
def mbP (n : Nat) (css : List (List C)) : S := mkS 92 [(12, .pin 12 (.v (.c (.ptr 12 0)))), (15, .pin 15 (.v (.c (.ptr 15 0)))), (16, .pin 16 (.v (.c (.ptr 16 0))))] [(12, .cells [cI 0, cI 0, cI 0, cI 0]), (15, .cells [.clo 22 (caps22 kind tel flt at' known)]), (16, .pcells [.row 90 n]), (90, .row 42 9 css)]
end
def mb2 (L used : List Ca) (m : Nat) (i : Nat) : S := mkS 92 [(12, .b (.v (.c (.ptr 12 0)))), (16, .b (.v (.c (.ptr 16 0)))), (19, .b (.v (.c (.ptr 19 0)))), (66, .b (.v (vI i)))] [(12, .cells [cI 0, cI 0, cI 0, cI 0]), (16, .cells [.lst 9 m (elCa L)]), (19, .cells (outC used i))]
def mb3 (L used : List Ca) (m : Nat) (i : Nat) (x : Int × Nat × List (List C)) : S := mkS 92 [(12, .b (.v (.c (.ptr 12 0)))), (16, .b (.v (.c (.ptr 16 0)))), (19, .b (.v (.c (.ptr 19 0)))), (66, .b (.v (vI i))), (20, .b (.v (vI i))), (21, .b (.v (.c (.row 1 x.2.1)))), (69, .b (.v (.c (.lst 9 m (elCa L))))), (70, .b (.v (vI m))), (71, .b (.v (vI x.1)))] [(12, .cells [cI 0, cI 0, cI 0, cI 0]), (16, .cells [.lst 9 m (elCa L)]), (19, .cells (outC used i)), (1, .row 3 1 x.2.2)]
theorem f11 (l : List Ca) (kind tel flt at' known : Int) : FCall Try.prog 11 [lCa l, vI kind, vI tel, vI flt, vI at', vI known] (masG l kind tel flt at' known (usedG l fun x => applies x kind tel flt at' known)) := by
  have hp : ∀ x, applies x kind tel flt at' known = (fun x => applies x kind tel flt at' known) x := fun _ => rfl
  refine fcall_of Try.func11 rfl (by kernel_rfl) (fun B hB => ?_)
  refine reg mix [(0, .imm), (1, .imm)] [] (by kernel_rfl) ?_
  refine reg0 mix (by kernel_rfl) ?_
  refine rCond (decide ((l.length : Int) > 1000)) (by kernel_rfl) (fun h => ?_) (fun h => ?_)
  · refine reg0 mix (by kernel_rfl) ?_
    refine run_ret (ret_of (.tup [zP, vI 2]) (by kernel_rfl) ?_)
    rw [masG, if_pos (of_decide_eq_true h)]
  have h1 := of_decide_eq_false h
  have hl : l.length ≤ 1000000 := by omega
  refine reg0 mix (by kernel_rfl) ?_
  refine regI mix [(1, hcon (f19 l 20 (fun x => !okCa x) hl f20)), (6, hcon (f21 (wantCa kind tel flt at' known)))] [pf (fun _ : true = true => f19 l 20 (fun x => !okCa x) hl f20), pf (fun _ : (!l.any (fun x => !okCa x)) = true => f21 (wantCa kind tel flt at' known))] (by kernel_rfl) ?_
  refine rCond (l.any (fun x => !okCa x) || !okCa (wantCa kind tel flt at' known)) (by kernel_rfl) (fun h => ?_) (fun h => ?_)
  · refine reg0 mix (by kernel_rfl) ?_
    refine run_ret (ret_of (.tup [zP, vI 1]) (by kernel_rfl) ?_)
    rw [masG, if_neg h1, if_pos h]
  have hok : ∀ x, x ∈ l → okCa x = true := by
    simp only [Bool.or_eq_false_iff, List.any_eq_false] at h
    intro x hx
    simpa using h.1 x hx
  have hm0 : masG l kind tel flt at' known (usedG l fun x => applies x kind tel flt at' known) = if (usedG l fun x => applies x kind tel flt at' known).length = 0 then .tup [zP, vI 10] else .tup [medP (usedG l fun x => applies x kind tel flt at' known), vI 0] := by
    rw [masG, if_neg h1, if_neg (by rw [h]; exact Bool.false_ne_true)]
  rw [hm0]
  refine frzBox hB 14 14 0 [cI kind, cI tel, cI flt, cI at'] [0, 10, 11, 12] [] (by kernel_rfl) (by kernel_rfl) (by kernel_rfl) ?_ (List.cons_ne_nil _ _)
  refine reg0 mix (by kernel_rfl) ?_
  refine reg0 mix (by kernel_rfl) ?_
  refine run_weaken (wk_nilCell 16 0 90 42 9 [.nil] (by kernel_rfl) (by kernel_rfl) (by kernel_rfl) (by omega)) ?_ (List.cons_ne_nil _ _)
  refine regC mix [(1, con (f23 l))] (by kernel_rfl) ?_
  refine rBlock ?_
  refine rRange hB.r hB.fn (by kernel_rfl) (f34 l hl) (fun i hi => by rw [bwX_get hi]; rfl) (bwX l).length (Nat.le_refl _) (fun i => mbI kind tel flt at' known (selN l (fun x => applies x kind tel flt at' known) i).length (StbCa.rwE (selN l (fun x => applies x kind tel flt at' known) i))) (wkTo [12, 15, 16] [] (by kernel_rfl)) (fun i _ => by kernel_rfl) ?_ ?_
  · intro i hi hik B1
    have hi' : i < l.length := by rwa [bwX_len] at hi
    have hsl := selN_len l (fun x => applies x kind tel flt at' known) i
    have hss := selN_succ (p := fun x => applies x kind tel flt at' known) hi'
    rw [bwX_get hi]
    generalize l.getD (l.length - 1 - i) zCa = x at hss
    refine reg0 mix (by kernel_rfl) ?_
    refine run_nil ⟨rfl, by kernel_rfl, fun B2 => ?_⟩
    refine rBlock ?_
    refine regC mix [(2, con (f22 x kind tel flt at' known))] (by kernel_rfl) ?_
    refine rCond (applies x kind tel flt at' known) (by kernel_rfl) (fun h => ?_) (fun h => ?_)
    · refine reg mix [] [pf ((StbCa.rwE_len _).symm : (selN l (fun x => applies x kind tel flt at' known) i).length = (StbCa.rwE (selN l (fun x => applies x kind tel flt at' known) i)).length), pf ((by omega) : ((selN l (fun x => applies x kind tel flt at' known) i).length + 1) * 73 ≤ 140737488355328), pf (rfl : 1 = [encCa x].length)] (by kernel_rfl) ?_
      refine run_nil (blockR_normal (run_nil ⟨hi, mbP kind tel flt at' known ((selN l (fun x => applies x kind tel flt at' known) i).length + 1) (StbCa.rwE (selN l (fun x => applies x kind tel flt at' known) i) ++ [encCa x]), wkTo [12, 15, 16] [18, 53] (by kernel_rfl), by kernel_rfl, ?_⟩))
      have e1 : (selN l (fun x => applies x kind tel flt at' known) (i + 1)).length = (selN l (fun x => applies x kind tel flt at' known) i).length + 1 := by rw [hss]; simp [h]
      have e2 : StbCa.rwE (selN l (fun x => applies x kind tel flt at' known) (i + 1)) = StbCa.rwE (selN l (fun x => applies x kind tel flt at' known) i) ++ [encCa x] := by rw [hss]; simp [h, StbCa.rwE]
      show Wk Try.prog _ (mbI kind tel flt at' known (selN l (fun x => applies x kind tel flt at' known) (i + 1)).length (StbCa.rwE (selN l (fun x => applies x kind tel flt at' known) (i + 1))))
      rw [e1, e2]
      exact Wk.refl _
    · refine run_nil (blockR_normal (run_nil ⟨hi, mbP kind tel flt at' known (selN l (fun x => applies x kind tel flt at' known) i).length (StbCa.rwE (selN l (fun x => applies x kind tel flt at' known) i)), wkTo [12, 15, 16] [18] (by kernel_rfl), by kernel_rfl, ?_⟩))
      have e1 : selN l (fun x => applies x kind tel flt at' known) (i + 1) = selN l (fun x => applies x kind tel flt at' known) i := by rw [hss]; simp [h]
      show Wk Try.prog _ (mbI kind tel flt at' known (selN l (fun x => applies x kind tel flt at' known) (i + 1)).length (StbCa.rwE (selN l (fun x => applies x kind tel flt at' known) (i + 1))))
      rw [e1]
      exact Wk.refl _
  intro _
  have hsel : selN l (fun x => applies x kind tel flt at' known) (bwX l).length = sel l (fun x => applies x kind tel flt at' known) := by
    rw [bwX_len, selN, List.take_of_length_le (by simp), sel]
  rw [hsel]
  have hsl : (sel l fun x => applies x kind tel flt at' known).length ≤ l.length := by
    refine Nat.le_trans (List.length_filter_le _ _) ?_
    simp
  have hso : ∀ x, x ∈ sel l (fun x => applies x kind tel flt at' known) → okCa x = true := fun x hx => hok x (by
    have := (List.mem_filter.1 hx).1
    simpa using this)
  rw [show (usedG l fun x => applies x kind tel flt at' known) = (isort keyCa (sel l fun x => applies x kind tel flt at' known)).take 5 from rfl]
  generalize (sel l fun x => applies x kind tel flt at' known) = s at hsl hso
  refine run_nil (blockR_normal ?_)
  refine reg mix [] [pf ((StbCa.rwE_len s).symm)] (by kernel_rfl) ?_
  refine rCond ((s.length : Int) == 0) (by kernel_rfl) (fun h => ?_) (fun h => ?_)
  · refine reg0 mix (by kernel_rfl) ?_
    refine run_ret (ret_of (.tup [zP, vI 10]) (by kernel_rfl) ?_)
    rw [if_pos (by rw [List.length_take, isort_len]; simp at h; simp [h])]
  have hs0 : s.length ≠ 0 := by simpa using h
  have hul : ((isort keyCa s).take 5).length = if s.length < 5 then s.length else 5 := by rw [List.length_take, isort_len]; split <;> omega
  rw [if_neg (by rw [hul]; split <;> omega)]
  have hsort := (StbCa.sort ordCa 42 s.length s rfl (by omega) hso).ren (fun _ => 90) ⟨by kernel_rfl, by kernel_rfl, by kernel_rfl, by kernel_rfl, by kernel_rfl, by kernel_rfl, by kernel_rfl⟩
  refine reg mix [(1, .own [90] [] (.tup []) [(90, .row 42 9 (StbCa.rwE (isort keyCa s)))])] [pf hsort] (by kernel_rfl) ?_
  refine frzCell hB 16 0 90 s.length 42 9 [.row 90 s.length] (StbCa.rwE (isort keyCa s)) (elCa (isort keyCa s)) [12, 16] [] (by kernel_rfl) (by kernel_rfl) (by kernel_rfl) (by rw [StbCa.rwE_len, isort_len]) (fun i hi => (StbCa.rwE_get (by rw [isort_len]; exact hi)).symm) (by kernel_rfl) ?_ (List.cons_ne_nil _ _)
  refine reg mix [] [pf ((by split <;> omega) : 0 ≤ (if (s.length : Int) < 5 then (s.length : Int) else 5) ∧ (if (s.length : Int) < 5 then (s.length : Int) else 5) ≤ (s.length : Int))] (by kernel_rfl) ?_
  have hM : (if (s.length : Int) < 5 then (s.length : Int) else 5).toNat = ((isort keyCa s).take 5).length := by rw [hul]; split <;> split <;> omega
  refine reg0 mix (by kernel_rfl) ?_
  refine reg0 mix (by kernel_rfl) ?_
  refine rBlock ?_
  refine rLoop (mb2 (isort keyCa s) ((isort keyCa s).take 5) (if (s.length : Int) < 5 then (s.length : Int) else 5).toNat) (fun i => i ≤ 4) (fun i => 4 - i) 0 (wkTo [12, 16, 19, 66] [15] (by kernel_rfl)) (by omega) ?_
  intro i hi
  have hget : ∀ k, k < ((isort keyCa s).take 5).length → (isort keyCa s).getD k zCa = ((isort keyCa s).take 5).getD k zCa := fun k hk => by
    rw [List.length_take] at hk
    simp [List.getD_eq_getElem?_getD, List.getElem?_take, show k < 5 by omega]
  have hu5 : ((isort keyCa s).take 5).length ≤ 5 := by rw [List.length_take]; omega
  have hu0 : ((isort keyCa s).take 5).length ≠ 0 := by rw [hul]; split <;> omega
  rw [hM]
  generalize (isort keyCa s).take 5 = used at hget hu5 hu0
  generalize isort keyCa s = L at hget
  refine reg0 mix (by kernel_rfl) ?_
  rcases (by omega : i = 0 ∨ i = 1 ∨ i = 2 ∨ i = 3 ∨ i = 4) with rfl | rfl | rfl | rfl | rfl
  · refine rCondT true (by kernel_rfl) rfl ?_
    refine rBlock ?_
    refine reg0 mix (by kernel_rfl) ?_
    refine reg0 mix (by kernel_rfl) ?_
    refine run_weaken (wk_nilRow 21 1 3 1 (by kernel_rfl) (by kernel_rfl) (by omega)) ?_ (List.cons_ne_nil _ _)
    refine reg0 mix (by kernel_rfl) ?_
    refine rBlock ?_
    refine rLoop (mb3 L used used.length 0) (fun x => 0 ≤ x.1 ∧ x.1 = x.2.1 ∧ x.2.1 ≤ used.length ∧ x.2.2 = rowI ((used.map (·.a)).take x.2.1)) (fun x => (used.length - x.1).toNat) (0, 0, []) (wkTo [12, 16, 19, 66, 20, 21, 69, 70, 71] [] (by kernel_rfl)) ⟨by simp, rfl, by simp, rfl⟩ ?_
    rintro ⟨kk, k, css⟩ ⟨g0, g1, g2, g3⟩
    simp only at g0 g1 g2 g3
    subst g3
    refine reg0 mix (by kernel_rfl) ?_
    refine rCond (decide (kk < (used.length : Int))) (by kernel_rfl) (fun hc => ?_) (fun hc => ?_)
    · have hc : kk < used.length := of_decide_eq_true hc
      have ek : kk.toNat = k := by omega
      have e : IntKind.i64.wrap (kk + 1) = kk + 1 := w64 _ (by omega) (by omega)
      have hlen : (rowI ((used.map (·.a)).take k)).length = k := by simp [rowI]; omega
      refine rBlock ?_
      refine reg mix [] [pf (⟨g0, hc⟩ : 0 ≤ kk ∧ kk < (used.length : Int))] (by kernel_rfl) ?_
      refine reg mix [] [pf (by omega : (0 : Int) ≤ 0 ∧ (0 : Int) < 4), pf hlen.symm, pf (by omega : (k + 1) * 9 ≤ 140737488355328), pf (rfl : 1 = [[cI (L.getD kk.toNat zCa).a]].length)] (by kernel_rfl) ?_
      refine run_nil (blockR_normal ?_)
      refine reg0 mix (by kernel_rfl) ?_
      refine run_nil (loopR_next (IntKind.i64.wrap (kk + 1), k + 1, rowI ((used.map (·.a)).take k) ++ [[cI (L.getD kk.toNat zCa).a]]) (wkTo [12, 16, 19, 66, 20, 21, 69, 70, 71] [23, 80] (by kernel_rfl)) ⟨by simp only; rw [e]; omega, by simp only; rw [e]; omega, by simp only; omega, by simp only; rw [ek, col_succ (by omega), hget k (by omega)]⟩ (by simp only; rw [e]; omega))
    have hc : ¬ kk < used.length := of_decide_eq_false hc
    have hk : k = used.length := by omega
    subst hk
    refine run_exit (loopR_exit (blockR_exit ?_))
    refine frzRow hB 21 1 used.length 3 1 (rowI ((used.map (·.a)).take used.length)) (elI (used.map (·.a))) [12, 16, 19, 66, 20] [] (by kernel_rfl) (by kernel_rfl) (by simp [rowI]) (fun j hj => col_el hj) (by kernel_rfl) ?_ (List.cons_ne_nil _ _)
    refine reg mix [(2, hcon (g13c used (·.a) hu0 (by omega)))] [pf (g13c used (·.a) hu0 (by omega)), pf (by omega : (0 : Int) ≤ 0 ∧ (0 : Int) < 4)] (by kernel_rfl) ?_
    refine run_nil (blockR_normal ?_)
    refine reg0 mix (by kernel_rfl) ?_
    exact run_nil (loopR_next 1 (wkTo [12, 16, 19, 66] [] (by kernel_rfl)) (by omega) (by omega))
  · refine rCondT true (by kernel_rfl) rfl ?_
    refine rBlock ?_
    refine reg0 mix (by kernel_rfl) ?_
    refine reg0 mix (by kernel_rfl) ?_
    refine run_weaken (wk_nilRow 21 1 3 1 (by kernel_rfl) (by kernel_rfl) (by omega)) ?_ (List.cons_ne_nil _ _)
    refine reg0 mix (by kernel_rfl) ?_
    refine rBlock ?_
    refine rLoop (mb3 L used used.length 1) (fun x => 0 ≤ x.1 ∧ x.1 = x.2.1 ∧ x.2.1 ≤ used.length ∧ x.2.2 = rowI ((used.map (·.b)).take x.2.1)) (fun x => (used.length - x.1).toNat) (0, 0, []) (wkTo [12, 16, 19, 66, 20, 21, 69, 70, 71] [] (by kernel_rfl)) ⟨by simp, rfl, by simp, rfl⟩ ?_
    rintro ⟨kk, k, css⟩ ⟨g0, g1, g2, g3⟩
    simp only at g0 g1 g2 g3
    subst g3
    refine reg0 mix (by kernel_rfl) ?_
    refine rCond (decide (kk < (used.length : Int))) (by kernel_rfl) (fun hc => ?_) (fun hc => ?_)
    · have hc : kk < used.length := of_decide_eq_true hc
      have ek : kk.toNat = k := by omega
      have e : IntKind.i64.wrap (kk + 1) = kk + 1 := w64 _ (by omega) (by omega)
      have hlen : (rowI ((used.map (·.b)).take k)).length = k := by simp [rowI]; omega
      refine rBlock ?_
      refine reg mix [] [pf (⟨g0, hc⟩ : 0 ≤ kk ∧ kk < (used.length : Int))] (by kernel_rfl) ?_
      refine reg mix [] [pf (by omega : (0 : Int) ≤ 1 ∧ (1 : Int) < 4), pf hlen.symm, pf (by omega : (k + 1) * 9 ≤ 140737488355328), pf (rfl : 1 = [[cI (L.getD kk.toNat zCa).b]].length)] (by kernel_rfl) ?_
      refine run_nil (blockR_normal ?_)
      refine reg0 mix (by kernel_rfl) ?_
      refine run_nil (loopR_next (IntKind.i64.wrap (kk + 1), k + 1, rowI ((used.map (·.b)).take k) ++ [[cI (L.getD kk.toNat zCa).b]]) (wkTo [12, 16, 19, 66, 20, 21, 69, 70, 71] [23, 80] (by kernel_rfl)) ⟨by simp only; rw [e]; omega, by simp only; rw [e]; omega, by simp only; omega, by simp only; rw [ek, col_succ (by omega), hget k (by omega)]⟩ (by simp only; rw [e]; omega))
    have hc : ¬ kk < used.length := of_decide_eq_false hc
    have hk : k = used.length := by omega
    subst hk
    refine run_exit (loopR_exit (blockR_exit ?_))
    refine frzRow hB 21 1 used.length 3 1 (rowI ((used.map (·.b)).take used.length)) (elI (used.map (·.b))) [12, 16, 19, 66, 20] [] (by kernel_rfl) (by kernel_rfl) (by simp [rowI]) (fun j hj => col_el hj) (by kernel_rfl) ?_ (List.cons_ne_nil _ _)
    refine reg mix [(2, hcon (g13c used (·.b) hu0 (by omega)))] [pf (g13c used (·.b) hu0 (by omega)), pf (by omega : (0 : Int) ≤ 1 ∧ (1 : Int) < 4)] (by kernel_rfl) ?_
    refine run_nil (blockR_normal ?_)
    refine reg0 mix (by kernel_rfl) ?_
    exact run_nil (loopR_next 2 (wkTo [12, 16, 19, 66] [] (by kernel_rfl)) (by omega) (by omega))
  · refine rCondT true (by kernel_rfl) rfl ?_
    refine rBlock ?_
    refine reg0 mix (by kernel_rfl) ?_
    refine reg0 mix (by kernel_rfl) ?_
    refine run_weaken (wk_nilRow 21 1 3 1 (by kernel_rfl) (by kernel_rfl) (by omega)) ?_ (List.cons_ne_nil _ _)
    refine reg0 mix (by kernel_rfl) ?_
    refine rBlock ?_
    refine rLoop (mb3 L used used.length 2) (fun x => 0 ≤ x.1 ∧ x.1 = x.2.1 ∧ x.2.1 ≤ used.length ∧ x.2.2 = rowI ((used.map (·.c)).take x.2.1)) (fun x => (used.length - x.1).toNat) (0, 0, []) (wkTo [12, 16, 19, 66, 20, 21, 69, 70, 71] [] (by kernel_rfl)) ⟨by simp, rfl, by simp, rfl⟩ ?_
    rintro ⟨kk, k, css⟩ ⟨g0, g1, g2, g3⟩
    simp only at g0 g1 g2 g3
    subst g3
    refine reg0 mix (by kernel_rfl) ?_
    refine rCond (decide (kk < (used.length : Int))) (by kernel_rfl) (fun hc => ?_) (fun hc => ?_)
    · have hc : kk < used.length := of_decide_eq_true hc
      have ek : kk.toNat = k := by omega
      have e : IntKind.i64.wrap (kk + 1) = kk + 1 := w64 _ (by omega) (by omega)
      have hlen : (rowI ((used.map (·.c)).take k)).length = k := by simp [rowI]; omega
      refine rBlock ?_
      refine reg mix [] [pf (⟨g0, hc⟩ : 0 ≤ kk ∧ kk < (used.length : Int))] (by kernel_rfl) ?_
      refine reg mix [] [pf (by omega : (0 : Int) ≤ 2 ∧ (2 : Int) < 4), pf hlen.symm, pf (by omega : (k + 1) * 9 ≤ 140737488355328), pf (rfl : 1 = [[cI (L.getD kk.toNat zCa).c]].length)] (by kernel_rfl) ?_
      refine run_nil (blockR_normal ?_)
      refine reg0 mix (by kernel_rfl) ?_
      refine run_nil (loopR_next (IntKind.i64.wrap (kk + 1), k + 1, rowI ((used.map (·.c)).take k) ++ [[cI (L.getD kk.toNat zCa).c]]) (wkTo [12, 16, 19, 66, 20, 21, 69, 70, 71] [23, 80] (by kernel_rfl)) ⟨by simp only; rw [e]; omega, by simp only; rw [e]; omega, by simp only; omega, by simp only; rw [ek, col_succ (by omega), hget k (by omega)]⟩ (by simp only; rw [e]; omega))
    have hc : ¬ kk < used.length := of_decide_eq_false hc
    have hk : k = used.length := by omega
    subst hk
    refine run_exit (loopR_exit (blockR_exit ?_))
    refine frzRow hB 21 1 used.length 3 1 (rowI ((used.map (·.c)).take used.length)) (elI (used.map (·.c))) [12, 16, 19, 66, 20] [] (by kernel_rfl) (by kernel_rfl) (by simp [rowI]) (fun j hj => col_el hj) (by kernel_rfl) ?_ (List.cons_ne_nil _ _)
    refine reg mix [(2, hcon (g13c used (·.c) hu0 (by omega)))] [pf (g13c used (·.c) hu0 (by omega)), pf (by omega : (0 : Int) ≤ 2 ∧ (2 : Int) < 4)] (by kernel_rfl) ?_
    refine run_nil (blockR_normal ?_)
    refine reg0 mix (by kernel_rfl) ?_
    exact run_nil (loopR_next 3 (wkTo [12, 16, 19, 66] [] (by kernel_rfl)) (by omega) (by omega))
  · refine rCondT true (by kernel_rfl) rfl ?_
    refine rBlock ?_
    refine reg0 mix (by kernel_rfl) ?_
    refine reg0 mix (by kernel_rfl) ?_
    refine run_weaken (wk_nilRow 21 1 3 1 (by kernel_rfl) (by kernel_rfl) (by omega)) ?_ (List.cons_ne_nil _ _)
    refine reg0 mix (by kernel_rfl) ?_
    refine rBlock ?_
    refine rLoop (mb3 L used used.length 3) (fun x => 0 ≤ x.1 ∧ x.1 = x.2.1 ∧ x.2.1 ≤ used.length ∧ x.2.2 = rowI ((used.map (·.d)).take x.2.1)) (fun x => (used.length - x.1).toNat) (0, 0, []) (wkTo [12, 16, 19, 66, 20, 21, 69, 70, 71] [] (by kernel_rfl)) ⟨by simp, rfl, by simp, rfl⟩ ?_
    rintro ⟨kk, k, css⟩ ⟨g0, g1, g2, g3⟩
    simp only at g0 g1 g2 g3
    subst g3
    refine reg0 mix (by kernel_rfl) ?_
    refine rCond (decide (kk < (used.length : Int))) (by kernel_rfl) (fun hc => ?_) (fun hc => ?_)
    · have hc : kk < used.length := of_decide_eq_true hc
      have ek : kk.toNat = k := by omega
      have e : IntKind.i64.wrap (kk + 1) = kk + 1 := w64 _ (by omega) (by omega)
      have hlen : (rowI ((used.map (·.d)).take k)).length = k := by simp [rowI]; omega
      refine rBlock ?_
      refine reg mix [] [pf (⟨g0, hc⟩ : 0 ≤ kk ∧ kk < (used.length : Int))] (by kernel_rfl) ?_
      refine reg mix [] [pf (by omega : (0 : Int) ≤ 3 ∧ (3 : Int) < 4), pf hlen.symm, pf (by omega : (k + 1) * 9 ≤ 140737488355328), pf (rfl : 1 = [[cI (L.getD kk.toNat zCa).d]].length)] (by kernel_rfl) ?_
      refine run_nil (blockR_normal ?_)
      refine reg0 mix (by kernel_rfl) ?_
      refine run_nil (loopR_next (IntKind.i64.wrap (kk + 1), k + 1, rowI ((used.map (·.d)).take k) ++ [[cI (L.getD kk.toNat zCa).d]]) (wkTo [12, 16, 19, 66, 20, 21, 69, 70, 71] [23, 80] (by kernel_rfl)) ⟨by simp only; rw [e]; omega, by simp only; rw [e]; omega, by simp only; omega, by simp only; rw [ek, col_succ (by omega), hget k (by omega)]⟩ (by simp only; rw [e]; omega))
    have hc : ¬ kk < used.length := of_decide_eq_false hc
    have hk : k = used.length := by omega
    subst hk
    refine run_exit (loopR_exit (blockR_exit ?_))
    refine frzRow hB 21 1 used.length 3 1 (rowI ((used.map (·.d)).take used.length)) (elI (used.map (·.d))) [12, 16, 19, 66, 20] [] (by kernel_rfl) (by kernel_rfl) (by simp [rowI]) (fun j hj => col_el hj) (by kernel_rfl) ?_ (List.cons_ne_nil _ _)
    refine reg mix [(2, hcon (g13c used (·.d) hu0 (by omega)))] [pf (g13c used (·.d) hu0 (by omega)), pf (by omega : (0 : Int) ≤ 3 ∧ (3 : Int) < 4)] (by kernel_rfl) ?_
    refine run_nil (blockR_normal ?_)
    refine reg0 mix (by kernel_rfl) ?_
    exact run_nil (loopR_next 4 (wkTo [12, 16, 19, 66] [] (by kernel_rfl)) (by omega) (by omega))
  · refine rCondF false (by kernel_rfl) rfl ?_
    refine run_exit (loopR_exit (blockR_exit ?_))
    refine reg0 mix (by kernel_rfl) ?_
    exact run_ret (ret_of (.tup [medP used, vI 0]) (by kernel_rfl) rfl)
end Go.Proofs.Ytmdgbejfdcfhpaa
