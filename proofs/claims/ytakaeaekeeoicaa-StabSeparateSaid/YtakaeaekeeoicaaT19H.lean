import Derived.Test.YtakaeaekeeoicaaT19G
namespace Go.Proofs.Ytakaeaekeeoicaa
open Go.Sym
set_option linter.unusedVariables false
set_option linter.unusedSimpArgs false

/-! ### A further span, a wider one -/
theorem meets_app (l : List Sp) (s : Sp) (Q : List Int) : meets (l ++ [s]) Q = (meets l Q && Q.any (hit s)) := by simp [meets]
theorem meets_sub {l k : List Sp} {Q : List Int} (h : ∀ s, s ∈ l → s ∈ k) (hk : meets k Q = true) : meets l Q = true := List.all_eq_true.2 fun s hs => List.all_eq_true.1 hk s (h s hs)
theorem valid_pre {l : List Sp} {s : Sp} (h : valid (l ++ [s]) = true) : valid l = true := by
  rw [valid] at h ⊢
  simp only [List.length_append, List.any_append, Bool.and_eq_true, decide_eq_true_eq, Bool.not_eq_true', Bool.or_eq_false_iff] at h ⊢
  exact ⟨by have := h.1; simp at this; omega, h.2.1⟩
theorem fur_plan {l : List Sp} (hv : valid l = true) (s : Sp) : ((planR (l ++ [s])).2 = 0 ∧ ((planR (l ++ [s])).1.pts.length = (pln l).pts.length ∨ (planR (l ++ [s])).1.pts.length = (pln l).pts.length + 1)) ∨ (planR (l ++ [s])).2 = 1 := by
  cases h : valid (l ++ [s]) with
  | false => rw [planR_no h]; exact .inr rfl
  | true =>
    rw [planR_ok h]
    have h1 := pln_least hv (Q := (pln (l ++ [s])).pts) (meets_sub (fun t ht => List.mem_append_left _ ht) (pln_meets h))
    have hs := valid_get h (s := s) (by simp)
    have h2 := pln_least h (Q := (pln l).pts ++ [s.til]) (by
      rw [meets_app, Bool.and_eq_true]
      refine ⟨List.all_eq_true.2 fun t ht => ?_, by simp [hit]; omega⟩
      rw [List.any_append, List.all_eq_true.1 (pln_meets hv) t ht]; rfl)
    refine .inl ⟨rfl, ?_⟩
    simp only [List.length_append, List.length_singleton] at h2
    simp only
    omega
def wider (s : Sp) (a b : Int) : Sp := ⟨s.frm - a, s.til + b⟩
theorem wid_plan {l : List Sp} (hv : valid l = true) {k : Nat} (hk : k < l.length) {a b : Int} (ha : 0 ≤ a) (hb : 0 ≤ b) :
    ((planR (l.set k (wider (l.getD k zSp) a b))).2 = 0 ∧ (planR (l.set k (wider (l.getD k zSp) a b))).1.pts.length ≤ (pln l).pts.length) ∨ (planR (l.set k (wider (l.getD k zSp) a b))).2 = 1 := by
  cases h : valid (l.set k (wider (l.getD k zSp) a b)) with
  | false => rw [planR_no h]; exact .inr rfl
  | true =>
    rw [planR_ok h]
    refine .inl ⟨rfl, pln_least h (List.all_eq_true.2 fun t ht => ?_)⟩
    rcases List.mem_or_eq_of_mem_set ht with ht | rfl
    · exact List.all_eq_true.1 (pln_meets hv) t ht
    · have h1 := List.all_eq_true.1 (pln_meets hv) (l.getD k zSp) (by simp [List.getD_eq_getElem?_getD, hk])
      obtain ⟨p, hp, hh⟩ := List.any_eq_true.1 h1
      refine List.any_eq_true.2 ⟨p, hp, ?_⟩
      simp only [hit, Bool.and_eq_true, decide_eq_true_eq] at hh ⊢
      show (l.getD k zSp).frm - a ≤ p ∧ p ≤ (l.getD k zSp).til + b
      omega
theorem app_row (l : List Sp) (d : Sp) : ∀ i, i < (l ++ [d]).length → elSp (l ++ [d]) i = ((([] : List (List C)) ++ (List.range l.length).map (elSp l)) ++ [encSp d]).getD i [] := by
  intro i hi
  have hi' : i ≤ l.length := by simp at hi; omega
  rw [List.nil_append, elSp]
  by_cases h : i < l.length
  · rw [List.getD_eq_getElem?_getD, List.getD_eq_getElem?_getD, List.getElem?_append_left h, List.getElem?_append_left (by simpa using h)]
    simp [h, elSp, List.getD_eq_getElem?_getD]
  · rw [show i = l.length by omega]; simp [List.getD_eq_getElem?_getD]
theorem row_map (l : List Sp) : (List.range l.length).map (elSp l) = rowSp l := by
  refine List.ext_getElem (by simp [rowSp]) fun i h1 h2 => ?_
  simp at h1
  simp [elSp, rowSp, List.getD_eq_getElem?_getD, h1]
theorem f7 (l : List Sp) (s : Sp) (w a b : Int) (hw : 0 ≤ w ∧ w ≤ 255) (ha : 0 ≤ a ∧ a ≤ 255) (hb : 0 ≤ b ∧ b ≤ 255) : FCall Try.prog 7 [lSp l, .agg (encSp s), .c (.int .u8 w), .c (.int .u8 a), .c (.int .u8 b)] (.v (vB true)) := by
  refine fcall_of Try.func7 rfl (by kernel_rfl) (fun B hB => ?_)
  refine reg mix [(0, .imm)] [] (by kernel_rfl) ?_
  refine regC mix [(0, con f10)] (by kernel_rfl) ?_
  refine reg0 mix (by kernel_rfl) ?_
  refine rCond (decide ((l.length : Int) > 30)) (by kernel_rfl) (fun h => ?_) (fun h => ?_)
  · refine reg0 mix (by kernel_rfl) ?_
    exact run_ret (ret_of (.v (vB true)) (by kernel_rfl) rfl)
  have hl : l.length ≤ 30 := by have := of_decide_eq_false h; omega
  cases hv : valid l with
  | false =>
    have c12 := n12 (by omega) hv
    refine regC mix [(1, con c12)] (by kernel_rfl) ?_
    refine reg0 mix (by kernel_rfl) ?_
    refine rCondT true (by kernel_rfl) rfl ?_
    refine reg0 mix (by kernel_rfl) ?_
    exact run_ret (ret_of (.v (vB true)) (by kernel_rfl) rfl)
  | true =>
    have c12 := p12 hv
    refine regC mix [(1, con c12)] (by kernel_rfl) ?_
    refine reg0 mix (by kernel_rfl) ?_
    refine rCondF false (by kernel_rfl) rfl ?_
    have hpl := pln_le l
    have hfur := fur_plan hv s
    have d12 := f12 (l ++ [s]) (by simp; omega)
    have hrl := planR_len (l ++ [s])
    generalize planR (l ++ [s]) = r at hfur d12 hrl
    refine regF hB mix [(5, .frzA (l ++ [s]).length (elSp (l ++ [s]))), (6, hcon d12)]
      [pf (rfl : 0 = ([] : List (List C)).length), pf (by omega : (0 + l.length) * 17 ≤ 140737488355328), pf (by simp : 0 + l.length = (([] : List (List C)) ++ (List.range l.length).map (elSp l)).length), pf (by omega : (0 + l.length + 1) * 17 ≤ 140737488355328),
       pf (⟨by simp, app_row l s⟩ : (l ++ [s]).length = 0 + l.length + 1 ∧ ∀ i, i < (l ++ [s]).length → elSp (l ++ [s]) i = ((([] : List (List C)) ++ (List.range l.length).map (elSp l)) ++ [encSp s]).getD i []), pf (rfl : 1 = [encSp s].length), pf d12] (by kernel_rfl) ?_
    refine reg0 mix (by kernel_rfl) ?_
    have e1 : IntKind.i64.wrap (((pln l).pts.length : Int) + 1) = ((pln l).pts.length : Int) + 1 := w64 _ (by omega) (by omega)
    refine rCondF (((r.2 == 0) && ((r.1.pts.length : Int) != ((pln l).pts.length : Int))) && ((r.1.pts.length : Int) != IntKind.i64.wrap (((pln l).pts.length : Int) + 1))) (by kernel_rfl) ?_ ?_
    · rw [e1]
      rcases hfur with ⟨h1, h2 | h2⟩ | h1
      · rw [h1, h2]; simp
      · rw [h1, h2]; simp
      · rw [h1]; rfl
    refine reg0 mix (by kernel_rfl) ?_
    refine rCond ((l.length : Int) == 0) (by kernel_rfl) (fun h => ?_) (fun h => ?_)
    · refine reg0 mix (by kernel_rfl) ?_
      exact run_ret (ret_of (.v (vB true)) (by kernel_rfl) rfl)
    have h0 : (l.length : Int) ≠ 0 := by simpa using h
    refine reg mix [] [pf h0] (by kernel_rfl) ?_
    have ew : IntKind.i64.wrap w = w := w64 _ (by omega) (by omega)
    have hk : 0 ≤ (IntKind.i64.wrap w).tmod l.length ∧ (IntKind.i64.wrap w).tmod l.length < l.length := by
      rw [ew]
      exact ⟨Int.tmod_nonneg _ hw.1, Int.tmod_lt_of_pos _ (by omega)⟩
    generalize (IntKind.i64.wrap w).tmod l.length = k at hk
    refine reg mix [] [pf (rfl : 0 = ([] : List (List C)).length), pf (by omega : (0 + l.length) * 17 ≤ 140737488355328)] (by kernel_rfl) ?_
    have hrow : ([] : List (List C)) ++ (List.range l.length).map (elSp l) = rowSp l := by rw [List.nil_append, row_map]
    have hlen : 0 + l.length = (([] : List (List C)) ++ (List.range l.length).map (elSp l)).length := by simp
    have q1 : QAt k (0 + l.length) (([] : List (List C)) ++ (List.range l.length).map (elSp l)) := ⟨⟨hk.1, by omega⟩, hlen⟩
    have q2 : QEl (0 + l.length) k.toNat (([] : List (List C)) ++ (List.range l.length).map (elSp l)) (encSp (l.getD k.toNat zSp)) := ⟨⟨hlen, by omega⟩, by rw [hrow]; exact rowSp_at (by omega)⟩
    refine reg mix [(20, .frz 0 (fun _ => encSp (l.getD k.toNat zSp)))] [pf hk, pf hk, pf q1, pf q2] (by kernel_rfl) ?_
    have hva := valid_at hv (i := k.toNat) (by omega)
    have ea : IntKind.i64.wrap a = a := w64 _ (by omega) (by omega)
    have eb : IntKind.i64.wrap b = b := w64 _ (by omega) (by omega)
    have ef : IntKind.i64.wrap ((l.getD k.toNat zSp).frm - IntKind.i64.wrap a) = (l.getD k.toNat zSp).frm - a := by rw [ea]; exact w64 _ (by omega) (by omega)
    have et : IntKind.i64.wrap ((l.getD k.toNat zSp).til + IntKind.i64.wrap b) = (l.getD k.toNat zSp).til + b := by rw [eb]; exact w64 _ (by omega) (by omega)
    have hwid := wid_plan hv (show k.toNat < l.length by omega) ha.1 hb.1
    have w12 := f12 (l.set k.toNat (wider (l.getD k.toNat zSp) a b)) (by simp; omega)
    have hset : (([] : List (List C)) ++ (List.range l.length).map (elSp l)).set k.toNat [cI (IntKind.i64.wrap ((l.getD k.toNat zSp).frm - IntKind.i64.wrap a)), cI (IntKind.i64.wrap ((l.getD k.toNat zSp).til + IntKind.i64.wrap b))] = rowSp (l.set k.toNat (wider (l.getD k.toNat zSp) a b)) := by
      rw [hrow, ef, et, rowSp, rowSp, List.map_set]; rfl
    have hwl : (l.set k.toNat (wider (l.getD k.toNat zSp) a b)).length = 0 + l.length := by simp
    rw [lSp, hwl] at w12
    generalize l.set k.toNat (wider (l.getD k.toNat zSp) a b) = wd at hwid w12 hset hwl
    generalize planR wd = q at hwid w12
    refine frzRow hB 19 74 (0 + l.length) 34 2 ((([] : List (List C)) ++ (List.range l.length).map (elSp l)).set k.toNat [cI (IntKind.i64.wrap ((l.getD k.toNat zSp).frm - IntKind.i64.wrap a)), cI (IntKind.i64.wrap ((l.getD k.toNat zSp).til + IntKind.i64.wrap b))]) (elSp wd) [11, 12, 15, 17] [] (by kernel_rfl) (by kernel_rfl) (by simp) (fun j hj => by rw [hset]; exact rowSp_el (by omega)) (by kernel_rfl) ?_ (List.cons_ne_nil _ _)
    refine regC mix [(1, con w12)] (by kernel_rfl) ?_
    refine reg0 mix (by kernel_rfl) ?_
    refine run_ret (ret_of (.v (vB (((r.2 == 0) || (r.2 == 1)) && ((q.2 == 1) || ((q.2 == 0) && decide ((q.1.pts.length : Int) ≤ ((pln l).pts.length : Int))))))) (by kernel_rfl) ?_)
    have g1 : ((r.2 == 0) || (r.2 == 1)) = true := by
      rcases hfur with ⟨h1, _⟩ | h1 <;> rw [h1] <;> rfl
    rw [g1]
    rcases hwid with ⟨h1, h2⟩ | h1
    · rw [h1, decide_eq_true (by omega)]; rfl
    · rw [h1]; rfl

/-! ### Moved, and turned around zero -/
def tnS (s : Sp) : Sp := ⟨-s.til, -s.frm⟩
theorem tn_valid {l : List Sp} (hv : valid l = true) : valid (l.map tnS) = true := by
  rw [valid, Bool.and_eq_true, decide_eq_true_eq, Bool.not_eq_true', List.any_eq_false]
  refine ⟨by have := valid_len hv; simp; omega, fun s hs => ?_⟩
  obtain ⟨t, ht, rfl⟩ := List.mem_map.1 hs
  have := valid_get hv ht
  simp [wrong, tnS]; omega
theorem tn_meets {l : List Sp} {Q : List Int} (h : meets l Q = true) : meets (l.map tnS) (Q.map fun x => -x) = true := by
  refine List.all_eq_true.2 fun s hs => ?_
  obtain ⟨t, ht, rfl⟩ := List.mem_map.1 hs
  obtain ⟨p, hp, hh⟩ := List.any_eq_true.1 (List.all_eq_true.1 h t ht)
  refine List.any_eq_true.2 ⟨-p, List.mem_map.2 ⟨p, hp, rfl⟩, ?_⟩
  simp only [hit, Bool.and_eq_true, decide_eq_true_eq] at hh ⊢
  show -t.til ≤ -p ∧ -p ≤ -t.frm
  omega
theorem tn_tn (l : List Sp) : (l.map tnS).map tnS = l := by
  rw [List.map_map]
  refine (List.map_congr_left fun s _ => ?_).trans (List.map_id l)
  simp [tnS]
theorem tn_plan {l : List Sp} (hv : valid l = true) : (pln (l.map tnS)).pts.length = (pln l).pts.length := by
  have h1 := pln_least (tn_valid hv) (tn_meets (pln_meets hv))
  have h2 := tn_meets (pln_meets (tn_valid hv))
  rw [tn_tn] at h2
  have h3 := pln_least hv h2
  simp at h1 h3
  omega
theorem mv_plan {l : List Sp} (hv : valid l = true) (c : Int) : ((planR (l.map (mvS c))).2 = 0 ∧ (planR (l.map (mvS c))).1.pts = (pln l).pts.map (· + c)) ∨ ((planR (l.map (mvS c))).2 = 1 ∧ (planR (l.map (mvS c))).1.pts = []) := by
  cases h : valid (l.map (mvS c)) with
  | false => rw [planR_no h]; exact .inr ⟨rfl, rfl⟩
  | true =>
    rw [planR_ok h]
    refine .inl ⟨rfl, pts_shift c hv h (fun s hs => List.mem_map_of_mem hs) fun t ht => ?_⟩
    obtain ⟨s, hs, rfl⟩ := List.mem_map.1 ht
    exact ⟨s, hs, rfl⟩
theorem pln_in {l : List Sp} (hv : valid l = true) {j : Nat} (hj : j < (pln l).pts.length) : -39399 ≤ (pln l).pts.getD j 0 ∧ (pln l).pts.getD j 0 ≤ 39399 := by
  have h1 : (pln l).pts.getD j 0 ∈ (pln l).pts := by simp [List.getD_eq_getElem?_getD, hj]
  rw [pts_gr hv] at h1
  obtain ⟨s, hs, e⟩ := List.mem_map.1 h1
  rw [← pts_gr hv] at e
  have := valid_get hv (spn_mem.1 (gr_sub _ _ _ hs))
  omega
structure L8 where
  i : Int
  n : Nat
  css : List (List C)
  m : Nat
  dss : List (List C)
def lw8 (l : List Sp) (p : List Int) (c : Int) (x : L8) : S := mkS 145 [(0, .b (.v (lSp l))), (1, .b (.v (.c (.int .i16 c)))), (5, .b (.v (vB true))), (6, .b (.v (lI p))), (9, .b (.v (.c (.row 1 x.n)))), (10, .b (.v (.c (.row 2 x.m)))), (11, .b (.v (vI x.i)))] [(1, .row 34 2 x.css), (2, .row 34 2 x.dss)]
def lx8 (p q : List Int) (c e : Int) (i : Int) : S := mkS 145 [(1, .b (.v (.c (.int .i16 c)))), (5, .b (.v (vB true))), (6, .b (.v (lI p))), (12, .b (.v (lI q))), (14, .b (.v (vI e))), (18, .b (.v (vI i)))] []
theorem takeSp {l : List Sp} {i : Nat} (h : i < l.length) : l.take (i + 1) = l.take i ++ [l.getD i zSp] := by
  rw [List.take_succ_eq_append_getElem h]
  simp [List.getD_eq_getElem?_getD, h]
theorem f8 (l : List Sp) (c : Int) (hc : -32768 ≤ c ∧ c ≤ 32767) : FCall Try.prog 8 [lSp l, .c (.int .i16 c)] (.v (vB true)) := by
  refine fcall_of Try.func8 rfl (by kernel_rfl) (fun B hB => ?_)
  refine reg0 mix (by kernel_rfl) ?_
  refine regC mix [(0, con f10)] (by kernel_rfl) ?_
  refine reg0 mix (by kernel_rfl) ?_
  refine rCond (decide ((l.length : Int) > 30)) (by kernel_rfl) (fun h => ?_) (fun h => ?_)
  · refine reg0 mix (by kernel_rfl) ?_
    exact run_ret (ret_of (.v (vB true)) (by kernel_rfl) rfl)
  have hl : l.length ≤ 30 := by have := of_decide_eq_false h; omega
  cases hv : valid l with
  | false =>
    have c12 := n12 (by omega) hv
    refine regC mix [(1, con c12)] (by kernel_rfl) ?_
    refine reg0 mix (by kernel_rfl) ?_
    refine rCondT true (by kernel_rfl) rfl ?_
    refine reg0 mix (by kernel_rfl) ?_
    exact run_ret (ret_of (.v (vB true)) (by kernel_rfl) rfl)
  | true =>
    have c12 := p12 hv
    have hpl := pln_le l
    have hpin := fun j => pln_in hv (j := j)
    have hmv := mv_plan hv c
    have htn := tn_plan hv
    have t12 := p12 (tn_valid hv)
    have m12 := f12 (l.map (mvS c)) (by simp; omega)
    generalize (pln (l.map tnS)).aps = ta at t12
    generalize (pln (l.map tnS)).pts = tp at t12 htn
    generalize planR (l.map (mvS c)) = r at hmv m12
    have hp1 := hpl.1
    generalize (pln l).pts = p at c12 hpin hmv htn hp1
    refine regC mix [(1, con c12)] (by kernel_rfl) ?_
    refine reg0 mix (by kernel_rfl) ?_
    refine rCondF false (by kernel_rfl) rfl ?_
    refine reg0 mix (by kernel_rfl) ?_
    refine run_weaken (wk_nilRow 9 1 34 2 (by kernel_rfl) (by kernel_rfl) (by omega)) ?_ (List.cons_ne_nil _ _)
    refine run_weaken (wk_nilRow 10 2 34 2 (by kernel_rfl) (by kernel_rfl) (by omega)) ?_ (List.cons_ne_nil _ _)
    refine reg0 mix (by kernel_rfl) ?_
    refine rBlock ?_
    refine rLoop (lw8 l p c) (fun x => 0 ≤ x.i ∧ x.i ≤ l.length ∧ (x.n = ((l.take x.i.toNat).map (mvS c)).length ∧ x.css = rowSp ((l.take x.i.toNat).map (mvS c))) ∧ x.m = ((l.take x.i.toNat).map tnS).length ∧ x.dss = rowSp ((l.take x.i.toNat).map tnS)) (fun x => (l.length - x.i).toNat) ⟨0, 0, [], 0, []⟩ (wkTo [0, 1, 5, 6, 9, 10, 11] [] (by kernel_rfl)) ⟨by simp, by simp, ⟨by simp, by simp [rowSp]⟩, by simp, by simp [rowSp]⟩ ?_
    rintro ⟨i, n, css, m, dss⟩ ⟨hi0, hi1, ⟨hn, hcss⟩, hm, hdss⟩
    simp only at hi0 hi1 hn hcss hm hdss
    have hcn : css.length = n := by rw [hcss, rowSp_len, hn]
    have hdm : dss.length = m := by rw [hdss, rowSp_len, hm]
    have hnl : n ≤ 30 := by rw [hn]; simp; omega
    have hml : m ≤ 30 := by rw [hm]; simp; omega
    refine reg0 mix (by kernel_rfl) ?_
    refine rCond (decide (i < (l.length : Int))) (by kernel_rfl) (fun hcc => ?_) (fun hcc => ?_)
    · have hcc : i < l.length := of_decide_eq_true hcc
      have e1 : IntKind.i64.wrap (i + 1) = i + 1 := w64 _ (by omega) (by omega)
      have hva := valid_at hv (i := i.toNat) (by omega)
      have hi : 0 ≤ i ∧ i < (l.length : Int) := ⟨hi0, hcc⟩
      have ec : IntKind.i64.wrap c = c := w64 _ (by omega) (by omega)
      have ef : IntKind.i64.wrap ((l.getD i.toNat zSp).frm + IntKind.i64.wrap c) = (l.getD i.toNat zSp).frm + c := by rw [ec]; exact w64 _ (by omega) (by omega)
      have et : IntKind.i64.wrap ((l.getD i.toNat zSp).til + IntKind.i64.wrap c) = (l.getD i.toNat zSp).til + c := by rw [ec]; exact w64 _ (by omega) (by omega)
      have nf : IntKind.i64.wrap (0 - (l.getD i.toNat zSp).frm) = -(l.getD i.toNat zSp).frm := by rw [Int.zero_sub]; exact w64 _ (by omega) (by omega)
      have nt : IntKind.i64.wrap (0 - (l.getD i.toNat zSp).til) = -(l.getD i.toNat zSp).til := by rw [Int.zero_sub]; exact w64 _ (by omega) (by omega)
      have ht := takeSp (show i.toNat < l.length by omega)
      refine rBlock ?_
      refine reg mix [] [pf hi, pf hi, pf hcn.symm, pf (by omega : (n + 1) * 17 ≤ 140737488355328), pf (rfl : 1 = [[cI (IntKind.i64.wrap ((l.getD i.toNat zSp).frm + IntKind.i64.wrap c)), cI (IntKind.i64.wrap ((l.getD i.toNat zSp).til + IntKind.i64.wrap c))]].length)] (by kernel_rfl) ?_
      refine reg mix [] [pf hi, pf hi, pf hdm.symm, pf (by omega : (m + 1) * 17 ≤ 140737488355328), pf (rfl : 1 = [[cI (IntKind.i64.wrap (0 - (l.getD i.toNat zSp).til)), cI (IntKind.i64.wrap (0 - (l.getD i.toNat zSp).frm))]].length)] (by kernel_rfl) ?_
      refine run_nil (blockR_normal ?_)
      refine reg0 mix (by kernel_rfl) ?_
      refine run_nil (loopR_next (⟨IntKind.i64.wrap (i + 1), n + 1, css ++ [[cI (IntKind.i64.wrap ((l.getD i.toNat zSp).frm + IntKind.i64.wrap c)), cI (IntKind.i64.wrap ((l.getD i.toNat zSp).til + IntKind.i64.wrap c))]], m + 1, dss ++ [[cI (IntKind.i64.wrap (0 - (l.getD i.toNat zSp).til)), cI (IntKind.i64.wrap (0 - (l.getD i.toNat zSp).frm))]]⟩ : L8) (wkTo [0, 1, 5, 6, 9, 10, 11] [57, 73] (by kernel_rfl)) ?_ ?_)
      · simp only [e1, show (i + 1).toNat = i.toNat + 1 by omega]
        rw [ht, ef, et, nf, nt, List.map_append, List.map_append]
        refine ⟨by omega, by omega, ⟨?_, ?_⟩, ?_, ?_⟩
        · rw [List.length_append, hn]; rfl
        · rw [hcss]; simp [rowSp, mvS, encSp]
        · rw [List.length_append, hm]; rfl
        · rw [hdss]; simp [rowSp, tnS, encSp]
      · simp only [e1]; omega
    have hcc : ¬ i < l.length := of_decide_eq_false hcc
    rw [show i.toNat = l.length by omega, List.take_of_length_le (Nat.le_refl _)] at hn hcss hm hdss
    subst hn hcss hm hdss
    refine run_exit (loopR_exit (blockR_exit ?_))
    refine frzRow hB 9 1 (l.map (mvS c)).length 34 2 (rowSp (l.map (mvS c))) (elSp (l.map (mvS c))) [1, 5, 6, 10] [] (by kernel_rfl) (by kernel_rfl) hcn.symm (fun j hj => rowSp_el hj) (by kernel_rfl) ?_ (List.cons_ne_nil _ _)
    refine frzRow hB 10 2 (l.map tnS).length 34 2 (rowSp (l.map tnS)) (elSp (l.map tnS)) [1, 5, 6, 9] [] (by kernel_rfl) (by kernel_rfl) hdm.symm (fun j hj => rowSp_el hj) (by kernel_rfl) ?_ (List.cons_ne_nil _ _)
    refine regC mix [(1, con m12)] (by kernel_rfl) ?_
    refine regC mix [(1, con t12)] (by kernel_rfl) ?_
    refine reg0 mix (by kernel_rfl) ?_
    refine rCondF ((((0 : Int) != 0) || ((tp.length : Int) != (p.length : Int))) || ((r.2 == 0) && ((r.1.pts.length : Int) != (p.length : Int)))) (by kernel_rfl) ?_ ?_
    · rw [htn]
      rcases hmv with ⟨h1, h2⟩ | ⟨h1, h2⟩
      · rw [h1, h2]; simp
      · rw [h1]; simp
    refine reg0 mix (by kernel_rfl) ?_
    refine rBlock ?_
    refine rLoop (lx8 p r.1.pts c r.2) (fun i => 0 ≤ i) (fun i => (r.1.pts.length - i).toNat) 0 (wkTo [1, 5, 6, 12, 14, 18] [] (by kernel_rfl)) (by omega) ?_
    intro j hj0
    refine reg0 mix (by kernel_rfl) ?_
    refine rCond (decide (j < (r.1.pts.length : Int)) && decide (j < (p.length : Int))) (by kernel_rfl) (fun h => ?_) (fun h => ?_)
    · simp only [Bool.and_eq_true, decide_eq_true_eq] at h
      have e1 : IntKind.i64.wrap (j + 1) = j + 1 := w64 _ (by omega) (by omega)
      have ec : IntKind.i64.wrap c = c := w64 _ (by omega) (by omega)
      have hin := hpin j.toNat (by omega)
      refine rBlock ?_
      refine reg mix [] [pf (⟨hj0, h.1⟩ : 0 ≤ j ∧ j < (r.1.pts.length : Int)), pf (⟨hj0, h.2⟩ : 0 ≤ j ∧ j < (p.length : Int))] (by kernel_rfl) ?_
      refine rCondF (r.1.pts.getD j.toNat 0 != IntKind.i64.wrap (p.getD j.toNat 0 + IntKind.i64.wrap c)) (by kernel_rfl) ?_ ?_
      · rw [ec, w64 _ (by omega) (by omega)]
        rcases hmv with ⟨h1, h2⟩ | ⟨h1, h2⟩
        · rw [h2]
          simp [List.getD_eq_getElem?_getD, show j.toNat < p.length by omega]
        · rw [h2] at h; simp at h; omega
      refine run_nil (blockR_normal ?_)
      refine reg0 mix (by kernel_rfl) ?_
      refine run_nil (loopR_next (IntKind.i64.wrap (j + 1)) (wkTo [1, 5, 6, 12, 14, 18] [] (by kernel_rfl)) ?_ ?_)
      · rw [e1]; omega
      · rw [e1]; omega
    refine run_exit (loopR_exit (blockR_exit ?_))
    refine reg0 mix (by kernel_rfl) ?_
    refine run_ret (ret_of (.v (vB ((r.2 == 0) || ((r.2 == 1) && ((r.1.pts.length : Int) == 0))))) (by kernel_rfl) ?_)
    rcases hmv with ⟨h1, h2⟩ | ⟨h1, h2⟩
    · rw [h1]; rfl
    · rw [h1, h2]; rfl
end Go.Proofs.Ytakaeaekeeoicaa
