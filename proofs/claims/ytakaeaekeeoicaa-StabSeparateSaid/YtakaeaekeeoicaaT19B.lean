import Derived.Test.YtakaeaekeeoicaaStbI
namespace Go.Proofs.Ytakaeaekeeoicaa
open Go.Sym
set_option linter.unusedVariables false
set_option linter.unusedSimpArgs false

theorem f20 (l : List Sp) (a b : Int) (ha : 0 ≤ a ∧ a < l.length) (hb : 0 ≤ b ∧ b < l.length) : FCall Try.prog 20 [vI a, vI b, .c (.kptr [.lst 2 l.length (elSp l)] 0)] (.v (vI (IntKind.i64.wrap ((l.getD a.toNat zSp).til - (l.getD b.toNat zSp).til)))) := by
  refine fcall_of Try.func20 rfl (by kernel_rfl) (fun B hB => ?_)
  refine reg0 mix (by kernel_rfl) ?_
  refine reg mix [] [pf ha, pf hb] (by kernel_rfl) ?_
  exact run_ret (ret_of _ (by kernel_rfl) rfl)

/-! ### add -/
structure Pl where
  pts : List Int
  aps : List Int
def lastI (l : List Int) : Int := l.getD (l.length - 1) 0
def skips (p : Pl) (s : Sp) : Bool := decide ((p.pts.length : Int) > 0) && decide (s.frm ≤ lastI p.pts)
def addP (p : Pl) (i : Int) (s : Sp) : Pl := if skips p s then p else ⟨p.pts ++ [s.til], p.aps ++ [i]⟩
theorem rowI_at {l : List Int} {i : Nat} (h : i < l.length) : (rowI l).getD i [] = [cI (l.getD i 0)] := by
  simp [rowI, List.getD_eq_getElem?_getD, h]
abbrev plM (n r1 r2 : Nat) (p : Pl) : List (Nat × MO) := [(n, .pcells [.row r1 p.pts.length, .row r2 p.aps.length]), (r1, .row 3 1 (rowI p.pts)), (r2, .row 3 1 (rowI p.aps))]
theorem f21 (p : Pl) (i : Int) (s : Sp) (h1 : p.pts.length ≤ 1000000) (h2 : p.aps.length ≤ 1000000) : FOwn Try.prog 21 [21, 22] [.c (.ptr 20 0), vI i, .agg (encSp s)] (plM 20 21 22 p) (.tup []) (plM 20 21 22 (addP p i s)) := by
  refine fown_of 48 Try.func21 rfl (by kernel_rfl) ⟨by kernel_rfl, by kernel_rfl, by kernel_rfl, by kernel_rfl, by kernel_rfl, by kernel_rfl, by kernel_rfl⟩ (fun n o hh h => ?_) (by kernel_rfl) (fun B hB hBf => ?_)
  · simp only [List.mem_cons, Prod.mk.injEq, List.not_mem_nil, or_false] at h
    rcases h with ⟨rfl, rfl⟩ | ⟨rfl, rfl⟩ | ⟨rfl, rfl⟩
    · cases hh
    · rfl
    · rfl
  refine reg mix [(0, .imm)] [] (by kernel_rfl) ?_
  refine reg mix [] [pf (rowI_len p.pts).symm] (by kernel_rfl) ?_
  have ew : decide ((p.pts.length : Int) > 0) = true → IntKind.i64.wrap ((p.pts.length : Int) - 1) = (p.pts.length : Int) - 1 := fun h => w64 _ (by omega) (by omega)
  have en : decide ((p.pts.length : Int) > 0) = true → (IntKind.i64.wrap ((p.pts.length : Int) - 1)).toNat = p.pts.length - 1 := fun h => by rw [ew h]; omega
  have q1 : decide ((p.pts.length : Int) > 0) = true → QAt (IntKind.i64.wrap ((p.pts.length : Int) - 1)) p.pts.length (rowI p.pts) := fun h => ⟨by have := of_decide_eq_true h; rw [ew h]; omega, (rowI_len _).symm⟩
  have q2 : decide ((p.pts.length : Int) > 0) = true → QEl p.pts.length (IntKind.i64.wrap ((p.pts.length : Int) - 1)).toNat (rowI p.pts) [cI (lastI p.pts)] := fun h => by
    have := of_decide_eq_true h
    rw [en h]
    exact ⟨⟨(rowI_len _).symm, by omega⟩, rowI_at (by omega)⟩
  refine regI mix [(12, .frz 0 (fun _ => [cI (lastI p.pts)]))] [pf q1, pf q2] (by kernel_rfl) ?_
  refine rCond (skips p s) (by kernel_rfl) (fun h => ?_) (fun h => ?_)
  · have e : addP p i s = p := by rw [addP, if_pos h]
    rw [e]
    exact run_ret (ownEnds (.inl rfl) (by kernel_rfl) ⟨by kernel_rfl, .inr ⟨0, wit_box 0 0 0 (by kernel_rfl) (by kernel_rfl) rfl⟩, by kernel_rfl, .inl rfl, by kernel_rfl, .inl rfl, trivial⟩)
  · have e1 : (addP p i s).pts.length = p.pts.length + 1 ∧ rowI (addP p i s).pts = rowI p.pts ++ [[cI s.til]] := by
      rw [addP, if_neg (by rw [h]; exact Bool.false_ne_true)]; exact ⟨by simp, by simp [rowI]⟩
    have e2 : (addP p i s).aps.length = p.aps.length + 1 ∧ rowI (addP p i s).aps = rowI p.aps ++ [[cI i]] := by
      rw [addP, if_neg (by rw [h]; exact Bool.false_ne_true)]; exact ⟨by simp, by simp [rowI]⟩
    refine reg mix [] [pf (rowI_len p.pts).symm, pf (by omega : (p.pts.length + 1) * 9 ≤ 140737488355328), pf (rfl : 1 = [[cI s.til]].length)] (by kernel_rfl) ?_
    refine reg mix [] [pf (rowI_len p.aps).symm, pf (by omega : (p.aps.length + 1) * 9 ≤ 140737488355328), pf (rfl : 1 = [[cI i]].length)] (by kernel_rfl) ?_
    unfold plM
    rw [e1.1, e1.2, e2.1, e2.2]
    exact run_nil (ownEnds (.inr rfl) (by kernel_rfl) ⟨by kernel_rfl, .inr ⟨0, wit_box 0 0 0 (by kernel_rfl) (by kernel_rfl) rfl⟩, by kernel_rfl, .inl rfl, by kernel_rfl, .inl rfl, trivial⟩)

/-! ### Plan -/
def keyS (l : List Sp) (i : Int) : Int := (l.getD i.toNat zSp).til
def ixs (n : Nat) : List Int := (List.range n).map fun (i : Nat) => (i : Int)
theorem ixs_len (n : Nat) : (ixs n).length = n := by simp [ixs]
theorem ixs_mem {n : Nat} {x : Int} : x ∈ ixs n ↔ 0 ≤ x ∧ x < n := by
  simp only [ixs, List.mem_map, List.mem_range]
  constructor
  · rintro ⟨i, h, rfl⟩; omega
  · intro h; exact ⟨x.toNat, by omega, by omega⟩
theorem ordS {l : List Sp} (hv : valid l = true) : StbI.Ord 20 [.kptr [.lst 2 l.length (elSp l)] 0] (fun a b => IntKind.i64.wrap ((l.getD a.toNat zSp).til - (l.getD b.toNat zSp).til)) (keyS l) (fun x => 0 ≤ x ∧ x < l.length) where
  call := fun x y hx hy => f20 l x y hx hy
  lt := fun x y hx hy => by
    have h1 := valid_at hv (i := x.toNat) (by omega)
    have h2 := valid_at hv (i := y.toNat) (by omega)
    rw [w64 _ (by omega) (by omega), keyS, keyS]
    omega
def order (l : List Sp) : List Int := isort (keyS l) (ixs l.length)
theorem order_len (l : List Sp) : (order l).length = l.length := by rw [order, isort_len, ixs_len]
theorem order_mem {l : List Sp} {x : Int} : x ∈ order l ↔ 0 ≤ x ∧ x < l.length := by rw [order, mem_isort, ixs_mem]
def stepP (l : List Sp) (p : Pl) (i : Int) : Pl := addP p i (l.getD i.toNat zSp)
def planP (l : List Sp) (k : Nat) : Pl := ((order l).take k).foldl (stepP l) ⟨[], []⟩
theorem planP_succ {l : List Sp} {k : Nat} (h : k < l.length) : planP l (k + 1) = stepP l (planP l k) ((order l).getD k 0) := by
  rw [planP, takeI (by rw [order_len]; exact h), List.foldl_append]; rfl
theorem addP_len (p : Pl) (i : Int) (s : Sp) : (addP p i s).pts.length ≤ p.pts.length + 1 ∧ (addP p i s).aps.length ≤ p.aps.length + 1 := by
  rw [addP]; split <;> simp
theorem planP_len (l : List Sp) : ∀ k, k ≤ l.length → (planP l k).pts.length ≤ k ∧ (planP l k).aps.length ≤ k
  | 0, _ => by simp [planP]
  | k + 1, h => by
    have ih := planP_len l k (by omega)
    rw [planP_succ (by omega), stepP]
    have := addP_len (planP l k) ((order l).getD k 0) (l.getD ((order l).getD k 0).toNat zSp)
    omega
def planR (l : List Sp) : Pl × Int := if valid l then (planP l l.length, 0) else (⟨[], []⟩, 1)
def sbP (r : Pl × Int) : SB := .tup [lI r.1.pts, lI r.1.aps, vI r.2]
def fill (n k : Nat) : List Int := ixs k ++ List.replicate (n - k) 0
theorem fill_len {n k : Nat} (h : k ≤ n) : (fill n k).length = n := by simp [fill, ixs_len]; omega
theorem fill_get {n k : Nat} (h : k < n) : (fill n k).getD k 0 = 0 := by
  simp [fill, List.getD_eq_getElem?_getD, List.getElem?_append, ixs_len, show 0 < n - k by omega]
theorem fill_set {n k : Nat} (h : k < n) : (fill n k).set k (k : Int) = fill n (k + 1) := by
  have e : n - k = (n - (k + 1)) + 1 := by omega
  rw [fill, fill, e, List.replicate_succ, set_mid (by rw [ixs_len]), ixs, ixs, List.range_succ, List.map_append]; simp
def pa1 (l : List Sp) (x : Int × List (List C)) : S := mkS 49 [(1, .b (.v (.c (.kptr [.lst 2 l.length (elSp l)] 0)))), (5, .b (.v (.c (.row 16 l.length)))), (18, .b (.v (vI l.length))), (19, .b (.v (vI x.1)))] [(16, .row 3 1 x.2)]
def pa2 (l : List Sp) (x : Int × Pl) : S := mkS 49 [(1, .b (.v (.c (.kptr [.lst 2 l.length (elSp l)] 0)))), (7, .b (.v (.c (.ptr 7 0)))), (8, .b (.v (.c (.oclo true 21 [(7, 0)])))), (31, .b (.v (.c (.row 16 l.length)))), (32, .b (.v (vI l.length))), (33, .b (.v (vI x.1)))] ((16, .row 3 1 (rowI (order l))) :: plM 7 40 41 x.2)
theorem f12 (l : List Sp) (hl : l.length ≤ 1000000) : FCall Try.prog 12 [lSp l] (sbP (planR l)) := by
  refine fcall_of Try.func12 rfl (by kernel_rfl) (fun B hB => ?_)
  refine reg mix [(0, .imm)] [] (by kernel_rfl) ?_
  refine regC mix [(1, con (f18 l))] (by kernel_rfl) ?_
  refine rCond (!valid l) (by kernel_rfl) (fun h => ?_) (fun h => ?_)
  · refine reg0 mix (by kernel_rfl) ?_
    refine run_weaken (wk_nilLst 2 1 (elI []) (by kernel_rfl)) ?_ (List.cons_ne_nil _ _)
    refine run_weaken (wk_nilLst 3 1 (elI []) (by kernel_rfl)) ?_ (List.cons_ne_nil _ _)
    refine run_ret (ret_of (.tup [lI [], lI [], vI 1]) (by kernel_rfl) ?_)
    rw [planR, if_neg (by simpa using h)]; rfl
  have hv : valid l = true := by simpa using h
  rw [show sbP (planR l) = .tup [lI (planP l l.length).pts, lI (planP l l.length).aps, vI 0] by rw [planR, if_pos hv]; rfl]
  refine reg mix [] [pf ((by omega) : 0 ≤ (l.length : Int) ∧ (l.length : Int) ≤ (l.length : Int) ∧ (l.length : Int) * (((8 : Nat) : Int) + 1) ≤ 140737488355328)] (by kernel_rfl) ?_
  refine reg mix [] [pf ((by simp) : ((l.length : Int)).toNat = (List.replicate ((l.length : Int)).toNat [cI 0]).length)] (by kernel_rfl) ?_
  refine rBlock ?_
  refine rLoop (pa1 l) (fun x => 0 ≤ x.1 ∧ x.1 ≤ l.length ∧ x.2 = rowI (fill l.length x.1.toNat)) (fun x => (l.length - x.1).toNat) (0, List.replicate ((l.length : Int)).toNat [cI 0]) (wkTo [1, 5, 18, 19] [] (by kernel_rfl)) ⟨by simp, by simp, by simp [fill, ixs, rowI]⟩ ?_
  rintro ⟨i, css⟩ ⟨hi0, hi1, hcss⟩
  simp only at hi0 hi1 hcss
  subst hcss
  have hfl := fill_len (n := l.length) (k := i.toNat) (by omega)
  refine reg0 mix (by kernel_rfl) ?_
  refine rCond (decide (i < (l.length : Int))) (by kernel_rfl) (fun hc => ?_) (fun hc => ?_)
  · have hc : i < l.length := of_decide_eq_true hc
    have e : IntKind.i64.wrap (i + 1) = i + 1 := w64 _ (by omega) (by omega)
    refine rBlock ?_
    refine reg0 mix (by kernel_rfl) ?_
    refine reg mix [(4, .frz 0 (fun _ => [cI 0]))] [pf (⟨⟨hi0, hc⟩, by rw [rowI_len, hfl]⟩ : QAt i l.length (rowI (fill l.length i.toNat))), pf (⟨⟨by rw [rowI_len, hfl], by omega⟩, by rw [rowI_at (by omega), fill_get (by omega)]⟩ : QEl l.length i.toNat (rowI (fill l.length i.toNat)) [cI 0])] (by kernel_rfl) ?_
    refine run_nil (blockR_normal ?_)
    refine reg0 mix (by kernel_rfl) ?_
    refine run_nil (loopR_next (IntKind.i64.wrap (i + 1), (rowI (fill l.length i.toNat)).set i.toNat [cI i]) (wkTo [1, 5, 18, 19] [] (by kernel_rfl)) ?_ ?_)
    · simp only [e]
      refine ⟨by omega, by omega, ?_⟩
      have e2 : (rowI (fill l.length i.toNat)).set i.toNat [cI i] = rowI ((fill l.length i.toNat).set i.toNat (i.toNat : Int)) := by
        rw [Int.toNat_of_nonneg hi0]; simp [rowI]
      rw [e2, fill_set (by omega), show (i + 1).toNat = i.toNat + 1 by omega]
    · simp only [e]; omega
  have hc : ¬ i < l.length := of_decide_eq_false hc
  have hfull : fill l.length i.toNat = ixs l.length := by rw [show i.toNat = l.length by omega]; simp [fill]
  rw [hfull]
  refine run_exit (loopR_exit (blockR_exit ?_))
  have hsort := (StbI.sort (ordS hv) 3 l.length (ixs l.length) (ixs_len _).symm hl (fun x hx => ixs_mem.1 hx)).ren (fun _ => 16) ⟨by kernel_rfl, by kernel_rfl, by kernel_rfl, by kernel_rfl, by kernel_rfl, by kernel_rfl, by kernel_rfl⟩
  refine reg mix [(2, .own [16] [] (.tup []) [(16, .row 3 1 (rowI (order l)))])] [pf hsort] (by kernel_rfl) ?_
  refine reg0 mix (by kernel_rfl) ?_
  refine run_weaken (wk_nilCell 7 0 40 3 1 [.nil, .nil] (by kernel_rfl) (by kernel_rfl) (by kernel_rfl) (by omega)) ?_ (List.cons_ne_nil _ _)
  refine run_weaken (wk_nilCellP 7 1 41 3 1 [.row 40 0, .nil] (by kernel_rfl) (by kernel_rfl) (by kernel_rfl) (by omega)) ?_ (List.cons_ne_nil _ _)
  refine reg0 mix (by kernel_rfl) ?_
  refine reg mix [] [pf ((by rw [rowI_len, order_len]) : l.length = (rowI (order l)).length)] (by kernel_rfl) ?_
  refine rBlock ?_
  refine rLoop (pa2 l) (fun x => 0 ≤ x.1 ∧ x.1 ≤ l.length ∧ x.2 = planP l x.1.toNat) (fun x => (l.length - x.1).toNat) (0, ⟨[], []⟩) (wkTo [1, 7, 8, 31, 32, 33] [] (by kernel_rfl)) ⟨by simp, by simp, rfl⟩ ?_
  rintro ⟨i, p⟩ ⟨hi0, hi1, hp⟩
  simp only at hi0 hi1 hp
  have hpl := planP_len l i.toNat (by omega)
  rw [← hp] at hpl
  refine reg0 mix (by kernel_rfl) ?_
  refine rCond (decide (i < (l.length : Int))) (by kernel_rfl) (fun hc => ?_) (fun hc => ?_)
  · have hc : i < l.length := of_decide_eq_true hc
    have e : IntKind.i64.wrap (i + 1) = i + 1 := w64 _ (by omega) (by omega)
    have ho := order_len l
    have hom : 0 ≤ (order l).getD i.toNat 0 ∧ (order l).getD i.toNat 0 < l.length := order_mem.1 (by simp [List.getD_eq_getElem?_getD, show i.toNat < (order l).length by omega])
    refine rBlock ?_
    refine reg mix [(1, .frz 0 (fun _ => [cI ((order l).getD i.toNat 0)]))] [pf (⟨⟨hi0, hc⟩, by rw [rowI_len, ho]⟩ : QAt i l.length (rowI (order l))), pf (⟨⟨by rw [rowI_len, ho], by omega⟩, rowI_at (by omega)⟩ : QEl l.length i.toNat (rowI (order l)) [cI ((order l).getD i.toNat 0)])] (by kernel_rfl) ?_
    have hadd := (f21 p ((order l).getD i.toNat 0) (l.getD ((order l).getD i.toNat 0).toNat zSp) (by omega) (by omega)).ren (fun | 20 => 7 | 21 => 40 | 22 => 41 | n => n) ⟨by kernel_rfl, by kernel_rfl, by kernel_rfl, by kernel_rfl, by kernel_rfl, by kernel_rfl, by kernel_rfl⟩
    refine reg mix [(6, .own [7, 40, 41] [40, 41] (.tup []) (plM 7 40 41 (addP p ((order l).getD i.toNat 0) (l.getD ((order l).getD i.toNat 0).toNat zSp))))] [pf hom, pf hadd] (by kernel_rfl) ?_
    refine run_nil (blockR_normal ?_)
    refine reg0 mix (by kernel_rfl) ?_
    refine run_nil (loopR_next (IntKind.i64.wrap (i + 1), addP p ((order l).getD i.toNat 0) (l.getD ((order l).getD i.toNat 0).toNat zSp)) (wkTo [1, 7, 8, 31, 32, 33] [] (by kernel_rfl)) ?_ ?_)
    · simp only [e]
      refine ⟨by omega, by omega, ?_⟩
      rw [show (i + 1).toNat = i.toNat + 1 by omega, planP_succ (by omega), ← hp]; rfl
    · simp only [e]; omega
  have hc : ¬ i < l.length := of_decide_eq_false hc
  rw [show i.toNat = l.length by omega] at hp
  rw [← hp]
  refine run_exit (loopR_exit (blockR_exit ?_))
  refine reg0 mix (by kernel_rfl) ?_
  refine frzRow hB 2 40 p.pts.length 3 1 (rowI p.pts) (elI p.pts) [3, 4] [7] (by kernel_rfl) (by kernel_rfl) (rowI_len _).symm (fun j hj => (rowI_at hj).symm) (by kernel_rfl) ?_ (List.cons_ne_nil _ _)
  refine frzRow hB 3 41 p.aps.length 3 1 (rowI p.aps) (elI p.aps) [2, 4] [] (by kernel_rfl) (by kernel_rfl) (rowI_len _).symm (fun j hj => (rowI_at hj).symm) (by kernel_rfl) ?_ (List.cons_ne_nil _ _)
  exact run_ret (ret_of (.tup [lI p.pts, lI p.aps, vI 0]) (by kernel_rfl) rfl)
end Go.Proofs.Ytakaeaekeeoicaa
