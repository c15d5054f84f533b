import Derived.Test.YtakaeaekeeoicaaT19B
namespace Go.Proofs.Ytakaeaekeeoicaa
open Go.Sym
set_option linter.unusedVariables false
set_option linter.unusedSimpArgs false

/-! ### The reference's Plan -/
def bs (l : List Sp) (p : Pl) : Nat → Int
  | 0 => -1
  | i + 1 => if skips p (l.getD i zSp) then bs l p i else if (decide (bs l p i < 0) || decide ((l.getD i zSp).til < (l.getD (bs l p i).toNat zSp).til)) then i else bs l p i
theorem bs_bound (l : List Sp) (p : Pl) : ∀ i, -1 ≤ bs l p i ∧ bs l p i < i
  | 0 => by simp [bs]
  | i + 1 => by
    have := bs_bound l p i
    simp only [bs]; repeat' split
    all_goals omega
theorem bs_not (l : List Sp) (p : Pl) : ∀ i, bs l p i < 0 ∨ skips p (l.getD (bs l p i).toNat zSp) = false
  | 0 => by simp [bs]
  | i + 1 => by
    have := bs_not l p i
    simp only [bs]; split
    · exact this
    · split
      · rename_i h _
        right; simpa using h
      · exact this
def putP (l : List Sp) (p : Pl) (b : Int) : Pl := ⟨p.pts ++ [(l.getD b.toNat zSp).til], p.aps ++ [b]⟩
def rpl (l : List Sp) : Nat → Pl → Pl
  | 0, p => p
  | n + 1, p => if bs l p l.length < 0 then p else rpl l n (putP l p (bs l p l.length))
def cnt (l : List Sp) (p : Pl) : Nat := l.countP fun s => !skips p s
theorem lastI_put (l : List Int) (x : Int) : lastI (l ++ [x]) = x := by simp [lastI]
theorem skips_put {l : List Sp} (hv : valid l = true) {p : Pl} {b : Int} (hb : 0 ≤ b ∧ b < l.length) (hn : skips p (l.getD b.toNat zSp) = false) :
    skips (putP l p b) (l.getD b.toNat zSp) = true ∧ ∀ s, skips p s = true → skips (putP l p b) s = true := by
  have hva := valid_at hv (i := b.toNat) (by omega)
  have h0 : ((p.pts ++ [(l.getD b.toNat zSp).til]).length : Int) > 0 := by rw [List.length_append, List.length_singleton]; omega
  refine ⟨?_, fun s hs => ?_⟩
  · rw [skips, putP]
    simp only [lastI_put, Bool.and_eq_true, decide_eq_true_eq]
    exact ⟨h0, hva.2.2⟩
  · rw [skips, putP]
    simp only [lastI_put, Bool.and_eq_true, decide_eq_true_eq]
    refine ⟨h0, ?_⟩
    simp only [skips, Bool.and_eq_true, decide_eq_true_eq] at hs
    simp only [skips, Bool.and_eq_false_iff, decide_eq_false_iff_not] at hn
    omega
theorem cnt_lt {l : List Sp} (hv : valid l = true) {p : Pl} {b : Int} (hb : 0 ≤ b ∧ b < l.length) (hn : skips p (l.getD b.toNat zSp) = false) : cnt l (putP l p b) < cnt l p := by
  obtain ⟨h1, h2⟩ := skips_put hv hb hn
  have e : l = l.take b.toNat ++ l.getD b.toNat zSp :: l.drop (b.toNat + 1) := by
    have hl : b.toNat < l.length := by omega
    simp [List.getD_eq_getElem?_getD, hl]
  have hmono : ∀ L : List Sp, L.countP (fun s => !skips (putP l p b) s) ≤ L.countP (fun s => !skips p s) := fun L => List.countP_mono_left fun s _ h => by
    cases hs : skips p s with
    | false => rfl
    | true => rw [h2 s hs] at h; simp at h
  unfold cnt
  conv => lhs; arg 2; rw [e]
  conv => rhs; arg 2; rw [e]
  rw [List.countP_append, List.countP_append, List.countP_cons, List.countP_cons, h1, hn]
  have := hmono (l.take b.toNat)
  have := hmono (l.drop (b.toNat + 1))
  simp; omega
theorem rpl_done {l : List Sp} {p : Pl} (h : bs l p l.length < 0) : ∀ n, rpl l n p = p
  | 0 => rfl
  | n + 1 => by rw [rpl, if_pos h]
def refR (l : List Sp) : Pl × Int := if valid l then (rpl l l.length ⟨[], []⟩, 0) else (⟨[], []⟩, 1)

def rq1 (l : List Sp) (p : Pl) : S := mkS 67 [(0, .b (.v (lSp l))), (5, .b (.v (.c (.row 1 p.pts.length)))), (6, .b (.v (.c (.row 2 p.aps.length))))] [(1, .row 3 1 (rowI p.pts)), (2, .row 3 1 (rowI p.aps))]
def rq2 (l : List Sp) (p : Pl) (x : Int × Int) : S := mkS 67 [(0, .b (.v (lSp l))), (5, .b (.v (.c (.row 1 p.pts.length)))), (6, .b (.v (.c (.row 2 p.aps.length)))), (7, .b (.v (vI x.2))), (8, .b (.v (vI x.1)))] [(1, .row 3 1 (rowI p.pts)), (2, .row 3 1 (rowI p.aps))]
theorem f13 (l : List Sp) (hl : l.length ≤ 1000000) : FCall Try.prog 13 [lSp l] (sbP (refR l)) := by
  refine fcall_of Try.func13 rfl (by kernel_rfl) (fun B hB => ?_)
  refine reg0 mix (by kernel_rfl) ?_
  refine regC mix [(1, con (f22 l hl))] (by kernel_rfl) ?_
  refine rCond (!valid l) (by kernel_rfl) (fun h => ?_) (fun h => ?_)
  · refine reg0 mix (by kernel_rfl) ?_
    refine run_weaken (wk_nilLst 2 1 (elI []) (by kernel_rfl)) ?_ (List.cons_ne_nil _ _)
    refine run_weaken (wk_nilLst 3 1 (elI []) (by kernel_rfl)) ?_ (List.cons_ne_nil _ _)
    refine run_ret (ret_of (.tup [lI [], lI [], vI 1]) (by kernel_rfl) ?_)
    rw [refR, if_neg (by simpa using h)]; rfl
  have hv : valid l = true := by simpa using h
  rw [show sbP (refR l) = .tup [lI (rpl l l.length ⟨[], []⟩).pts, lI (rpl l l.length ⟨[], []⟩).aps, vI 0] by rw [refR, if_pos hv]; rfl]
  refine reg0 mix (by kernel_rfl) ?_
  refine run_weaken (wk_nilRow 5 1 3 1 (by kernel_rfl) (by kernel_rfl) (by omega)) ?_ (List.cons_ne_nil _ _)
  refine reg0 mix (by kernel_rfl) ?_
  refine run_weaken (wk_nilRow 6 2 3 1 (by kernel_rfl) (by kernel_rfl) (by omega)) ?_ (List.cons_ne_nil _ _)
  refine rBlock ?_
  refine rLoop (rq1 l) (fun p => ∃ m, cnt l p ≤ m ∧ rpl l l.length ⟨[], []⟩ = rpl l m p ∧ p.pts.length + cnt l p ≤ l.length ∧ p.aps.length = p.pts.length) (fun p => cnt l p) ⟨[], []⟩ (wkTo [0, 5, 6] [] (by kernel_rfl)) ⟨l.length, List.countP_le_length, rfl, by simp only [List.length_nil, Nat.zero_add]; exact List.countP_le_length, rfl⟩ ?_
  rintro p ⟨m, hm, hfin, hlen, hap⟩
  refine rBlock ?_
  refine reg0 mix (by kernel_rfl) ?_
  refine reg0 mix (by kernel_rfl) ?_
  refine rBlock ?_
  refine rLoop (rq2 l p) (fun x => 0 ≤ x.1 ∧ x.1 ≤ l.length ∧ x.2 = bs l p x.1.toNat) (fun x => (l.length - x.1).toNat) (0, -1) (wkTo [0, 5, 6, 7, 8] [] (by kernel_rfl)) ⟨by simp, by simp, rfl⟩ ?_
  rintro ⟨i, b⟩ ⟨hi0, hi1, hb⟩
  simp only at hi0 hi1 hb
  have hbb := bs_bound l p i.toNat
  rw [← hb] at hbb
  refine reg0 mix (by kernel_rfl) ?_
  refine rCond (decide (i < (l.length : Int))) (by kernel_rfl) (fun hc => ?_) (fun hc => ?_)
  · have hc : i < l.length := of_decide_eq_true hc
    have e1 : IntKind.i64.wrap (i + 1) = i + 1 := w64 _ (by omega) (by omega)
    have hi : 0 ≤ i ∧ i < (l.length : Int) := ⟨hi0, hc⟩
    have ew : decide ((p.pts.length : Int) > 0) = true → IntKind.i64.wrap ((p.pts.length : Int) - 1) = (p.pts.length : Int) - 1 := fun h => w64 _ (by omega) (by omega)
    have q0 : p.pts.length = (rowI p.pts).length := (rowI_len _).symm
    have q1 : decide ((p.pts.length : Int) > 0) = true → QAt (IntKind.i64.wrap ((p.pts.length : Int) - 1)) p.pts.length (rowI p.pts) := fun h => ⟨by have := of_decide_eq_true h; rw [ew h]; omega, q0⟩
    have q2 : decide ((p.pts.length : Int) > 0) = true → QEl p.pts.length (IntKind.i64.wrap ((p.pts.length : Int) - 1)).toNat (rowI p.pts) [cI (lastI p.pts)] := fun h => by
      have := of_decide_eq_true h
      rw [ew h, show ((p.pts.length : Int) - 1).toNat = p.pts.length - 1 by omega]
      exact ⟨⟨q0, by omega⟩, rowI_at (by omega)⟩
    refine rJoin (fun b' => rq2 l p (i, b')) (fun b' => b' = bs l p (i.toNat + 1)) (List.cons_ne_nil _ _) ?_ ?_
    · refine rBlock ?_
      refine regI mix [(14, .frz 0 (fun _ => [cI (lastI p.pts)]))] [pf (fun _ : true = true => q0), pf (fun _ : decide ((p.pts.length : Int) > 0) = true => hi), pf (fun _ : decide ((p.pts.length : Int) > 0) = true => q0), pf q1, pf q2] (by kernel_rfl) ?_
      refine rCond (skips p (l.getD i.toNat zSp)) (by kernel_rfl) (fun h => ?_) (fun h => ?_)
      · refine run_exit (blockR_exit (run_nil (joined b ?_ (wkTo [0, 5, 6, 7, 8] [] (by kernel_rfl)))))
        rw [bs, if_pos h, hb]
      · have hsk : bs l p (i.toNat + 1) = if (decide (b < 0) || decide ((l.getD i.toNat zSp).til < (l.getD b.toNat zSp).til)) then (i.toNat : Int) else b := by
          rw [bs, if_neg (by rw [h]; exact Bool.false_ne_true), ← hb]
        refine regI mix [] [pf (fun _ : (!decide (b < 0)) = true => hi), pf (fun h : (!decide (b < 0)) = true => (⟨by simp at h; omega, by omega⟩ : 0 ≤ b ∧ b < (l.length : Int)))] (by kernel_rfl) ?_
        refine rCond (decide (b < 0) || decide ((l.getD i.toNat zSp).til < (l.getD b.toNat zSp).til)) (by kernel_rfl) (fun h2 => ?_) (fun h2 => ?_)
        · refine reg0 mix (by kernel_rfl) ?_
          refine run_nil (blockR_normal (run_nil (joined i ?_ (wkTo [0, 5, 6, 7, 8] [] (by kernel_rfl)))))
          rw [hsk, if_pos h2]; omega
        · refine run_nil (blockR_normal (run_nil (joined b ?_ (wkTo [0, 5, 6, 7, 8] [] (by kernel_rfl)))))
          rw [hsk, if_neg (by rw [h2]; exact Bool.false_ne_true)]
    · intro b' hb'
      refine reg0 mix (by kernel_rfl) ?_
      refine run_nil (loopR_next (IntKind.i64.wrap (i + 1), b') (wkTo [0, 5, 6, 7, 8] [] (by kernel_rfl)) ?_ ?_)
      · simp only [e1]
        exact ⟨by omega, by omega, by rw [hb', show (i + 1).toNat = i.toNat + 1 by omega]⟩
      · simp only [e1]; omega
  have hc : ¬ i < l.length := of_decide_eq_false hc
  rw [show i.toNat = l.length by omega] at hb hbb
  refine run_exit (loopR_exit (blockR_exit ?_))
  refine reg0 mix (by kernel_rfl) ?_
  refine rCond (decide (b < 0)) (by kernel_rfl) (fun h => ?_) (fun h => ?_)
  · have h : b < 0 := of_decide_eq_true h
    have hd : rpl l m p = p := rpl_done (by rw [← hb]; exact h) m
    rw [hfin, hd]
    refine reg0 mix (by kernel_rfl) ?_
    refine frzRow hB 2 1 p.pts.length 3 1 (rowI p.pts) (elI p.pts) [3, 4] [] (by kernel_rfl) (by kernel_rfl) (rowI_len _).symm (fun j hj => (rowI_at hj).symm) (by kernel_rfl) ?_ (List.cons_ne_nil _ _)
    refine frzRow hB 3 2 p.aps.length 3 1 (rowI p.aps) (elI p.aps) [2, 4] [] (by kernel_rfl) (by kernel_rfl) (rowI_len _).symm (fun j hj => (rowI_at hj).symm) (by kernel_rfl) ?_ (List.cons_ne_nil _ _)
    exact run_ret (blockR_ret (loopR_ret (blockR_ret (ret_of (.tup [lI p.pts, lI p.aps, vI 0]) (by kernel_rfl) rfl))))
  · have h : ¬ b < 0 := of_decide_eq_false h
    have hbr : 0 ≤ b ∧ b < (l.length : Int) := ⟨by omega, by omega⟩
    have hns : skips p (l.getD b.toNat zSp) = false := by
      rcases bs_not l p l.length with h1 | h1
      · rw [← hb] at h1; exact absurd h1 h
      · rw [← hb] at h1; exact h1
    have hlt := cnt_lt hv hbr hns
    refine reg mix [] [pf hbr, pf (rowI_len p.pts).symm, pf (by omega : (p.pts.length + 1) * 9 ≤ 140737488355328), pf (rfl : 1 = [[cI (l.getD b.toNat zSp).til]].length)] (by kernel_rfl) ?_
    refine reg mix [] [pf (rowI_len p.aps).symm, pf (by omega : (p.aps.length + 1) * 9 ≤ 140737488355328), pf (rfl : 1 = [[cI b]].length)] (by kernel_rfl) ?_
    have e1 : (putP l p b).pts.length = p.pts.length + 1 ∧ rowI (putP l p b).pts = rowI p.pts ++ [[cI (l.getD b.toNat zSp).til]] := ⟨by simp [putP], by simp [rowI, putP]⟩
    have e2 : (putP l p b).aps.length = p.aps.length + 1 ∧ rowI (putP l p b).aps = rowI p.aps ++ [[cI b]] := ⟨by simp [putP], by simp [rowI, putP]⟩
    refine run_nil (blockR_normal (run_nil (loopR_next (putP l p b) ?_ ?_ hlt)))
    · unfold rq1
      rw [e1.1, e1.2, e2.1, e2.2]
      exact wkTo [0, 5, 6] [61, 65] (by kernel_rfl)
    · cases m with
      | zero => omega
      | succ m =>
        refine ⟨m, by omega, ?_, by rw [e1.1]; omega, by rw [e1.1, e2.1]; omega⟩
        rw [hfin, rpl, if_neg (by rw [← hb]; exact h), ← hb]

/-! ### ... is the greedy one -/
def hdJ : Option Int → Int
  | none => -1
  | some i => i
theorem isort_snoc_head {α : Type} (key : α → Int) (R : List α) (x : α) : (isort key (R ++ [x])).head? = match (isort key R).head? with
    | none => some x
    | some b => if key x < key b then some x else some b := by
  rw [isort_snoc]
  cases isort key R with
  | nil => rfl
  | cons b S => simp only [insR, List.head?_cons]; split <;> rfl
def need (l : List Sp) (p : Pl) (i : Int) : Bool := !skips p (l.getD i.toNat zSp)
theorem ixs_succ (n : Nat) : ixs (n + 1) = ixs n ++ [(n : Int)] := by simp [ixs, List.range_succ]
theorem bs_head (l : List Sp) (p : Pl) : ∀ m, bs l p m = hdJ (isort (keyS l) ((ixs m).filter (need l p))).head?
  | 0 => rfl
  | m + 1 => by
    have ih := bs_head l p m
    rw [bs, ih, ixs_succ, List.filter_append, List.filter_cons]
    cases hs : skips p (l.getD m zSp) with
    | true =>
      have : need l p (m : Int) = false := by rw [need, Int.toNat_natCast, hs]; rfl
      rw [this]; simp
    | false =>
      have : need l p (m : Int) = true := by rw [need, Int.toNat_natCast, hs]; rfl
      rw [this, if_neg (by exact Bool.false_ne_true), if_pos rfl, List.filter_nil, isort_snoc_head]
      generalize hg : (isort (keyS l) ((ixs m).filter (need l p))).head? = o
      cases o with
      | none => simp [hdJ]
      | some b =>
        have hb0 : 0 ≤ b := by
          have h1 := List.mem_of_mem_head? (l := isort (keyS l) ((ixs m).filter (need l p))) hg
          have h2 := (List.mem_filter.1 ((mem_isort _).1 h1)).1
          exact (ixs_mem.1 h2).1
        have e0 : decide (b < 0) = false := decide_eq_false (by omega)
        by_cases h : (l.getD m zSp).til < (l.getD b.toNat zSp).til
        · simp only [hdJ, keyS, Int.toNat_natCast, h, decide_true, if_true]
          rw [if_pos (by simp)]
        · simp only [hdJ, keyS, Int.toNat_natCast, h, decide_false, Bool.or_false, if_false]
          exact if_neg fun hh => by
            have h3 : b < 0 := of_decide_eq_true hh
            omega
theorem fold_rpl {l : List Sp} (hv : valid l = true) : ∀ (S : List Int) (p : Pl) (n : Nat), S.length ≤ n → (∀ x, x ∈ S → 0 ≤ x ∧ x < l.length) → (order l).filter (need l p) = S.filter (need l p) → S.foldl (stepP l) p = rpl l n p
  | [], p, n, _, _, he => by
    rw [List.foldl_nil, rpl_done]
    rw [bs_head, ← isort_filterP, ← order, he]; exact (by decide : (-1 : Int) < 0)
  | x :: S, p, n, hn, hm, he => by
    have hx := hm x (List.mem_cons_self ..)
    rw [List.foldl_cons]
    cases hs : skips p (l.getD x.toNat zSp) with
    | true =>
      have h1 : need l p x = false := by rw [need, hs]; rfl
      have h2 : stepP l p x = p := by rw [stepP, addP, if_pos hs]
      rw [h2]
      refine fold_rpl hv S p n (by simp at hn; omega) (fun y hy => hm y (List.mem_cons_of_mem _ hy)) ?_
      rw [he, List.filter_cons, h1]; rfl
    | false =>
      have h1 : need l p x = true := by rw [need, hs]; rfl
      have h2 : stepP l p x = putP l p x := by rw [stepP, addP, if_neg (by rw [hs]; exact Bool.false_ne_true)]; rfl
      have hb : bs l p l.length = x := by
        rw [bs_head, ← isort_filterP, ← order, he, List.filter_cons, h1]; rfl
      rw [h2]
      cases n with
      | zero => simp at hn
      | succ n =>
        rw [rpl, hb, if_neg (by omega)]
        obtain ⟨g1, g2⟩ := skips_put hv hx hs
        have hnn : need l (putP l p x) x = false := by rw [need, g1]; rfl
        refine fold_rpl hv S (putP l p x) n (by simp at hn; omega) (fun y hy => hm y (List.mem_cons_of_mem _ hy)) ?_
        have himp : ∀ L : List Int, L.filter (need l (putP l p x)) = (L.filter (need l p)).filter (need l (putP l p x)) := fun L => by
          rw [List.filter_filter]
          refine List.filter_congr fun y _ => ?_
          cases hy : need l (putP l p x) y with
          | false => rfl
          | true =>
            have : need l p y = true := by
              cases hq : skips p (l.getD y.toNat zSp) with
              | false => rw [need, hq]; rfl
              | true => rw [need, g2 _ hq] at hy; cases hy
            rw [this]; rfl
        rw [himp, he, ← himp, List.filter_cons, hnn]; rfl
theorem plan_rpl {l : List Sp} (hv : valid l = true) : planP l l.length = rpl l l.length ⟨[], []⟩ := by
  rw [planP, List.take_of_length_le (by rw [order_len]; exact Nat.le_refl _)]
  exact fold_rpl hv (order l) _ _ (by rw [order_len]; exact Nat.le_refl _) (fun x hx => order_mem.1 hx) rfl
theorem ref_eq (l : List Sp) : refR l = planR l := by
  unfold refR planR
  split
  · rename_i h; rw [plan_rpl h]
  · rfl
theorem g13 (l : List Sp) (hl : l.length ≤ 1000000) : FCall Try.prog 13 [lSp l] (sbP (planR l)) := by rw [← ref_eq]; exact f13 l hl
end Go.Proofs.Ytakaeaekeeoicaa
