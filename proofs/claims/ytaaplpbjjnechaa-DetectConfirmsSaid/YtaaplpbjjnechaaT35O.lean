import Derived.Test.YtaaplpbjjnechaaT35N
namespace Go.Proofs.Ytaaplpbjjnechaa
set_option linter.unusedVariables false
set_option linter.unusedSimpArgs false
section
open Go.Sym

/-! ### The laws: the examples, counts, order -/
def wantL : List De := [⟨7, 0, 1, 10, 5⟩, ⟨7, 3, 1, 40, 5⟩]
def wantL3 : List De := [⟨7, 0, 1, 10, 5⟩, ⟨7, 3, 1, 40, 5⟩, ⟨7, 0, 1, 99, 6⟩]
def wantT : List Ta := [⟨7, 0, 1, 2⟩, ⟨7, 3, 1, 1⟩]
theorem f9 : FCall Try.prog 9 [] (.v (vB true)) := by
  have c10 := f10 7 1 5 ⟨true, false, false, true⟩ ⟨10, 0, 0, 40⟩
  rw [show lisR 7 1 5 ⟨true, false, false, true⟩ ⟨10, 0, 0, 40⟩ = (wantL, 0) by kernel_rfl] at c10
  have c11 := f11 wantL3
  rw [show cntR wantL3 = (wantT, 0) by kernel_rfl] at c11
  have c19 := f19 wantT 2 (by decide)
  rw [show conR wantT 2 = ([⟨7, 0, 1, 2⟩], 0) by kernel_rfl] at c19
  have d10 := f10 512 1 5 ⟨false, false, false, false⟩ ⟨0, 0, 0, 0⟩
  rw [show lisR 512 1 5 ⟨false, false, false, false⟩ ⟨0, 0, 0, 0⟩ = ([], 1) by kernel_rfl] at d10
  have c21 := f21 wantL wantL (by decide)
  rw [decide_eq_true rfl] at c21
  have c14 := f14 wantT wantT (by decide)
  rw [decide_eq_true rfl] at c14
  have d14 := f14 [⟨7, 0, 1, 2⟩] [⟨7, 0, 1, 2⟩] (by decide)
  rw [decide_eq_true rfl] at d14
  have e14 : FCall Try.prog 14 [lTa [⟨7, 0, 1, 2⟩], .c (.lst 4 1 (elTa wantT))] (.v (vB true)) := d14.of_le ⟨CVle.refl _, CVle.lst (fun i hi => by
    match i, hi with
    | 0, _ => rfl), trivial⟩
  refine fcall_of Try.func9 rfl (by kernel_rfl) (fun B hB => ?_)
  refine reg0 mix (by kernel_rfl) ?_
  refine reg mix [(2, hcon c10)] [pf c10] (by kernel_rfl) ?_
  refine reg mix [(2, .frz 2 (elDe wantL))] [pf ((⟨rfl, fun i hi => by
    match i, hi with
    | 0, _ => rfl
    | 1, _ => rfl⟩) : 2 = 2 ∧ ∀ i, i < 2 → elDe wantL i = [encDe ⟨7, 0, 1, 10, 5⟩, encDe ⟨7, 3, 1, 40, 5⟩].getD i [])] (by kernel_rfl) ?_
  refine regF hB mix [(5, .frzA 3 (elDe wantL3)), (6, hcon c11)]
    [pf (rfl : 0 = ([] : List (List C)).length), pf (by decide : (0 + 2) * 41 ≤ 140737488355328), pf (rfl : 0 + 2 = (([] : List (List C)) ++ (List.range 2).map (elDe wantL)).length), pf (by decide : (0 + 2 + 1) * 41 ≤ 140737488355328),
     pf (⟨rfl, fun i hi => by
      match i, hi with
      | 0, _ => rfl
      | 1, _ => rfl
      | 2, _ => rfl⟩ : 3 = 0 + 2 + 1 ∧ ∀ i, i < 3 → elDe wantL3 i = ((([] : List (List C)) ++ (List.range 2).map (elDe wantL)) ++ [encDe ⟨7, 0, 1, 99, 6⟩]).getD i []), pf (rfl : 1 = [encDe ⟨7, 0, 1, 99, 6⟩].length), pf c11] (by kernel_rfl) ?_
  refine reg mix [(2, .frz 2 (elTa wantT))] [pf ((⟨rfl, fun i hi => by
    match i, hi with
    | 0, _ => rfl
    | 1, _ => rfl⟩) : 2 = 2 ∧ ∀ i, i < 2 → elTa wantT i = [encTa ⟨7, 0, 1, 2⟩, encTa ⟨7, 3, 1, 1⟩].getD i [])] (by kernel_rfl) ?_
  refine reg mix [(1, hcon c19)] [pf c19] (by kernel_rfl) ?_
  refine reg mix [(2, hcon d10)] [pf d10] (by kernel_rfl) ?_
  refine regI mix [(5, hcon c21), (14, hcon c14), (24, .call (.v (vB true)))] [pf (fun _ : true = true => c21), pf (fun _ : true = true => c14), pf (fun _ : true = true => (by decide : (0 : Int) ≤ 1 ∧ (1 : Int) ≤ ((2 : Nat) : Int))), pf (fun _ : true = true => e14)] (by kernel_rfl) ?_
  exact run_ret (ret_of (.v (vB true)) (by kernel_rfl) rfl)

theorem CVle.nil (sz : Nat) (f : Nat → List C) : CVle (.c .nil) (.c (.lst sz 0 f)) := fun K v h => by
  obtain ⟨h1, h2⟩ := h
  cases h1
  exact ⟨RelK.lst0 sz f, rfl⟩
/-! #### Counts -/
def tot : List Ta → Int
  | [] => 0
  | x :: t => x.n + tot t
theorem tot_app : ∀ (a b : List Ta), tot (a ++ b) = tot a + tot b
  | [], b => by simp [tot]
  | x :: a, b => by rw [List.cons_append, tot, tot, tot_app a b]; omega
theorem tot_insR : ∀ (t : List Ta) (p : Pc), (∀ x, x ∈ t → 1 ≤ x.n ∧ x.n ≤ 1000000) → tot (insR t p) = tot t + 1
  | [], p, _ => rfl
  | x :: t, p, h => by
    rw [insR]
    split
    · rw [tot, tot, tot_insR t p fun y hy => h y (List.mem_cons_of_mem _ hy)]; omega
    · split
      · simp only [tot, oneT]; omega
      · have h1 := h x List.mem_cons_self
        have : (upT x).n = x.n + 1 := w64 _ (by omega) (by omega)
        rw [tot, tot, this]; omega
theorem tot_cnt (l : List De) (hl : l.length ≤ 1000000) : tot (cnt l) = l.length := by
  induction l using snoc_ind with
  | h0 => rfl
  | h1 l d ih =>
    rw [List.length_append, List.length_singleton] at hl
    have hr := cnt_rep l (by omega)
    rw [cnt_snoc, insT_R, tot_insR _ _ fun x hx => ?_, ih (by omega)]
    · simp
    · have := hr.mem x hx
      have h2 := cN_le l x.pl
      omega
theorem taAt_mem {l : List Ta} {i : Nat} (h : i < l.length) : taAt l i ∈ l := by simp [taAt, List.getD_eq_getElem?_getD, h]
theorem take_snocT {l : List Ta} {i : Nat} (h : i < l.length) : l.take (i + 1) = l.take i ++ [taAt l i] := by
  rw [List.take_succ_eq_append_getElem h]
  simp [taAt, List.getD_eq_getElem?_getD, h]
theorem tot_take {l : List Ta} {i : Nat} (h : i < l.length) : tot (l.take (i + 1)) = tot (l.take i) + (taAt l i).n := by
  rw [take_snocT h, tot_app]; simp [tot]
theorem strict_at {t : List Ta} (h : t.Pairwise fun a b => ltP a.pl b.pl = true) {i j : Nat} (hij : i < j) (hj : j < t.length) : ltP (taAt t i).pl (taAt t j).pl = true := by
  have := List.pairwise_iff_getElem.1 h i j (by omega) hj hij
  simpa [taAt, List.getD_eq_getElem?_getD, hj, show i < t.length by omega] using this
def samePl (d : De) (x : Ta) : Bool := ((d.t == x.t) && (d.c == x.c)) && (d.f == x.f)
theorem samePl_iff {d : De} {x : Ta} : samePl d x = decide (d.pl = x.pl) := by
  rw [Bool.eq_iff_iff]
  simp [samePl, De.pl, Ta.pl, and_assoc]
theorem cN_take {l : List De} {k : Nat} (h : k < l.length) (p : Pc) : cN (l.take (k + 1)) p = if decide ((deAt l k).pl = p) = true then cN (l.take k) p + 1 else cN (l.take k) p := by
  rw [take_snocD h, cN_snoc, bump]
  by_cases e : p = (deAt l k).pl
  · rw [if_pos e, if_pos (by rw [decide_eq_true_eq]; exact e.symm)]
  · rw [if_neg e, if_neg (by rw [decide_eq_true_eq]; exact fun h => e h.symm)]
def ou4 (l : List De) (c : List Ta) (x : Int × Int) : S := mkS 117 [(0, .b (.v (lDe l))), (3, .b (.v (vB true))), (4, .b (.v (lTa c))), (6, .b (.v (vI x.2))), (7, .b (.v (vI x.1)))] []
def in4 (l : List De) (c : List Ta) (i s : Int) (x : Int × Int) : S := mkS 117 [(0, .b (.v (lDe l))), (3, .b (.v (vB true))), (4, .b (.v (lTa c))), (6, .b (.v (vI s))), (7, .b (.v (vI i))), (8, .b (.v (vI x.2))), (9, .b (.v (vI x.1)))] []
theorem f4 (l : List De) : FCall Try.prog 4 [lDe l] (.v (vB true)) := by
  have c12 : FCall Try.prog 12 [lDe l, .c .nil] (.v (vB (fewB l []))) := (f12 l []).of_le ⟨CVle.refl _, CVle.nil _ _, trivial⟩
  have c11 := f11 l
  refine fcall_of Try.func4 rfl (by kernel_rfl) (fun B hB => ?_)
  refine reg0 mix (by kernel_rfl) ?_
  refine regC mix [(0, con f9)] (by kernel_rfl) ?_
  refine regC mix [(1, con c12)] (by kernel_rfl) ?_
  refine rCond (!fewB l []) (by kernel_rfl) (fun h => ?_) (fun h => ?_)
  · refine reg0 mix (by kernel_rfl) ?_
    exact run_ret (ret_of (.v (vB true)) (by kernel_rfl) rfl)
  by_cases he : (cntR l).2 = 0
  case neg =>
    have hc0 : (cntR l).1 = [] := by
      unfold cntR at he ⊢
      split
      · rfl
      · split
        · rename_i h1 h2; rw [if_neg h1, if_pos h2] at he; exact absurd rfl he
        · rfl
    rw [hc0] at c11
    generalize (cntR l).2 = e at c11 he
    refine regC mix [(1, con c11)] (by kernel_rfl) ?_
    refine reg0 mix (by kernel_rfl) ?_
    refine rCond (e != 0) (by kernel_rfl) (fun h => ?_) (fun h => ?_)
    · refine reg0 mix (by kernel_rfl) ?_
      exact run_ret (ret_of (.v (vB true)) (by kernel_rfl) rfl)
    · exact absurd (by simpa using h) he
  have hR : l.length ≤ 1000 ∧ (cntR l).1 = cnt l := by
    unfold cntR at he ⊢
    split
    · rename_i h1; rw [if_pos h1] at he; cases he
    · rename_i h1
      rw [if_neg h1] at he
      refine ⟨by omega, ?_⟩
      split
      · rfl
      · rename_i h2; rw [if_neg h2] at he; cases he
  obtain ⟨hl, hR⟩ := hR
  rw [he, hR] at c11
  have hrep := cnt_rep l (by omega)
  have htot := tot_cnt l (by omega)
  have hcl := cnt_len l
  generalize cnt l = c at c11 hrep htot hcl
  have hmem : ∀ i, i < c.length → (taAt c i).n = cN l (taAt c i).pl ∧ 1 ≤ (taAt c i).n := fun i hi => hrep.mem _ (taAt_mem hi)
  refine regC mix [(1, con c11)] (by kernel_rfl) ?_
  refine reg0 mix (by kernel_rfl) ?_
  refine rCondF false (by kernel_rfl) rfl ?_
  refine reg0 mix (by kernel_rfl) ?_
  refine reg0 mix (by kernel_rfl) ?_
  refine rBlock ?_
  refine rLoop (ou4 l c) (fun x => 0 ≤ x.1 ∧ x.1 ≤ c.length ∧ x.2 = tot (c.take x.1.toNat) ∧ 0 ≤ x.2 ∧ x.2 ≤ 1000 * x.1) (fun x => (c.length - x.1).toNat) (0, 0) (wkTo [0, 3, 4, 6, 7] [] (by kernel_rfl)) ⟨by simp, by simp, rfl, by simp, by simp⟩ ?_
  rintro ⟨i, s⟩ ⟨h0, h1, hs, hs0, hs1⟩
  simp only at h0 h1 hs hs0 hs1
  refine reg0 mix (by kernel_rfl) ?_
  refine rCond (decide (i < (c.length : Int))) (by kernel_rfl) (fun hc => ?_) (fun hc => ?_)
  · have hc : i < c.length := of_decide_eq_true hc
    have e : IntKind.i64.wrap (i + 1) = i + 1 := w64 _ (by omega) (by omega)
    have hi : 0 ≤ i ∧ i < (c.length : Int) := ⟨h0, hc⟩
    obtain ⟨hn1, hn2⟩ := hmem i.toNat (by omega)
    have hnle := cN_le l (taAt c i.toNat).pl
    refine rBlock ?_
    refine reg0 mix (by kernel_rfl) ?_
    refine reg0 mix (by kernel_rfl) ?_
    refine rBlock ?_
    refine rLoop (in4 l c i s) (fun x => 0 ≤ x.1 ∧ x.1 ≤ l.length ∧ x.2 = cN (l.take x.1.toNat) (taAt c i.toNat).pl) (fun x => (l.length - x.1).toNat) (0, 0) (wkTo [0, 3, 4, 6, 7, 8, 9] [] (by kernel_rfl)) ⟨by simp, by simp, rfl⟩ ?_
    rintro ⟨k, n⟩ ⟨g0, g1, hn⟩
    simp only at g0 g1 hn
    refine reg0 mix (by kernel_rfl) ?_
    refine rCond (decide (k < (l.length : Int))) (by kernel_rfl) (fun hd => ?_) (fun hd => ?_)
    · have hd : k < l.length := of_decide_eq_true hd
      have e' : IntKind.i64.wrap (k + 1) = k + 1 := w64 _ (by omega) (by omega)
      have hk : 0 ≤ k ∧ k < (l.length : Int) := ⟨g0, hd⟩
      have hb : 0 ≤ n ∧ n ≤ 1000 := by
        have := cN_le (l.take k.toNat) (taAt c i.toNat).pl
        rw [List.length_take] at this
        rw [hn]; omega
      have en : IntKind.i64.wrap (n + 1) = n + 1 := w64 _ (by omega) (by omega)
      have htk := cN_take (l := l) (k := k.toNat) (by omega) (taAt c i.toNat).pl
      refine rJoin (fun m : Int => in4 l c i s (k, m)) (fun m => m = cN (l.take (k.toNat + 1)) (taAt c i.toNat).pl) (List.cons_ne_nil _ _) ?_ ?_
      · refine rBlock ?_
        refine regI mix [] [pf (fun _ : true = true => hk), pf (fun _ : true = true => hi), pf (fun _ : ((deAt l k.toNat).t == (taAt c i.toNat).t) = true => hk), pf (fun _ : ((deAt l k.toNat).t == (taAt c i.toNat).t) = true => hi),
          pf (fun _ : (((deAt l k.toNat).t == (taAt c i.toNat).t) && ((deAt l k.toNat).c == (taAt c i.toNat).c)) = true => hk), pf (fun _ : (((deAt l k.toNat).t == (taAt c i.toNat).t) && ((deAt l k.toNat).c == (taAt c i.toNat).c)) = true => hi)] (by kernel_rfl) ?_
        refine rCond (samePl (deAt l k.toNat) (taAt c i.toNat)) (by kernel_rfl) (fun h => ?_) (fun h => ?_)
        · refine reg0 mix (by kernel_rfl) ?_
          refine run_nil (blockR_normal (run_nil (joined (IntKind.i64.wrap (n + 1)) ?_ (wkTo [0, 3, 4, 6, 7, 8, 9] [] (by kernel_rfl)))))
          rw [en, htk, if_pos (by rw [← samePl_iff]; exact h), hn]
        · refine run_nil (blockR_normal (run_nil (joined n ?_ (wkTo [0, 3, 4, 6, 7, 8, 9] [] (by kernel_rfl)))))
          rw [htk, if_neg (by rw [← samePl_iff, h]; exact Bool.false_ne_true), hn]
      · rintro m hm
        refine reg0 mix (by kernel_rfl) ?_
        refine run_nil (loopR_next (IntKind.i64.wrap (k + 1), m) (wkTo [0, 3, 4, 6, 7, 8, 9] [] (by kernel_rfl)) ?_ ?_)
        · rw [e']
          exact ⟨by simp only; omega, by simp only; omega, by simp only; rw [hm, show (k + 1).toNat = k.toNat + 1 by omega]⟩
        · rw [e']; simp only; omega
    have hd : ¬ k < l.length := of_decide_eq_false hd
    rw [List.take_of_length_le (by omega), ← hn1] at hn
    subst hn
    refine run_exit (loopR_exit (blockR_exit ?_))
    have c13 := f13 (taAt c (IntKind.i64.wrap (i - 1)).toNat) (taAt c i.toNat)
    have hp : ((!(((taAt c i.toNat).n != (taAt c i.toNat).n) || decide ((taAt c i.toNat).n < 1))) && decide (i > 0)) = true → 0 ≤ IntKind.i64.wrap (i - 1) ∧ IntKind.i64.wrap (i - 1) < (c.length : Int) := fun h => by
      have := of_decide_eq_true (Bool.and_eq_true_iff.1 h).2
      rw [w64 _ (by omega) (by omega)]; omega
    refine regI mix [(24, hcon c13)] [pf (fun _ : true = true => hi), pf hp, pf (fun _ : ((!(((taAt c i.toNat).n != (taAt c i.toNat).n) || decide ((taAt c i.toNat).n < 1))) && decide (i > 0)) = true => hi), pf (fun _ : ((!(((taAt c i.toNat).n != (taAt c i.toNat).n) || decide ((taAt c i.toNat).n < 1))) && decide (i > 0)) = true => c13)] (by kernel_rfl) ?_
    refine rCondF ((((taAt c i.toNat).n != (taAt c i.toNat).n) || decide ((taAt c i.toNat).n < 1)) || (decide (i > 0) && !ltP (taAt c (IntKind.i64.wrap (i - 1)).toNat).pl (taAt c i.toNat).pl)) (by kernel_rfl) ?_ ?_
    · rw [decide_eq_false (show ¬ (taAt c i.toNat).n < 1 by omega), bne_self_eq_false]
      by_cases hz : i > 0
      · rw [w64 _ (by omega) (by omega), strict_at hrep.strict (i := (i - 1).toNat) (j := i.toNat) (by omega) (by omega)]; simp
      · rw [decide_eq_false hz]; rfl
    refine reg0 mix (by kernel_rfl) ?_
    have hst := tot_take (l := c) (i := i.toNat) (by omega)
    have es : IntKind.i64.wrap (s + (taAt c i.toNat).n) = s + (taAt c i.toNat).n := w64 _ (by omega) (by omega)
    refine run_nil (blockR_normal ?_)
    refine reg0 mix (by kernel_rfl) ?_
    refine run_nil (loopR_next (IntKind.i64.wrap (i + 1), IntKind.i64.wrap (s + (taAt c i.toNat).n)) (wkTo [0, 3, 4, 6, 7] [] (by kernel_rfl)) ?_ ?_)
    · rw [e, es]
      refine ⟨by simp only; omega, by simp only; omega, ?_, by simp only; omega, by simp only; omega⟩
      simp only
      rw [show (i + 1).toNat = i.toNat + 1 by omega, hst, hs]
    · rw [e]; simp only; omega
  have hc : ¬ i < c.length := of_decide_eq_false hc
  rw [List.take_of_length_le (by omega), htot] at hs
  refine run_exit (loopR_exit (blockR_exit ?_))
  refine reg0 mix (by kernel_rfl) ?_
  refine run_ret (ret_of (.v (vB (true && (s == (l.length : Int))))) (by kernel_rfl) ?_)
  rw [hs]; simp
end
section
open Go.Sym

/-! ### The laws: order -/
def chg (v a : Int) (d : De) : De := ⟨d.t, d.c, d.f, v, a⟩
theorem chg_pl (v a : Int) (d : De) : (chg v a d).pl = d.pl := rfl
theorem rowDe_app (a b : List De) : rowDe (a ++ b) = rowDe a ++ rowDe b := by simp [rowDe]
theorem cN_chg (l : List De) (v a : Int) : cN (l.reverse.map (chg v a)) = cN l := by
  funext p
  unfold cN
  rw [List.filter_map, List.length_map, show ((fun d : De => decide (d.pl = p)) ∘ chg v a) = fun d : De => decide (d.pl = p) from rfl, List.filter_reverse, List.length_reverse]
theorem ok_chg {l : List De} {v a : Int} (h : l.all okDe = true) (hv : 0 ≤ v ∧ v ≤ 1000000) (ha : 0 ≤ a ∧ a ≤ 38399) : (l.reverse.map (chg v a)).all okDe = true := by
  rw [List.all_eq_true] at h ⊢
  intro x hx
  obtain ⟨d, hd, rfl⟩ := List.mem_map.1 hx
  exact ok_iff.2 ⟨(ok_iff.1 (h d (List.mem_reverse.1 hd))).1, hv, ha⟩
def bk (l : List De) (v a : Int) (i : Int) : List De := ((l.drop (i + 1).toNat).reverse).map (chg v a)
theorem bk_succ {l : List De} {v a i : Int} (h0 : 0 ≤ i) (hi : i < l.length) : bk l v a (i - 1) = bk l v a i ++ [chg v a (deAt l i.toNat)] := by
  unfold bk
  rw [show (i - 1 + 1).toNat = i.toNat by omega, show (i + 1).toNat = i.toNat + 1 by omega, List.drop_eq_getElem_cons (show i.toNat < l.length by omega), List.reverse_cons, List.map_append]
  simp [deAt, List.getD_eq_getElem?_getD, show i.toNat < l.length by omega]
theorem bk_len {l : List De} {v a i : Int} (h0 : -1 ≤ i) (hi : i < l.length) : (bk l v a i).length = l.length - (i + 1).toNat := by simp [bk]
def or5 (l : List De) (c : List Ta) (v a v0 a0 : Int) (i : Int) (n : Nat) (css : List (List C)) : S := mkS 65 [(0, .b (.v (lDe l))), (1, .b (.v (.c (.int .u16 v0)))), (2, .b (.v (.c (.int .u16 a0)))), (7, .b (.v (vB true))), (8, .b (.v (lTa c))), (10, .b (.v (.c (.row 1 n)))), (11, .b (.v (vI i)))] [(1, .row 32 5 css)]
theorem f5 (l : List De) (v a : Int) (hv : 0 ≤ v ∧ v ≤ 65535) (ha : 0 ≤ a ∧ a ≤ 65535) : FCall Try.prog 5 [lDe l, .c (.int .u16 v), .c (.int .u16 a)] (.v (vB true)) := by
  have c11 := f11 l
  refine fcall_of Try.func5 rfl (by kernel_rfl) (fun B hB => ?_)
  refine reg0 mix (by kernel_rfl) ?_
  refine regC mix [(0, con f9)] (by kernel_rfl) ?_
  refine reg0 mix (by kernel_rfl) ?_
  refine rCond (decide ((l.length : Int) > 40)) (by kernel_rfl) (fun h => ?_) (fun h => ?_)
  · refine reg0 mix (by kernel_rfl) ?_
    exact run_ret (ret_of (.v (vB true)) (by kernel_rfl) rfl)
  have hl : l.length ≤ 40 := by have := of_decide_eq_false h; omega
  have hno : ¬ (l.length : Int) > 1000 := by omega
  by_cases hall : l.all okDe = true
  case neg =>
    rw [show cntR l = ([], 1) by rw [cntR, if_neg hno, if_neg hall]] at c11
    refine regC mix [(1, con c11)] (by kernel_rfl) ?_
    refine reg0 mix (by kernel_rfl) ?_
    refine rCondT true (by kernel_rfl) rfl ?_
    refine reg0 mix (by kernel_rfl) ?_
    exact run_ret (ret_of (.v (vB true)) (by kernel_rfl) rfl)
  rw [show cntR l = (cnt l, 0) by rw [cntR, if_neg hno, if_pos hall]] at c11
  have hcl := cnt_len l
  obtain ⟨m, hm⟩ : ∃ m, m = IntKind.i64.wrap (a.tmod 38400) := ⟨_, rfl⟩
  have ham : 0 ≤ a.tmod 38400 ∧ a.tmod 38400 ≤ 38399 := by
    rw [Int.tmod_eq_emod_of_nonneg ha.1]; omega
  have ewv : IntKind.i64.wrap v = v := w64 _ (by omega) (by omega)
  have ewa : IntKind.i64.wrap a = a := w64 _ (by omega) (by omega)
  obtain ⟨v', hv'⟩ : ∃ v', v' = IntKind.i64.wrap v := ⟨_, rfl⟩
  obtain ⟨a', ha'⟩ : ∃ a', a' = (IntKind.i64.wrap a).tmod 38400 := ⟨_, rfl⟩
  have hvb : 0 ≤ v' ∧ v' ≤ 1000000 := by rw [hv', ewv]; omega
  have hab : 0 ≤ a' ∧ a' ≤ 38399 := by rw [ha', ewa]; exact ham
  have c11' := f11 (l.reverse.map (chg v' a'))
  have hlr : ((l.reverse.map (chg v' a')).length : Int) = l.length := by simp
  rw [show cntR (l.reverse.map (chg v' a')) = (cnt l, 0) by
    rw [cntR, if_neg (by omega), if_pos (ok_chg hall hvb hab)]
    have h1 := cnt_rep (l.reverse.map (chg v' a')) (by omega)
    rw [cN_chg] at h1
    rw [h1.eq (cnt_rep l (by omega))]] at c11'
  have c14 := f14 (cnt l) (cnt l) (by omega)
  rw [decide_eq_true rfl] at c14
  generalize cnt l = c at c11 c11' c14
  refine regC mix [(1, con c11)] (by kernel_rfl) ?_
  refine reg0 mix (by kernel_rfl) ?_
  refine rCondF false (by kernel_rfl) rfl ?_
  refine reg0 mix (by kernel_rfl) ?_
  refine run_weaken (wk_nilRow 10 1 32 5 (by kernel_rfl) (by kernel_rfl) (by omega)) ?_ (List.cons_ne_nil _ _)
  refine reg0 mix (by kernel_rfl) ?_
  refine rBlock ?_
  have es : IntKind.i64.wrap ((l.length : Int) - 1) = (l.length : Int) - 1 := w64 _ (by omega) (by omega)
  have hb0 : bk l v' a' (IntKind.i64.wrap ((l.length : Int) - 1)) = [] := by
    rw [es, bk, List.drop_of_length_le (by omega)]; rfl
  refine rLoop (fun i => or5 l c v' a' v a i (bk l v' a' i).length (rowDe (bk l v' a' i))) (fun i => -1 ≤ i ∧ i < l.length) (fun i => (i + 1).toNat) (IntKind.i64.wrap ((l.length : Int) - 1)) (by rw [hb0]; exact wkTo [0, 1, 2, 7, 8, 10, 11] [] (by kernel_rfl)) ⟨by omega, by omega⟩ ?_
  rintro i ⟨h0, h1⟩
  refine reg0 mix (by kernel_rfl) ?_
  refine rCond (decide (i ≥ 0)) (by kernel_rfl) (fun hc => ?_) (fun hc => ?_)
  · have hc : 0 ≤ i := of_decide_eq_true hc
    have e : IntKind.i64.wrap (i - 1) = i - 1 := w64 _ (by omega) (by omega)
    have hi : 0 ≤ i ∧ i < (l.length : Int) := ⟨hc, h1⟩
    have hbs := bk_succ (l := l) (v := v') (a := a') hc h1
    have hbl := bk_len (l := l) (v := v') (a := a') h0 h1
    have hln : (bk l v' a' i).length = (rowDe (bk l v' a' i)).length := (rowDe_len _).symm
    refine rBlock ?_
    refine reg mix [] [pf hi] (by kernel_rfl) ?_
    refine reg0 mix (by kernel_rfl) ?_
    refine reg mix [] [pf (by omega : (38400 : Int) ≠ 0)] (by kernel_rfl) ?_
    refine reg mix [] [pf hln, pf ((by omega) : ((bk l v' a' i).length + 1) * 41 ≤ 140737488355328), pf (rfl : 1 = [encDe (chg (IntKind.i64.wrap v) ((IntKind.i64.wrap a).tmod 38400) (deAt l i.toNat))].length)] (by kernel_rfl) ?_
    refine run_nil (blockR_normal ?_)
    refine reg0 mix (by kernel_rfl) ?_
    refine run_nil (loopR_next (IntKind.i64.wrap (i - 1)) ?_ ?_ ?_)
    · rw [show or5 l c v' a' v a (IntKind.i64.wrap (i - 1)) (bk l v' a' (IntKind.i64.wrap (i - 1))).length (rowDe (bk l v' a' (IntKind.i64.wrap (i - 1)))) = or5 l c v' a' v a (IntKind.i64.wrap (i - 1)) ((bk l v' a' i).length + 1) (rowDe (bk l v' a' i) ++ [encDe (chg (IntKind.i64.wrap v) ((IntKind.i64.wrap a).tmod 38400) (deAt l i.toNat))]) by
        rw [e, hbs, List.length_append, rowDe_app, ← hv', ← ha']; rfl]
      exact wkTo [0, 1, 2, 7, 8, 10, 11] [12, 48] (by kernel_rfl)
    · rw [e]; omega
    · rw [e]; omega
  have hc : ¬ i ≥ 0 := of_decide_eq_false hc
  have hb1 : bk l v' a' i = l.reverse.map (chg v' a') := by rw [bk, show (i + 1).toNat = 0 by omega]; rfl
  rw [hb1]
  generalize hL : l.reverse.map (chg v' a') = L at c11'
  refine run_exit (loopR_exit (blockR_exit ?_))
  refine frzRow hB 10 1 L.length 32 5 (rowDe L) (elDe L) [7, 8] [] (by kernel_rfl) (by kernel_rfl) (rowDe_len _).symm (fun k hk => by simp [rowDe, elDe, List.getD_eq_getElem?_getD, hk]) (by kernel_rfl) ?_ (List.cons_ne_nil _ _)
  refine regC mix [(1, con c11')] (by kernel_rfl) ?_
  refine regI mix [(8, hcon c14)] [pf (fun _ : true = true => c14)] (by kernel_rfl) ?_
  exact run_ret (ret_of (.v (vB true)) (by kernel_rfl) rfl)
end
section
open Go.Sym

/-! ### The laws: frames -/
theorem cN_cons (d : De) (l : List De) (p : Pc) : cN (d :: l) p = (if d.pl = p then 1 else 0) + cN l p := by
  unfold cN
  rw [List.filter_cons]
  by_cases h : d.pl = p
  · simp [h]; omega
  · simp [h]
theorem cN_zero {l : List De} {p : Pc} (h : ∀ d, d ∈ l → d.pl ≠ p) : cN l p = 0 := by
  unfold cN
  rw [List.filter_eq_nil_iff.2 fun d hd => by simpa using h d hd]; rfl
theorem cN_one : ∀ {l : List De} {d : De}, (l.Pairwise fun a b => ltP a.pl b.pl = true) → d ∈ l → cN l d.pl = 1
  | x :: l, d, hs, hd => by
    rw [cN_cons]
    have hx := fun y hy => List.rel_of_pairwise_cons hs (a' := y) hy
    rcases List.mem_cons.1 hd with rfl | hd
    · rw [if_pos rfl, cN_zero fun y hy e => by have := hx y hy; rw [e, ltP_irrefl] at this; cases this]; rfl
    · have hne : ¬ x.pl = d.pl := fun e => by
        have := hx d hd
        rw [e, ltP_irrefl] at this; cases this
      rw [if_neg hne, cN_one (List.Pairwise.of_cons hs) hd]; rfl
def oneL (l : List De) : List Ta := l.map fun d => oneT d.pl
theorem rep_one {l : List De} (hs : l.Pairwise fun a b => ltP a.pl b.pl = true) : Rep (oneL l) (cN l) where
  strict := by rw [oneL, List.pairwise_map]; exact hs
  mem := fun x hx => by
    obtain ⟨d, hd, rfl⟩ := List.mem_map.1 hx
    rw [oneT_pl, cN_one hs hd]
    exact ⟨rfl, Int.le_refl _⟩
  all := fun p hp => by
    by_cases h : ∃ d, d ∈ l ∧ d.pl = p
    · obtain ⟨d, hd, e⟩ := h
      exact ⟨oneT d.pl, List.mem_map.2 ⟨d, hd, rfl⟩, e⟩
    · rw [cN_zero fun d hd e => h ⟨d, hd, e⟩] at hp; omega
theorem acc_strict (t f a : Int) (m : M4) (v : V4) (n : Nat) : (acc t f a m v n).Pairwise fun a b => ltP a.pl b.pl = true := by
  rw [acc, List.pairwise_map]
  refine (List.Pairwise.filter _ List.pairwise_lt_range).imp fun {i j} hij => ?_
  rw [lt_iff]
  refine .inr ⟨rfl, .inl ?_⟩
  show ((i : Nat) : Int) < ((j : Nat) : Int)
  omega
theorem acc_pre (t f a : Int) (m : M4) (v : V4) (i k : Nat) : ∃ r, acc t f a m v (i + k) = acc t f a m v i ++ r := by
  induction k with
  | zero => exact ⟨[], by simp⟩
  | succ k ih =>
    obtain ⟨r, hr⟩ := ih
    rw [← Nat.add_assoc, acc_succ, hr, List.append_assoc]
    exact ⟨_, rfl⟩
theorem acc_at {t f a : Int} {m : M4} {v : V4} {i : Nat} (hi : i < 4) (hm : m.at i = true) : (acc t f a m v i).length < (acc t f a m v 4).length ∧ (acc t f a m v 4).getD (acc t f a m v i).length zDe = dAt t f a v i := by
  obtain ⟨r, hr⟩ := acc_pre t f a m v (i + 1) (3 - i)
  rw [show i + 1 + (3 - i) = 4 by omega, acc_succ t f a m v i, hm, if_pos rfl] at hr
  rw [hr]
  simp [List.getD_eq_getElem?_getD]
theorem acc_mem {t f a : Int} {m : M4} {v : V4} {n : Nat} {d : De} (h : d ∈ acc t f a m v n) : ∃ i, i < n ∧ d = dAt t f a v i := by
  rw [acc] at h
  obtain ⟨i, hi, rfl⟩ := List.mem_map.1 h
  exact ⟨i, by simpa using (List.mem_filter.1 hi).1, rfl⟩
def fr3 (t f a : Int) (m : M4) (v : V4) (L : List De) (n i : Int) : S := mkS 109 [(0, .b (.v (vI t))), (1, .b (.v (vI f))), (2, .b (.v (vI a))), (8, .b (.v (.c (.kptr (encM m) 0)))), (9, .b (.v (.c (.kptr (encV v) 0)))), (11, .b (.v (vB true))), (12, .b (.v (lDe L))), (14, .b (.v (vI n))), (15, .b (.v (vI i)))] []
def fs3 (t f : Int) (L : List De) (c : List Ta) (i : Int) : S := mkS 109 [(0, .b (.v (vI t))), (1, .b (.v (vI f))), (11, .b (.v (vB true))), (12, .b (.v (lDe L))), (16, .b (.v (lTa c))), (18, .b (.v (vI i)))] []
theorem f3 (t f a : Int) (m : M4) (v : V4) : FCall Try.prog 3 [vI t, vI f, vI a, .agg (encM m), .agg (encV v)] (.v (vB true)) := by
  have c10 := f10 t f a m v
  refine fcall_of Try.func3 rfl (by kernel_rfl) (fun B hB => ?_)
  refine reg mix [(0, .imm), (1, .imm)] [] (by kernel_rfl) ?_
  refine regC mix [(0, con f9)] (by kernel_rfl) ?_
  by_cases hk : okL t f a v = true
  case neg =>
    rw [show lisR t f a m v = ([], 1) by rw [lisR, if_neg hk]] at c10
    refine regC mix [(5, con c10)] (by kernel_rfl) ?_
    refine reg0 mix (by kernel_rfl) ?_
    refine rCondT true (by kernel_rfl) rfl ?_
    refine reg0 mix (by kernel_rfl) ?_
    exact run_ret (ret_of (.v (vB true)) (by kernel_rfl) rfl)
  rw [show lisR t f a m v = (acc t f a m v 4, 0) by rw [lisR, if_pos hk]] at c10
  obtain ⟨L, hL⟩ : ∃ L, L = acc t f a m v 4 := ⟨_, rfl⟩
  have hLl : L.length ≤ 4 := by rw [hL]; exact acc_le t f a m v 4
  have hstr : L.Pairwise fun a b => ltP a.pl b.pl = true := by rw [hL]; exact acc_strict t f a m v 4
  have hall : L.all okDe = true := List.all_eq_true.2 fun d hd => by
    rw [hL] at hd
    obtain ⟨i, hi, rfl⟩ := acc_mem hd
    exact List.all_eq_true.1 hk i (by simpa using hi)
  have hdat : ∀ j, j < L.length → (deAt L j).t = t ∧ (deAt L j).f = f := fun j hj => by
    have : deAt L j ∈ L := by simp [deAt, List.getD_eq_getElem?_getD, hj]
    rw [hL] at this
    obtain ⟨i, _, e⟩ := acc_mem this
    rw [← hL] at e
    rw [e]; exact ⟨rfl, rfl⟩
  have c11 := f11 L
  rw [show cntR L = (oneL L, 0) by rw [cntR, if_neg (by omega), if_pos hall, (rep_one hstr).eq (cnt_rep L (by omega))]] at c11
  rw [← hL] at c10
  refine regC mix [(5, con c10)] (by kernel_rfl) ?_
  refine reg0 mix (by kernel_rfl) ?_
  refine rCondF false (by kernel_rfl) rfl ?_
  refine reg0 mix (by kernel_rfl) ?_
  refine reg0 mix (by kernel_rfl) ?_
  refine rBlock ?_
  refine rLoop (fun i : Nat => fr3 t f a m v L (acc t f a m v i).length i) (fun i => i ≤ 4) (fun i => 4 - i) 0 (wkTo [0, 1, 2, 8, 9, 11, 12, 14, 15] [] (by kernel_rfl)) (by omega) ?_
  rintro i h1
  refine reg0 mix (by kernel_rfl) ?_
  rcases (by omega : i = 0 ∨ i = 1 ∨ i = 2 ∨ i = 3 ∨ i = 4) with rfl | rfl | rfl | rfl | rfl
  · refine rCondT true (by kernel_rfl) rfl ?_
    have h4 : (0 : Int) ≤ 0 ∧ (0 : Int) < 4 := by omega
    have hsu := acc_succ t f a m v 0
    have hle := acc_le t f a m v 0
    refine rJoin (fun _ : Unit => fr3 t f a m v L (acc t f a m v 1).length 0) (fun _ => True) (List.cons_ne_nil _ _) ?_ ?_
    · refine rBlock ?_
      refine reg mix [] [pf h4] (by kernel_rfl) ?_
      refine rCond (!m.a) (by kernel_rfl) (fun hm => ?_) (fun hm => ?_)
      · have e : acc t f a m v 1 = acc t f a m v 0 := by rw [hsu, if_neg (show ¬ m.at 0 = true by rw [show m.at 0 = false from (by simpa using hm : m.a = false)]; exact Bool.false_ne_true), List.append_nil]
        refine run_exit (blockR_exit (run_nil (joined () trivial ?_)))
        rw [e]
        exact wkTo [0, 1, 2, 8, 9, 11, 12, 14, 15] [] (by kernel_rfl)
      have hmt : m.at 0 = true := (by simpa using hm : m.a = true)
      have e : acc t f a m v 1 = acc t f a m v 0 ++ [dAt t f a v 0] := by rw [hsu, if_pos hmt]
      obtain ⟨hlt, hat⟩ := acc_at (t := t) (f := f) (a := a) (v := v) (m := m) (i := 0) (by omega) hmt
      rw [← hL] at hlt hat
      have hq : (!decide (((acc t f a m v 0).length : Int) ≥ (L.length : Int))) = true → 0 ≤ ((acc t f a m v 0).length : Int) ∧ ((acc t f a m v 0).length : Int) < (L.length : Int) := fun _ => by omega
      refine regI mix [] [pf hq, pf (fun _ : (!decide (((acc t f a m v 0).length : Int) ≥ (L.length : Int))) = true => h4), pf (fun _ : (!decide (((acc t f a m v 0).length : Int) ≥ (L.length : Int))) = true => eqDe)] (by kernel_rfl) ?_
      refine rCondF (decide (((acc t f a m v 0).length : Int) ≥ (L.length : Int)) || !eqDeB (L.getD (acc t f a m v 0).length zDe) (dAt t f a v 0)) (by kernel_rfl) ?_ ?_
      · rw [hat, eqDeB_iff.2 rfl, decide_eq_false (by omega)]; rfl
      refine reg0 mix (by kernel_rfl) ?_
      refine run_nil (blockR_normal (run_nil (joined () trivial ?_)))
      have en : (((acc t f a m v 1).length : Nat) : Int) = IntKind.i64.wrap (((acc t f a m v 0).length : Nat) + 1) := by
        rw [e, List.length_append, List.length_singleton, w64 _ (by omega) (by omega)]; rfl
      rw [en]
      exact wkTo [0, 1, 2, 8, 9, 11, 12, 14, 15] [] (by kernel_rfl)
    · rintro _ _
      refine reg0 mix (by kernel_rfl) ?_
      exact run_nil (loopR_next (1 : Nat) (wkTo [0, 1, 2, 8, 9, 11, 12, 14, 15] [] (by kernel_rfl)) (by omega) (by omega))
  · refine rCondT true (by kernel_rfl) rfl ?_
    have h4 : (0 : Int) ≤ 1 ∧ (1 : Int) < 4 := by omega
    have hsu := acc_succ t f a m v 1
    have hle := acc_le t f a m v 1
    refine rJoin (fun _ : Unit => fr3 t f a m v L (acc t f a m v 2).length 1) (fun _ => True) (List.cons_ne_nil _ _) ?_ ?_
    · refine rBlock ?_
      refine reg mix [] [pf h4] (by kernel_rfl) ?_
      refine rCond (!m.b) (by kernel_rfl) (fun hm => ?_) (fun hm => ?_)
      · have e : acc t f a m v 2 = acc t f a m v 1 := by rw [hsu, if_neg (show ¬ m.at 1 = true by rw [show m.at 1 = false from (by simpa using hm : m.b = false)]; exact Bool.false_ne_true), List.append_nil]
        refine run_exit (blockR_exit (run_nil (joined () trivial ?_)))
        rw [e]
        exact wkTo [0, 1, 2, 8, 9, 11, 12, 14, 15] [] (by kernel_rfl)
      have hmt : m.at 1 = true := (by simpa using hm : m.b = true)
      have e : acc t f a m v 2 = acc t f a m v 1 ++ [dAt t f a v 1] := by rw [hsu, if_pos hmt]
      obtain ⟨hlt, hat⟩ := acc_at (t := t) (f := f) (a := a) (v := v) (m := m) (i := 1) (by omega) hmt
      rw [← hL] at hlt hat
      have hq : (!decide (((acc t f a m v 1).length : Int) ≥ (L.length : Int))) = true → 0 ≤ ((acc t f a m v 1).length : Int) ∧ ((acc t f a m v 1).length : Int) < (L.length : Int) := fun _ => by omega
      refine regI mix [] [pf hq, pf (fun _ : (!decide (((acc t f a m v 1).length : Int) ≥ (L.length : Int))) = true => h4), pf (fun _ : (!decide (((acc t f a m v 1).length : Int) ≥ (L.length : Int))) = true => eqDe)] (by kernel_rfl) ?_
      refine rCondF (decide (((acc t f a m v 1).length : Int) ≥ (L.length : Int)) || !eqDeB (L.getD (acc t f a m v 1).length zDe) (dAt t f a v 1)) (by kernel_rfl) ?_ ?_
      · rw [hat, eqDeB_iff.2 rfl, decide_eq_false (by omega)]; rfl
      refine reg0 mix (by kernel_rfl) ?_
      refine run_nil (blockR_normal (run_nil (joined () trivial ?_)))
      have en : (((acc t f a m v 2).length : Nat) : Int) = IntKind.i64.wrap (((acc t f a m v 1).length : Nat) + 1) := by
        rw [e, List.length_append, List.length_singleton, w64 _ (by omega) (by omega)]; rfl
      rw [en]
      exact wkTo [0, 1, 2, 8, 9, 11, 12, 14, 15] [] (by kernel_rfl)
    · rintro _ _
      refine reg0 mix (by kernel_rfl) ?_
      exact run_nil (loopR_next (2 : Nat) (wkTo [0, 1, 2, 8, 9, 11, 12, 14, 15] [] (by kernel_rfl)) (by omega) (by omega))
  · refine rCondT true (by kernel_rfl) rfl ?_
    have h4 : (0 : Int) ≤ 2 ∧ (2 : Int) < 4 := by omega
    have hsu := acc_succ t f a m v 2
    have hle := acc_le t f a m v 2
    refine rJoin (fun _ : Unit => fr3 t f a m v L (acc t f a m v 3).length 2) (fun _ => True) (List.cons_ne_nil _ _) ?_ ?_
    · refine rBlock ?_
      refine reg mix [] [pf h4] (by kernel_rfl) ?_
      refine rCond (!m.c) (by kernel_rfl) (fun hm => ?_) (fun hm => ?_)
      · have e : acc t f a m v 3 = acc t f a m v 2 := by rw [hsu, if_neg (show ¬ m.at 2 = true by rw [show m.at 2 = false from (by simpa using hm : m.c = false)]; exact Bool.false_ne_true), List.append_nil]
        refine run_exit (blockR_exit (run_nil (joined () trivial ?_)))
        rw [e]
        exact wkTo [0, 1, 2, 8, 9, 11, 12, 14, 15] [] (by kernel_rfl)
      have hmt : m.at 2 = true := (by simpa using hm : m.c = true)
      have e : acc t f a m v 3 = acc t f a m v 2 ++ [dAt t f a v 2] := by rw [hsu, if_pos hmt]
      obtain ⟨hlt, hat⟩ := acc_at (t := t) (f := f) (a := a) (v := v) (m := m) (i := 2) (by omega) hmt
      rw [← hL] at hlt hat
      have hq : (!decide (((acc t f a m v 2).length : Int) ≥ (L.length : Int))) = true → 0 ≤ ((acc t f a m v 2).length : Int) ∧ ((acc t f a m v 2).length : Int) < (L.length : Int) := fun _ => by omega
      refine regI mix [] [pf hq, pf (fun _ : (!decide (((acc t f a m v 2).length : Int) ≥ (L.length : Int))) = true => h4), pf (fun _ : (!decide (((acc t f a m v 2).length : Int) ≥ (L.length : Int))) = true => eqDe)] (by kernel_rfl) ?_
      refine rCondF (decide (((acc t f a m v 2).length : Int) ≥ (L.length : Int)) || !eqDeB (L.getD (acc t f a m v 2).length zDe) (dAt t f a v 2)) (by kernel_rfl) ?_ ?_
      · rw [hat, eqDeB_iff.2 rfl, decide_eq_false (by omega)]; rfl
      refine reg0 mix (by kernel_rfl) ?_
      refine run_nil (blockR_normal (run_nil (joined () trivial ?_)))
      have en : (((acc t f a m v 3).length : Nat) : Int) = IntKind.i64.wrap (((acc t f a m v 2).length : Nat) + 1) := by
        rw [e, List.length_append, List.length_singleton, w64 _ (by omega) (by omega)]; rfl
      rw [en]
      exact wkTo [0, 1, 2, 8, 9, 11, 12, 14, 15] [] (by kernel_rfl)
    · rintro _ _
      refine reg0 mix (by kernel_rfl) ?_
      exact run_nil (loopR_next (3 : Nat) (wkTo [0, 1, 2, 8, 9, 11, 12, 14, 15] [] (by kernel_rfl)) (by omega) (by omega))
  · refine rCondT true (by kernel_rfl) rfl ?_
    have h4 : (0 : Int) ≤ 3 ∧ (3 : Int) < 4 := by omega
    have hsu := acc_succ t f a m v 3
    have hle := acc_le t f a m v 3
    refine rJoin (fun _ : Unit => fr3 t f a m v L (acc t f a m v 4).length 3) (fun _ => True) (List.cons_ne_nil _ _) ?_ ?_
    · refine rBlock ?_
      refine reg mix [] [pf h4] (by kernel_rfl) ?_
      refine rCond (!m.d) (by kernel_rfl) (fun hm => ?_) (fun hm => ?_)
      · have e : acc t f a m v 4 = acc t f a m v 3 := by rw [hsu, if_neg (show ¬ m.at 3 = true by rw [show m.at 3 = false from (by simpa using hm : m.d = false)]; exact Bool.false_ne_true), List.append_nil]
        refine run_exit (blockR_exit (run_nil (joined () trivial ?_)))
        rw [e]
        exact wkTo [0, 1, 2, 8, 9, 11, 12, 14, 15] [] (by kernel_rfl)
      have hmt : m.at 3 = true := (by simpa using hm : m.d = true)
      have e : acc t f a m v 4 = acc t f a m v 3 ++ [dAt t f a v 3] := by rw [hsu, if_pos hmt]
      obtain ⟨hlt, hat⟩ := acc_at (t := t) (f := f) (a := a) (v := v) (m := m) (i := 3) (by omega) hmt
      rw [← hL] at hlt hat
      have hq : (!decide (((acc t f a m v 3).length : Int) ≥ (L.length : Int))) = true → 0 ≤ ((acc t f a m v 3).length : Int) ∧ ((acc t f a m v 3).length : Int) < (L.length : Int) := fun _ => by omega
      refine regI mix [] [pf hq, pf (fun _ : (!decide (((acc t f a m v 3).length : Int) ≥ (L.length : Int))) = true => h4), pf (fun _ : (!decide (((acc t f a m v 3).length : Int) ≥ (L.length : Int))) = true => eqDe)] (by kernel_rfl) ?_
      refine rCondF (decide (((acc t f a m v 3).length : Int) ≥ (L.length : Int)) || !eqDeB (L.getD (acc t f a m v 3).length zDe) (dAt t f a v 3)) (by kernel_rfl) ?_ ?_
      · rw [hat, eqDeB_iff.2 rfl, decide_eq_false (by omega)]; rfl
      refine reg0 mix (by kernel_rfl) ?_
      refine run_nil (blockR_normal (run_nil (joined () trivial ?_)))
      have en : (((acc t f a m v 4).length : Nat) : Int) = IntKind.i64.wrap (((acc t f a m v 3).length : Nat) + 1) := by
        rw [e, List.length_append, List.length_singleton, w64 _ (by omega) (by omega)]; rfl
      rw [en]
      exact wkTo [0, 1, 2, 8, 9, 11, 12, 14, 15] [] (by kernel_rfl)
    · rintro _ _
      refine reg0 mix (by kernel_rfl) ?_
      exact run_nil (loopR_next (4 : Nat) (wkTo [0, 1, 2, 8, 9, 11, 12, 14, 15] [] (by kernel_rfl)) (by omega) (by omega))
  refine rCondF false (by kernel_rfl) rfl ?_
  rw [← hL]
  refine run_exit (loopR_exit (blockR_exit ?_))
  have hol : (oneL L).length = L.length := by simp [oneL]
  refine regC mix [(1, con c11)] (by kernel_rfl) ?_
  refine reg0 mix (by kernel_rfl) ?_
  refine rCondF ((((L.length : Int) != (L.length : Int)) || false) || (((oneL L).length : Int) != (L.length : Int))) (by kernel_rfl) (by rw [hol]; simp) ?_
  refine reg0 mix (by kernel_rfl) ?_
  refine rBlock ?_
  refine rLoop (fs3 t f L (oneL L)) (fun i => 0 ≤ i ∧ i ≤ L.length) (fun i => (L.length - i).toNat) 0 (wkTo [0, 1, 11, 12, 16, 18] [] (by kernel_rfl)) ⟨by omega, by omega⟩ ?_
  rintro i ⟨h0, h1⟩
  refine reg0 mix (by kernel_rfl) ?_
  refine rCond (decide (i < ((oneL L).length : Int))) (by kernel_rfl) (fun hc => ?_) (fun hc => ?_)
  · have hc : i < ((oneL L).length : Int) := of_decide_eq_true hc
    have e : IntKind.i64.wrap (i + 1) = i + 1 := w64 _ (by omega) (by omega)
    have hi : 0 ≤ i ∧ i < ((oneL L).length : Int) := ⟨h0, hc⟩
    have hi2 : 0 ≤ i ∧ i < (L.length : Int) := ⟨h0, by omega⟩
    refine rBlock ?_
    refine reg mix [] [pf hi, pf hi2, pf eqTa] (by kernel_rfl) ?_
    refine rCondF (!eqTaB ((oneL L).getD i.toNat zTa) ⟨t, (deAt L i.toNat).c, f, 1⟩) (by kernel_rfl) ?_ ?_
    · have hlt : i.toNat < L.length := by omega
      obtain ⟨g1, g2⟩ := hdat i.toNat hlt
      have : (oneL L).getD i.toNat zTa = ⟨t, (deAt L i.toNat).c, f, 1⟩ := by
        rw [← g1, ← g2]
        simp [oneL, deAt, List.getD_eq_getElem?_getD, hlt, oneT, De.pl]
      rw [this, eqTaB_iff.2 rfl]; rfl
    refine run_nil (blockR_normal ?_)
    refine reg0 mix (by kernel_rfl) ?_
    refine run_nil (loopR_next (IntKind.i64.wrap (i + 1)) (wkTo [0, 1, 11, 12, 16, 18] [] (by kernel_rfl)) ?_ ?_)
    · rw [e]; exact ⟨by omega, by omega⟩
    · rw [e]; omega
  refine run_exit (loopR_exit (blockR_exit ?_))
  refine reg0 mix (by kernel_rfl) ?_
  exact run_ret (ret_of (.v (vB true)) (by kernel_rfl) rfl)
end
end Go.Proofs.Ytaaplpbjjnechaa
