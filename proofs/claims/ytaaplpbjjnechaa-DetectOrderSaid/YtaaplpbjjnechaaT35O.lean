import Derived.Test.YtaaplpbjjnechaaT35N
namespace Go.Proofs.Ytaaplpbjjnechaa
open Go.Sym
set_option linter.unusedVariables false
set_option linter.unusedSimpArgs false

/-! ### The laws: the examples, counts, order -/
def wantL : List De := [⟨7, 0, 1, 10, 5⟩, ⟨7, 3, 1, 40, 5⟩]
def wantL3 : List De := [⟨7, 0, 1, 10, 5⟩, ⟨7, 3, 1, 40, 5⟩, ⟨7, 0, 1, 99, 6⟩]
def wantT : List Ta := [⟨7, 0, 1, 2⟩, ⟨7, 3, 1, 1⟩]
theorem f9 : FCall Try.prog 9 [] (.v (vB true)) := by
  have c10 := f10 7 1 5 ⟨true, false, false, true⟩ ⟨10, 0, 0, 40⟩
  rw [show lisR 7 1 5 ⟨true, false, false, true⟩ ⟨10, 0, 0, 40⟩ = (wantL, 0) by kernel_rfl] at c10
  have c11 := f11 wantL3
  rw [show cntR wantL3 = (wantT, 0) by kernel_rfl] at c11
  have c19 := f19 wantT 2 (by decide)
  rw [show conR wantT 2 = ([⟨7, 0, 1, 2⟩], 0) by kernel_rfl] at c19
  have d10 := f10 512 1 5 ⟨false, false, false, false⟩ ⟨0, 0, 0, 0⟩
  rw [show lisR 512 1 5 ⟨false, false, false, false⟩ ⟨0, 0, 0, 0⟩ = ([], 1) by kernel_rfl] at d10
  have c21 := f21 wantL wantL (by decide)
  rw [decide_eq_true rfl] at c21
  have c14 := f14 wantT wantT (by decide)
  rw [decide_eq_true rfl] at c14
  have d14 := f14 [⟨7, 0, 1, 2⟩] [⟨7, 0, 1, 2⟩] (by decide)
  rw [decide_eq_true rfl] at d14
  have e14 : FCall Try.prog 14 [lTa [⟨7, 0, 1, 2⟩], .c (.lst 4 1 (elTa wantT))] (.v (vB true)) := d14.of_le ⟨CVle.refl _, CVle.lst (fun i hi => by
    match i, hi with
    | 0, _ => rfl), trivial⟩
  refine fcall_of Try.func9 rfl (by kernel_rfl) (fun B hB => ?_)
  refine reg0 mix (by kernel_rfl) ?_
  refine reg mix [(2, hcon c10)] [pf c10] (by kernel_rfl) ?_
  refine reg mix [(2, .frz 2 (elDe wantL))] [pf ((⟨rfl, fun i hi => by
    match i, hi with
    | 0, _ => rfl
    | 1, _ => rfl⟩) : 2 = 2 ∧ ∀ i, i < 2 → elDe wantL i = [encDe ⟨7, 0, 1, 10, 5⟩, encDe ⟨7, 3, 1, 40, 5⟩].getD i [])] (by kernel_rfl) ?_
  refine regF hB mix [(5, .frzA 3 (elDe wantL3)), (6, hcon c11)]
    [pf (rfl : 0 = ([] : List (List C)).length), pf (by decide : (0 + 2) * 41 ≤ 140737488355328), pf (rfl : 0 + 2 = (([] : List (List C)) ++ (List.range 2).map (elDe wantL)).length), pf (by decide : (0 + 2 + 1) * 41 ≤ 140737488355328),
     pf (⟨rfl, fun i hi => by
      match i, hi with
      | 0, _ => rfl
      | 1, _ => rfl
      | 2, _ => rfl⟩ : 3 = 0 + 2 + 1 ∧ ∀ i, i < 3 → elDe wantL3 i = ((([] : List (List C)) ++ (List.range 2).map (elDe wantL)) ++ [encDe ⟨7, 0, 1, 99, 6⟩]).getD i []), pf (rfl : 1 = [encDe ⟨7, 0, 1, 99, 6⟩].length), pf c11] (by kernel_rfl) ?_
  refine reg mix [(2, .frz 2 (elTa wantT))] [pf ((⟨rfl, fun i hi => by
    match i, hi with
    | 0, _ => rfl
    | 1, _ => rfl⟩) : 2 = 2 ∧ ∀ i, i < 2 → elTa wantT i = [encTa ⟨7, 0, 1, 2⟩, encTa ⟨7, 3, 1, 1⟩].getD i [])] (by kernel_rfl) ?_
  refine reg mix [(1, hcon c19)] [pf c19] (by kernel_rfl) ?_
  refine reg mix [(2, hcon d10)] [pf d10] (by kernel_rfl) ?_
  refine regI mix [(5, hcon c21), (14, hcon c14), (24, .call (.v (vB true)))] [pf (fun _ : true = true => c21), pf (fun _ : true = true => c14), pf (fun _ : true = true => (by decide : (0 : Int) ≤ 1 ∧ (1 : Int) ≤ ((2 : Nat) : Int))), pf (fun _ : true = true => e14)] (by kernel_rfl) ?_
  exact run_ret (ret_of (.v (vB true)) (by kernel_rfl) rfl)

theorem CVle.nil (sz : Nat) (f : Nat → List C) : CVle (.c .nil) (.c (.lst sz 0 f)) := fun K v h => by
  obtain ⟨h1, h2⟩ := h
  cases h1
  exact ⟨RelK.lst0 sz f, rfl⟩
/-! #### Counts -/
def tot : List Ta → Int
  | [] => 0
  | x :: t => x.n + tot t
theorem tot_app : ∀ (a b : List Ta), tot (a ++ b) = tot a + tot b
  | [], b => by simp [tot]
  | x :: a, b => by rw [List.cons_append, tot, tot, tot_app a b]; omega
theorem tot_insR : ∀ (t : List Ta) (p : Pc), (∀ x, x ∈ t → 1 ≤ x.n ∧ x.n ≤ 1000000) → tot (insR t p) = tot t + 1
  | [], p, _ => rfl
  | x :: t, p, h => by
    rw [insR]
    split
    · rw [tot, tot, tot_insR t p fun y hy => h y (List.mem_cons_of_mem _ hy)]; omega
    · split
      · simp only [tot, oneT]; omega
      · have h1 := h x List.mem_cons_self
        have : (upT x).n = x.n + 1 := w64 _ (by omega) (by omega)
        rw [tot, tot, this]; omega
theorem tot_cnt (l : List De) (hl : l.length ≤ 1000000) : tot (cnt l) = l.length := by
  induction l using snoc_ind with
  | h0 => rfl
  | h1 l d ih =>
    rw [List.length_append, List.length_singleton] at hl
    have hr := cnt_rep l (by omega)
    rw [cnt_snoc, insT_R, tot_insR _ _ fun x hx => ?_, ih (by omega)]
    · simp
    · have := hr.mem x hx
      have h2 := cN_le l x.pl
      omega
theorem taAt_mem {l : List Ta} {i : Nat} (h : i < l.length) : taAt l i ∈ l := by simp [taAt, List.getD_eq_getElem?_getD, h]
theorem take_snocT {l : List Ta} {i : Nat} (h : i < l.length) : l.take (i + 1) = l.take i ++ [taAt l i] := by
  rw [List.take_succ_eq_append_getElem h]
  simp [taAt, List.getD_eq_getElem?_getD, h]
theorem tot_take {l : List Ta} {i : Nat} (h : i < l.length) : tot (l.take (i + 1)) = tot (l.take i) + (taAt l i).n := by
  rw [take_snocT h, tot_app]; simp [tot]
theorem strict_at {t : List Ta} (h : t.Pairwise fun a b => ltP a.pl b.pl = true) {i j : Nat} (hij : i < j) (hj : j < t.length) : ltP (taAt t i).pl (taAt t j).pl = true := by
  have := List.pairwise_iff_getElem.1 h i j (by omega) hj hij
  simpa [taAt, List.getD_eq_getElem?_getD, hj, show i < t.length by omega] using this
def samePl (d : De) (x : Ta) : Bool := ((d.t == x.t) && (d.c == x.c)) && (d.f == x.f)
theorem samePl_iff {d : De} {x : Ta} : samePl d x = decide (d.pl = x.pl) := by
  rw [Bool.eq_iff_iff]
  simp [samePl, De.pl, Ta.pl, and_assoc]
theorem cN_take {l : List De} {k : Nat} (h : k < l.length) (p : Pc) : cN (l.take (k + 1)) p = if decide ((deAt l k).pl = p) = true then cN (l.take k) p + 1 else cN (l.take k) p := by
  rw [take_snocD h, cN_snoc, bump]
  by_cases e : p = (deAt l k).pl
  · rw [if_pos e, if_pos (by rw [decide_eq_true_eq]; exact e.symm)]
  · rw [if_neg e, if_neg (by rw [decide_eq_true_eq]; exact fun h => e h.symm)]
def ou4 (l : List De) (c : List Ta) (x : Int × Int) : S := mkS 117 [(0, .b (.v (lDe l))), (3, .b (.v (vB true))), (4, .b (.v (lTa c))), (6, .b (.v (vI x.2))), (7, .b (.v (vI x.1)))] []
def in4 (l : List De) (c : List Ta) (i s : Int) (x : Int × Int) : S := mkS 117 [(0, .b (.v (lDe l))), (3, .b (.v (vB true))), (4, .b (.v (lTa c))), (6, .b (.v (vI s))), (7, .b (.v (vI i))), (8, .b (.v (vI x.2))), (9, .b (.v (vI x.1)))] []
theorem f4 (l : List De) : FCall Try.prog 4 [lDe l] (.v (vB true)) := by
  have c12 : FCall Try.prog 12 [lDe l, .c .nil] (.v (vB (fewB l []))) := (f12 l []).of_le ⟨CVle.refl _, CVle.nil _ _, trivial⟩
  have c11 := f11 l
  refine fcall_of Try.func4 rfl (by kernel_rfl) (fun B hB => ?_)
  refine reg0 mix (by kernel_rfl) ?_
  refine regC mix [(0, con f9)] (by kernel_rfl) ?_
  refine regC mix [(1, con c12)] (by kernel_rfl) ?_
  refine rCond (!fewB l []) (by kernel_rfl) (fun h => ?_) (fun h => ?_)
  · refine reg0 mix (by kernel_rfl) ?_
    exact run_ret (ret_of (.v (vB true)) (by kernel_rfl) rfl)
  by_cases he : (cntR l).2 = 0
  case neg =>
    have hc0 : (cntR l).1 = [] := by
      unfold cntR at he ⊢
      split
      · rfl
      · split
        · rename_i h1 h2; rw [if_neg h1, if_pos h2] at he; exact absurd rfl he
        · rfl
    rw [hc0] at c11
    generalize (cntR l).2 = e at c11 he
    refine regC mix [(1, con c11)] (by kernel_rfl) ?_
    refine reg0 mix (by kernel_rfl) ?_
    refine rCond (e != 0) (by kernel_rfl) (fun h => ?_) (fun h => ?_)
    · refine reg0 mix (by kernel_rfl) ?_
      exact run_ret (ret_of (.v (vB true)) (by kernel_rfl) rfl)
    · exact absurd (by simpa using h) he
  have hR : l.length ≤ 1000 ∧ (cntR l).1 = cnt l := by
    unfold cntR at he ⊢
    split
    · rename_i h1; rw [if_pos h1] at he; cases he
    · rename_i h1
      rw [if_neg h1] at he
      refine ⟨by omega, ?_⟩
      split
      · rfl
      · rename_i h2; rw [if_neg h2] at he; cases he
  obtain ⟨hl, hR⟩ := hR
  rw [he, hR] at c11
  have hrep := cnt_rep l (by omega)
  have htot := tot_cnt l (by omega)
  have hcl := cnt_len l
  generalize cnt l = c at c11 hrep htot hcl
  have hmem : ∀ i, i < c.length → (taAt c i).n = cN l (taAt c i).pl ∧ 1 ≤ (taAt c i).n := fun i hi => hrep.mem _ (taAt_mem hi)
  refine regC mix [(1, con c11)] (by kernel_rfl) ?_
  refine reg0 mix (by kernel_rfl) ?_
  refine rCondF false (by kernel_rfl) rfl ?_
  refine reg0 mix (by kernel_rfl) ?_
  refine reg0 mix (by kernel_rfl) ?_
  refine rBlock ?_
  refine rLoop (ou4 l c) (fun x => 0 ≤ x.1 ∧ x.1 ≤ c.length ∧ x.2 = tot (c.take x.1.toNat) ∧ 0 ≤ x.2 ∧ x.2 ≤ 1000 * x.1) (fun x => (c.length - x.1).toNat) (0, 0) (wkTo [0, 3, 4, 6, 7] [] (by kernel_rfl)) ⟨by simp, by simp, rfl, by simp, by simp⟩ ?_
  rintro ⟨i, s⟩ ⟨h0, h1, hs, hs0, hs1⟩
  simp only at h0 h1 hs hs0 hs1
  refine reg0 mix (by kernel_rfl) ?_
  refine rCond (decide (i < (c.length : Int))) (by kernel_rfl) (fun hc => ?_) (fun hc => ?_)
  · have hc : i < c.length := of_decide_eq_true hc
    have e : IntKind.i64.wrap (i + 1) = i + 1 := w64 _ (by omega) (by omega)
    have hi : 0 ≤ i ∧ i < (c.length : Int) := ⟨h0, hc⟩
    obtain ⟨hn1, hn2⟩ := hmem i.toNat (by omega)
    have hnle := cN_le l (taAt c i.toNat).pl
    refine rBlock ?_
    refine reg0 mix (by kernel_rfl) ?_
    refine reg0 mix (by kernel_rfl) ?_
    refine rBlock ?_
    refine rLoop (in4 l c i s) (fun x => 0 ≤ x.1 ∧ x.1 ≤ l.length ∧ x.2 = cN (l.take x.1.toNat) (taAt c i.toNat).pl) (fun x => (l.length - x.1).toNat) (0, 0) (wkTo [0, 3, 4, 6, 7, 8, 9] [] (by kernel_rfl)) ⟨by simp, by simp, rfl⟩ ?_
    rintro ⟨k, n⟩ ⟨g0, g1, hn⟩
    simp only at g0 g1 hn
    refine reg0 mix (by kernel_rfl) ?_
    refine rCond (decide (k < (l.length : Int))) (by kernel_rfl) (fun hd => ?_) (fun hd => ?_)
    · have hd : k < l.length := of_decide_eq_true hd
      have e' : IntKind.i64.wrap (k + 1) = k + 1 := w64 _ (by omega) (by omega)
      have hk : 0 ≤ k ∧ k < (l.length : Int) := ⟨g0, hd⟩
      have hb : 0 ≤ n ∧ n ≤ 1000 := by
        have := cN_le (l.take k.toNat) (taAt c i.toNat).pl
        rw [List.length_take] at this
        rw [hn]; omega
      have en : IntKind.i64.wrap (n + 1) = n + 1 := w64 _ (by omega) (by omega)
      have htk := cN_take (l := l) (k := k.toNat) (by omega) (taAt c i.toNat).pl
      refine rJoin (fun m : Int => in4 l c i s (k, m)) (fun m => m = cN (l.take (k.toNat + 1)) (taAt c i.toNat).pl) (List.cons_ne_nil _ _) ?_ ?_
      · refine rBlock ?_
        refine regI mix [] [pf (fun _ : true = true => hk), pf (fun _ : true = true => hi), pf (fun _ : ((deAt l k.toNat).t == (taAt c i.toNat).t) = true => hk), pf (fun _ : ((deAt l k.toNat).t == (taAt c i.toNat).t) = true => hi),
          pf (fun _ : (((deAt l k.toNat).t == (taAt c i.toNat).t) && ((deAt l k.toNat).c == (taAt c i.toNat).c)) = true => hk), pf (fun _ : (((deAt l k.toNat).t == (taAt c i.toNat).t) && ((deAt l k.toNat).c == (taAt c i.toNat).c)) = true => hi)] (by kernel_rfl) ?_
        refine rCond (samePl (deAt l k.toNat) (taAt c i.toNat)) (by kernel_rfl) (fun h => ?_) (fun h => ?_)
        · refine reg0 mix (by kernel_rfl) ?_
          refine run_nil (blockR_normal (run_nil (joined (IntKind.i64.wrap (n + 1)) ?_ (wkTo [0, 3, 4, 6, 7, 8, 9] [] (by kernel_rfl)))))
          rw [en, htk, if_pos (by rw [← samePl_iff]; exact h), hn]
        · refine run_nil (blockR_normal (run_nil (joined n ?_ (wkTo [0, 3, 4, 6, 7, 8, 9] [] (by kernel_rfl)))))
          rw [htk, if_neg (by rw [← samePl_iff, h]; exact Bool.false_ne_true), hn]
      · rintro m hm
        refine reg0 mix (by kernel_rfl) ?_
        refine run_nil (loopR_next (IntKind.i64.wrap (k + 1), m) (wkTo [0, 3, 4, 6, 7, 8, 9] [] (by kernel_rfl)) ?_ ?_)
        · rw [e']
          exact ⟨by simp only; omega, by simp only; omega, by simp only; rw [hm, show (k + 1).toNat = k.toNat + 1 by omega]⟩
        · rw [e']; simp only; omega
    have hd : ¬ k < l.length := of_decide_eq_false hd
    rw [List.take_of_length_le (by omega), ← hn1] at hn
    subst hn
    refine run_exit (loopR_exit (blockR_exit ?_))
    have c13 := f13 (taAt c (IntKind.i64.wrap (i - 1)).toNat) (taAt c i.toNat)
    have hp : ((!(((taAt c i.toNat).n != (taAt c i.toNat).n) || decide ((taAt c i.toNat).n < 1))) && decide (i > 0)) = true → 0 ≤ IntKind.i64.wrap (i - 1) ∧ IntKind.i64.wrap (i - 1) < (c.length : Int) := fun h => by
      have := of_decide_eq_true (Bool.and_eq_true_iff.1 h).2
      rw [w64 _ (by omega) (by omega)]; omega
    refine regI mix [(24, hcon c13)] [pf (fun _ : true = true => hi), pf hp, pf (fun _ : ((!(((taAt c i.toNat).n != (taAt c i.toNat).n) || decide ((taAt c i.toNat).n < 1))) && decide (i > 0)) = true => hi), pf (fun _ : ((!(((taAt c i.toNat).n != (taAt c i.toNat).n) || decide ((taAt c i.toNat).n < 1))) && decide (i > 0)) = true => c13)] (by kernel_rfl) ?_
    refine rCondF ((((taAt c i.toNat).n != (taAt c i.toNat).n) || decide ((taAt c i.toNat).n < 1)) || (decide (i > 0) && !ltP (taAt c (IntKind.i64.wrap (i - 1)).toNat).pl (taAt c i.toNat).pl)) (by kernel_rfl) ?_ ?_
    · rw [decide_eq_false (show ¬ (taAt c i.toNat).n < 1 by omega), bne_self_eq_false]
      by_cases hz : i > 0
      · rw [w64 _ (by omega) (by omega), strict_at hrep.strict (i := (i - 1).toNat) (j := i.toNat) (by omega) (by omega)]; simp
      · rw [decide_eq_false hz]; rfl
    refine reg0 mix (by kernel_rfl) ?_
    have hst := tot_take (l := c) (i := i.toNat) (by omega)
    have es : IntKind.i64.wrap (s + (taAt c i.toNat).n) = s + (taAt c i.toNat).n := w64 _ (by omega) (by omega)
    refine run_nil (blockR_normal ?_)
    refine reg0 mix (by kernel_rfl) ?_
    refine run_nil (loopR_next (IntKind.i64.wrap (i + 1), IntKind.i64.wrap (s + (taAt c i.toNat).n)) (wkTo [0, 3, 4, 6, 7] [] (by kernel_rfl)) ?_ ?_)
    · rw [e, es]
      refine ⟨by simp only; omega, by simp only; omega, ?_, by simp only; omega, by simp only; omega⟩
      simp only
      rw [show (i + 1).toNat = i.toNat + 1 by omega, hst, hs]
    · rw [e]; simp only; omega
  have hc : ¬ i < c.length := of_decide_eq_false hc
  rw [List.take_of_length_le (by omega), htot] at hs
  refine run_exit (loopR_exit (blockR_exit ?_))
  refine reg0 mix (by kernel_rfl) ?_
  refine run_ret (ret_of (.v (vB (true && (s == (l.length : Int))))) (by kernel_rfl) ?_)
  rw [hs]; simp
end Go.Proofs.Ytaaplpbjjnechaa
