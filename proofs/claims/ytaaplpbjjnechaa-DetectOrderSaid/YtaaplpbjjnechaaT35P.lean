import Derived.Test.YtaaplpbjjnechaaT35O
namespace Go.Proofs.Ytaaplpbjjnechaa
open Go.Sym
set_option linter.unusedVariables false
set_option linter.unusedSimpArgs false

/-! ### The laws: order -/
def chg (v a : Int) (d : De) : De := ⟨d.t, d.c, d.f, v, a⟩
theorem chg_pl (v a : Int) (d : De) : (chg v a d).pl = d.pl := rfl
theorem rowDe_app (a b : List De) : rowDe (a ++ b) = rowDe a ++ rowDe b := by simp [rowDe]
theorem cN_chg (l : List De) (v a : Int) : cN (l.reverse.map (chg v a)) = cN l := by
  funext p
  unfold cN
  rw [List.filter_map, List.length_map, show ((fun d : De => decide (d.pl = p)) ∘ chg v a) = fun d : De => decide (d.pl = p) from rfl, List.filter_reverse, List.length_reverse]
theorem ok_chg {l : List De} {v a : Int} (h : l.all okDe = true) (hv : 0 ≤ v ∧ v ≤ 1000000) (ha : 0 ≤ a ∧ a ≤ 38399) : (l.reverse.map (chg v a)).all okDe = true := by
  rw [List.all_eq_true] at h ⊢
  intro x hx
  obtain ⟨d, hd, rfl⟩ := List.mem_map.1 hx
  exact ok_iff.2 ⟨(ok_iff.1 (h d (List.mem_reverse.1 hd))).1, hv, ha⟩
def bk (l : List De) (v a : Int) (i : Int) : List De := ((l.drop (i + 1).toNat).reverse).map (chg v a)
theorem bk_succ {l : List De} {v a i : Int} (h0 : 0 ≤ i) (hi : i < l.length) : bk l v a (i - 1) = bk l v a i ++ [chg v a (deAt l i.toNat)] := by
  unfold bk
  rw [show (i - 1 + 1).toNat = i.toNat by omega, show (i + 1).toNat = i.toNat + 1 by omega, List.drop_eq_getElem_cons (show i.toNat < l.length by omega), List.reverse_cons, List.map_append]
  simp [deAt, List.getD_eq_getElem?_getD, show i.toNat < l.length by omega]
theorem bk_len {l : List De} {v a i : Int} (h0 : -1 ≤ i) (hi : i < l.length) : (bk l v a i).length = l.length - (i + 1).toNat := by simp [bk]
def or5 (l : List De) (c : List Ta) (v a v0 a0 : Int) (i : Int) (n : Nat) (css : List (List C)) : S := mkS 65 [(0, .b (.v (lDe l))), (1, .b (.v (.c (.int .u16 v0)))), (2, .b (.v (.c (.int .u16 a0)))), (7, .b (.v (vB true))), (8, .b (.v (lTa c))), (10, .b (.v (.c (.row 1 n)))), (11, .b (.v (vI i)))] [(1, .row 32 5 css)]
theorem f5 (l : List De) (v a : Int) (hv : 0 ≤ v ∧ v ≤ 65535) (ha : 0 ≤ a ∧ a ≤ 65535) : FCall Try.prog 5 [lDe l, .c (.int .u16 v), .c (.int .u16 a)] (.v (vB true)) := by
  have c11 := f11 l
  refine fcall_of Try.func5 rfl (by kernel_rfl) (fun B hB => ?_)
  refine reg0 mix (by kernel_rfl) ?_
  refine regC mix [(0, con f9)] (by kernel_rfl) ?_
  refine reg0 mix (by kernel_rfl) ?_
  refine rCond (decide ((l.length : Int) > 40)) (by kernel_rfl) (fun h => ?_) (fun h => ?_)
  · refine reg0 mix (by kernel_rfl) ?_
    exact run_ret (ret_of (.v (vB true)) (by kernel_rfl) rfl)
  have hl : l.length ≤ 40 := by have := of_decide_eq_false h; omega
  have hno : ¬ (l.length : Int) > 1000 := by omega
  by_cases hall : l.all okDe = true
  case neg =>
    rw [show cntR l = ([], 1) by rw [cntR, if_neg hno, if_neg hall]] at c11
    refine regC mix [(1, con c11)] (by kernel_rfl) ?_
    refine reg0 mix (by kernel_rfl) ?_
    refine rCondT true (by kernel_rfl) rfl ?_
    refine reg0 mix (by kernel_rfl) ?_
    exact run_ret (ret_of (.v (vB true)) (by kernel_rfl) rfl)
  rw [show cntR l = (cnt l, 0) by rw [cntR, if_neg hno, if_pos hall]] at c11
  have hcl := cnt_len l
  obtain ⟨m, hm⟩ : ∃ m, m = IntKind.i64.wrap (a.tmod 38400) := ⟨_, rfl⟩
  have ham : 0 ≤ a.tmod 38400 ∧ a.tmod 38400 ≤ 38399 := by
    rw [Int.tmod_eq_emod_of_nonneg ha.1]; omega
  have ewv : IntKind.i64.wrap v = v := w64 _ (by omega) (by omega)
  have ewa : IntKind.i64.wrap a = a := w64 _ (by omega) (by omega)
  obtain ⟨v', hv'⟩ : ∃ v', v' = IntKind.i64.wrap v := ⟨_, rfl⟩
  obtain ⟨a', ha'⟩ : ∃ a', a' = (IntKind.i64.wrap a).tmod 38400 := ⟨_, rfl⟩
  have hvb : 0 ≤ v' ∧ v' ≤ 1000000 := by rw [hv', ewv]; omega
  have hab : 0 ≤ a' ∧ a' ≤ 38399 := by rw [ha', ewa]; exact ham
  have c11' := f11 (l.reverse.map (chg v' a'))
  have hlr : ((l.reverse.map (chg v' a')).length : Int) = l.length := by simp
  rw [show cntR (l.reverse.map (chg v' a')) = (cnt l, 0) by
    rw [cntR, if_neg (by omega), if_pos (ok_chg hall hvb hab)]
    have h1 := cnt_rep (l.reverse.map (chg v' a')) (by omega)
    rw [cN_chg] at h1
    rw [h1.eq (cnt_rep l (by omega))]] at c11'
  have c14 := f14 (cnt l) (cnt l) (by omega)
  rw [decide_eq_true rfl] at c14
  generalize cnt l = c at c11 c11' c14
  refine regC mix [(1, con c11)] (by kernel_rfl) ?_
  refine reg0 mix (by kernel_rfl) ?_
  refine rCondF false (by kernel_rfl) rfl ?_
  refine reg0 mix (by kernel_rfl) ?_
  refine run_weaken (wk_nilRow 10 1 32 5 (by kernel_rfl) (by kernel_rfl) (by omega)) ?_ (List.cons_ne_nil _ _)
  refine reg0 mix (by kernel_rfl) ?_
  refine rBlock ?_
  have es : IntKind.i64.wrap ((l.length : Int) - 1) = (l.length : Int) - 1 := w64 _ (by omega) (by omega)
  have hb0 : bk l v' a' (IntKind.i64.wrap ((l.length : Int) - 1)) = [] := by
    rw [es, bk, List.drop_of_length_le (by omega)]; rfl
  refine rLoop (fun i => or5 l c v' a' v a i (bk l v' a' i).length (rowDe (bk l v' a' i))) (fun i => -1 ≤ i ∧ i < l.length) (fun i => (i + 1).toNat) (IntKind.i64.wrap ((l.length : Int) - 1)) (by rw [hb0]; exact wkTo [0, 1, 2, 7, 8, 10, 11] [] (by kernel_rfl)) ⟨by omega, by omega⟩ ?_
  rintro i ⟨h0, h1⟩
  refine reg0 mix (by kernel_rfl) ?_
  refine rCond (decide (i ≥ 0)) (by kernel_rfl) (fun hc => ?_) (fun hc => ?_)
  · have hc : 0 ≤ i := of_decide_eq_true hc
    have e : IntKind.i64.wrap (i - 1) = i - 1 := w64 _ (by omega) (by omega)
    have hi : 0 ≤ i ∧ i < (l.length : Int) := ⟨hc, h1⟩
    have hbs := bk_succ (l := l) (v := v') (a := a') hc h1
    have hbl := bk_len (l := l) (v := v') (a := a') h0 h1
    have hln : (bk l v' a' i).length = (rowDe (bk l v' a' i)).length := (rowDe_len _).symm
    refine rBlock ?_
    refine reg mix [] [pf hi] (by kernel_rfl) ?_
    refine reg0 mix (by kernel_rfl) ?_
    refine reg mix [] [pf (by omega : (38400 : Int) ≠ 0)] (by kernel_rfl) ?_
    refine reg mix [] [pf hln, pf ((by omega) : ((bk l v' a' i).length + 1) * 41 ≤ 140737488355328), pf (rfl : 1 = [encDe (chg (IntKind.i64.wrap v) ((IntKind.i64.wrap a).tmod 38400) (deAt l i.toNat))].length)] (by kernel_rfl) ?_
    refine run_nil (blockR_normal ?_)
    refine reg0 mix (by kernel_rfl) ?_
    refine run_nil (loopR_next (IntKind.i64.wrap (i - 1)) ?_ ?_ ?_)
    · rw [show or5 l c v' a' v a (IntKind.i64.wrap (i - 1)) (bk l v' a' (IntKind.i64.wrap (i - 1))).length (rowDe (bk l v' a' (IntKind.i64.wrap (i - 1)))) = or5 l c v' a' v a (IntKind.i64.wrap (i - 1)) ((bk l v' a' i).length + 1) (rowDe (bk l v' a' i) ++ [encDe (chg (IntKind.i64.wrap v) ((IntKind.i64.wrap a).tmod 38400) (deAt l i.toNat))]) by
        rw [e, hbs, List.length_append, rowDe_app, ← hv', ← ha']; rfl]
      exact wkTo [0, 1, 2, 7, 8, 10, 11] [12, 48] (by kernel_rfl)
    · rw [e]; omega
    · rw [e]; omega
  have hc : ¬ i ≥ 0 := of_decide_eq_false hc
  have hb1 : bk l v' a' i = l.reverse.map (chg v' a') := by rw [bk, show (i + 1).toNat = 0 by omega]; rfl
  rw [hb1]
  generalize hL : l.reverse.map (chg v' a') = L at c11'
  refine run_exit (loopR_exit (blockR_exit ?_))
  refine frzRow hB 10 1 L.length 32 5 (rowDe L) (elDe L) [7, 8] [] (by kernel_rfl) (by kernel_rfl) (rowDe_len _).symm (fun k hk => by simp [rowDe, elDe, List.getD_eq_getElem?_getD, hk]) (by kernel_rfl) ?_ (List.cons_ne_nil _ _)
  refine regC mix [(1, con c11')] (by kernel_rfl) ?_
  refine regI mix [(8, hcon c14)] [pf (fun _ : true = true => c14)] (by kernel_rfl) ?_
  exact run_ret (ret_of (.v (vB true)) (by kernel_rfl) rfl)
end Go.Proofs.Ytaaplpbjjnechaa
