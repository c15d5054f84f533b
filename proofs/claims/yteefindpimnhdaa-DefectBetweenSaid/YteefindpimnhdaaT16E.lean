import Derived.Test.YteefindpimnhdaaT16D
namespace Go.Proofs.Yteefindpimnhdaa
open Go.Sym
set_option linter.unusedVariables false
set_option linter.unusedSimpArgs false

/-! ### Changes -/
def bord (l : List Df) (n : Nat) : List Int := [0, 38400] ++ (l.take n).flatMap fun d => [d.frm, d.til + 1]
theorem bord_step {l : List Df} {n : Nat} (h : n < l.length) : rowI (bord l (n + 1)) = rowI (bord l n) ++ [[cI (l.getD n zDf).frm], [cI ((l.getD n zDf).til + 1)]] := by
  rw [bord, take_get h, List.flatMap_append]
  simp [bord, rowI]
theorem bord_len {l : List Df} {n : Nat} (h : n ≤ l.length) : (bord l n).length = 2 + 2 * n := by
  induction n with
  | zero => simp [bord]
  | succ n ih =>
    have := congrArg List.length (bord_step (l := l) (n := n) (by omega))
    rw [rowI_len, List.length_append, rowI_len, ih (by omega)] at this
    rw [this]; simp; omega
def bs (l : List Df) : List Int := srt (bord l l.length)
theorem mem_bord {l : List Df} {x : Int} : x ∈ bord l l.length ↔ x = 0 ∨ x = 38400 ∨ ∃ d, d ∈ l ∧ (x = d.frm ∨ x = d.til + 1) := by
  simp [bord, List.mem_flatMap, or_assoc]
theorem bs_get {l : List Df} (hv : valid l = true) {i : Nat} (hi : i < (bs l).length) : 0 ≤ (bs l).getD i 0 ∧ (bs l).getD i 0 ≤ 38400 := by
  have := srt_get (zs := bord l l.length) hi
  rcases mem_bord.1 this with h | h | ⟨d, hd, h⟩
  · rw [bs, h]; omega
  · rw [bs, h]; omega
  · have hk : okDf d = true := by
      simp only [valid, Bool.and_eq_true, List.all_eq_true] at hv
      exact hv.2 d hd
    have := okDf_bounds hk
    rcases h with h | h <;> (rw [bs, h]; omega)
theorem bs_len (l : List Df) : (bs l).length ≤ 2 + 2 * l.length := by
  have := srt_len (bord l l.length)
  rw [bord_len (Nat.le_refl _)] at this
  exact this
theorem bs_two (l : List Df) : 2 ≤ (bs l).length := by
  obtain ⟨i, hi, h0⟩ := srt_has (zs := bord l l.length) (x := 0) (mem_bord.2 (.inl rfl))
  obtain ⟨j, hj, h1⟩ := srt_has (zs := bord l l.length) (x := 38400) (mem_bord.2 (.inr (.inl rfl)))
  have : i ≠ j := fun e => by subst e; rw [h0] at h1; cases h1
  show 2 ≤ (srt (bord l l.length)).length
  omega

def diff (l : List Df) (t one two b : Int) : Bool := !decide (mask l t b one = mask l t b two)
theorem m4_ne (x y : M4) : (!(x.a == y.a && (x.b == y.b && (x.c == y.c && (x.d == y.d && true))))) = !decide (x = y) := by
  obtain ⟨a, b, c, d⟩ := x
  obtain ⟨a', b', c', d'⟩ := y
  revert a b c d a' b' c' d'
  decide
def chgF (l : List Df) (t one two : Int) (bs : List Int) : Nat → List Sp
  | 0 => []
  | n + 1 => if diff l t one two (bs.getD n 0) then addSp (chgF l t one two bs n) ⟨bs.getD n 0, bs.getD (n + 1) 0 - 1⟩ else chgF l t one two bs n
theorem addSp_len (l : List Sp) (s : Sp) : (addSp l s).length ≤ l.length + 1 := by
  unfold addSp; split <;> simp
theorem chgF_len (l : List Df) (t one two : Int) (bs : List Int) : ∀ n, (chgF l t one two bs n).length ≤ n := by
  intro n
  induction n with
  | zero => simp [chgF]
  | succ n ih =>
    simp only [chgF]
    split
    · have := addSp_len (chgF l t one two bs n) ⟨bs.getD n 0, bs.getD (n + 1) 0 - 1⟩; omega
    · omega
def chgs (l : List Df) (t one two : Int) : List Sp := chgF l t one two (bs l) ((bs l).length - 1)
def chgR (l : List Df) (t one two : Int) : SB := if askOk l t one two then .tup [lSp (chgs l t one two), vI 0] else .tup [lSp [], vI 1]

theorem eq26 : EqTy Try.prog 26 [.bool, .bool, .bool, .bool] := eqTy_of 3 (by kernel_rfl) (by omega) (by kernel_rfl) (by kernel_rfl)

structure B1 where
  i : Int
  n : Nat
  css : List (List C)
def b1S (l : List Df) (t one two : Int) (x : B1) : S := mkS 86 [(0, .b (.v (lDf l))), (1, .b (.v (vI t))), (2, .b (.v (vI one))), (3, .b (.v (vI two))), (10, .b (.v (.c (.row 33 x.n)))), (34, .b (.v (lDf l))), (35, .b (.v (vI l.length))), (36, .b (.v (vI x.i)))] [(33, .row 3 1 x.css)]
structure B2 where
  i : Int
  out : List Sp
def b2S (l : List Df) (t one two : Int) (b : List Int) (h : Nat) (x : B2) : S := mkS 86 [(0, .b (.v (lDf l))), (1, .b (.v (vI t))), (2, .b (.v (vI one))), (3, .b (.v (vI two))), (10, .b (.v (lI b))), (13, .b (.v (.c (.ptr 13 0)))), (14, .b (.v (.c (.oclo 25 [(13, 0)])))), (56, .b (.v (.c (.lst 1 h (elI b))))), (57, .b (.v (vI h))), (58, .b (.v (vI x.i)))]
  [(13, .pcells [.row 4 x.out.length]), (4, .row 39 2 (rowSp x.out))]

theorem f13 (l : List Df) (t one two : Int) (hl0 : l.length ≤ 1000000) : FCall Try.prog 13 [lDf l, vI t, vI one, vI two] (chgR l t one two) := by
  refine fcall_of Try.func13 rfl (by kernel_rfl) (fun B hB => ?_)
  refine reg0 mix (by kernel_rfl) ?_
  refine reg mix [(1, hcon (f15 l hl0)), (5, .frz 1 (elI [t])), (6, hcon (f19 5 [t] (by simp))), (12, .frz 2 (elI [one, two])), (13, hcon (f19 38399 [one, two] (by simp)))]
    [pf (f15 l hl0), pf (ck1 [cI t] (elI [t]) rfl), pf (f19 5 [t] (by simp)), pf (ck2 [cI one] [cI two] (elI [one, two]) rfl rfl), pf (f19 38399 [one, two] (by simp))] (by kernel_rfl) ?_
  have e : askOk l t one two = !((!valid l || !inR 5 [t]) || !inR 38399 [one, two]) := by
    rw [Bool.eq_iff_iff]; simp [askOk, inR, tel, mom]
    constructor
    · rintro ⟨⟨⟨h1, h2⟩, h3⟩, h4⟩; exact ⟨⟨h1, h2⟩, h3, h4⟩
    · rintro ⟨⟨h1, h2⟩, h3, h4⟩; exact ⟨⟨⟨h1, h2⟩, h3⟩, h4⟩
  refine rCond ((!valid l || !inR 5 [t]) || !inR 38399 [one, two]) (by kernel_rfl) (fun h => ?_) (fun h => ?_)
  · refine reg0 mix (by kernel_rfl) ?_
    refine run_weaken (wk_nilLst 8 2 (elSp []) (by kernel_rfl)) ?_ (List.cons_ne_nil _ _)
    refine run_ret (ret_of (.tup [lSp [], vI 1]) (by kernel_rfl) ?_)
    rw [chgR, e, h]; rfl
  rw [h] at e
  have hv : valid l = true := by simp [askOk] at e; exact e.1.1.1
  have hl := valid_len hv
  refine reg0 mix (by kernel_rfl) ?_
  refine reg0 mix (by kernel_rfl) ?_
  refine rBlock ?_
  refine rLoop (b1S l t one two) (fun x => 0 ≤ x.i ∧ x.i ≤ l.length ∧ x.css = rowI (bord l x.i.toNat) ∧ x.n = x.css.length) (fun x => (l.length - x.i).toNat) ⟨0, 2, [[cI 0], [cI 38400]]⟩ (wkTo [0, 1, 2, 3, 10, 34, 35, 36] [] (by kernel_rfl)) ⟨by simp, by simp, by simp [bord, rowI], rfl⟩ ?_
  rintro ⟨i, n, css⟩ ⟨hi0, hi1, hcss, hn⟩
  simp only at hi0 hi1 hcss hn
  have hnl : css.length = 2 + 2 * i.toNat := by rw [hcss, rowI_len, bord_len (by omega)]
  refine reg0 mix (by kernel_rfl) ?_
  refine rCond (decide (i < (l.length : Int))) (by kernel_rfl) (fun hc => ?_) (fun hc => ?_)
  · have hc : i < l.length := of_decide_eq_true hc
    have e1 : IntKind.i64.wrap (i + 1) = i + 1 := w64 _ (by omega) (by omega)
    have hd := okDf_bounds (get_ok hv (show i.toNat < l.length by omega))
    refine rBlock ?_
    refine reg mix [] [pf (⟨hi0, hc⟩ : 0 ≤ i ∧ i < (l.length : Int))] (by kernel_rfl) ?_
    refine reg mix [] [pf hn, pf (by omega : (n + 2) * 9 ≤ 140737488355328), pf (rfl : 2 = [[cI (l.getD i.toNat zDf).frm], [cI (IntKind.i64.wrap ((l.getD i.toNat zDf).til + 1))]].length)] (by kernel_rfl) ?_
    refine run_nil (blockR_normal ?_)
    refine reg0 mix (by kernel_rfl) ?_
    refine run_nil (loopR_next (⟨IntKind.i64.wrap (i + 1), n + 2, css ++ [[cI (l.getD i.toNat zDf).frm], [cI (IntKind.i64.wrap ((l.getD i.toNat zDf).til + 1))]]⟩ : B1) (wkTo [0, 1, 2, 3, 10, 34, 35, 36] [12, 46] (by kernel_rfl)) ?_ ?_)
    · rw [e1]
      refine ⟨by simp only; omega, by simp only; omega, ?_, by simp [hn]⟩
      simp only
      rw [show (i + 1).toNat = i.toNat + 1 by omega, bord_step (by omega), hcss, w64 ((l.getD i.toNat zDf).til + 1) (by omega) (by omega)]
    · simp only [e1]; omega
  have hc : ¬ i < l.length := of_decide_eq_false hc
  have hi : i.toNat = l.length := by omega
  rw [hi] at hcss hnl
  subst hcss
  rw [rowI_len] at hn
  subst hn
  refine run_exit (loopR_exit (blockR_exit ?_))
  have h24 := (f24 (bord l l.length) (by rw [bord_len (Nat.le_refl _)]; omega)).ren (fun _ => 33) ⟨by kernel_rfl, by kernel_rfl, by kernel_rfl, by kernel_rfl, by kernel_rfl, by kernel_rfl, by kernel_rfl⟩
  refine reg mix [(1, .own [33] [33] (.v (.c (.row 33 (bs l).length))) [(33, .row 3 1 (rowI (bs l)))])] [pf h24] (by kernel_rfl) ?_
  refine frzRow hB 10 33 (bs l).length 3 1 (rowI (bs l)) (elI (bs l)) [0, 1, 2, 3] [] (by kernel_rfl) (by kernel_rfl) (rowI_len _).symm ?_ (by kernel_rfl) ?_ (List.cons_ne_nil _ _)
  · intro i hi
    simp [elI, rowI, List.getD_eq_getElem?_getD, hi]
  have hb2 := bs_two l
  have hbl := bs_len l
  have ew : IntKind.i64.wrap (((bs l).length : Int) - 1) = ((bs l).length : Int) - 1 := w64 _ (by omega) (by omega)
  refine reg0 mix (by kernel_rfl) ?_
  refine reg0 mix (by kernel_rfl) ?_
  refine reg mix [] [pf (by rw [ew]; omega : 0 ≤ IntKind.i64.wrap (((bs l).length : Int) - 1) ∧ IntKind.i64.wrap (((bs l).length : Int) - 1) ≤ ((bs l).length : Int))] (by kernel_rfl) ?_
  refine run_weaken (wk_nilCell 13 0 4 39 2 [.nil] (by kernel_rfl) (by kernel_rfl) (by kernel_rfl) (by omega)) ?_ (List.cons_ne_nil _ _)
  have hh : (IntKind.i64.wrap (((bs l).length : Int) - 1)).toNat = (bs l).length - 1 := by rw [ew]; omega
  refine rBlock ?_
  refine rLoop (b2S l t one two (bs l) (IntKind.i64.wrap (((bs l).length : Int) - 1)).toNat) (fun x => 0 ≤ x.i ∧ x.i ≤ (bs l).length - 1 ∧ x.out = chgF l t one two (bs l) x.i.toNat) (fun x => ((bs l).length - 1 - x.i).toNat) ⟨0, []⟩ (wkTo [0, 1, 2, 3, 10, 13, 14, 56, 57, 58] [] (by kernel_rfl)) ⟨by simp, by simp; omega, by simp [chgF]⟩ ?_
  rw [hh]
  rintro ⟨i, out⟩ ⟨hi0, hi1, hout⟩
  simp only at hi0 hi1 hout
  have hol : out.length ≤ i.toNat := by rw [hout]; exact chgF_len _ _ _ _ _ _
  refine reg0 mix (by kernel_rfl) ?_
  refine rCond (decide (i < (((bs l).length - 1 : Nat) : Int))) (by kernel_rfl) (fun hc => ?_) (fun hc => ?_)
  · have hc : i < (((bs l).length - 1 : Nat) : Int) := of_decide_eq_true hc
    have e1 : IntKind.i64.wrap (i + 1) = i + 1 := w64 _ (by omega) (by omega)
    have g1 := bs_get hv (show i.toNat < (bs l).length by omega)
    have g2 := bs_get hv (show i.toNat + 1 < (bs l).length by omega)
    have hs : (i + 1).toNat = i.toNat + 1 := by omega
    refine rJoin (fun out' => b2S l t one two (bs l) ((bs l).length - 1) ⟨i, out'⟩) (fun out' => out' = chgF l t one two (bs l) (i + 1).toNat) (List.cons_ne_nil _ _) ?_ ?_
    · refine rBlock ?_
      refine reg mix [] [pf (⟨hi0, hc⟩ : 0 ≤ i ∧ i < (((bs l).length - 1 : Nat) : Int))] (by kernel_rfl) ?_
      refine reg mix [(4, hcon (f20 l t ((bs l).getD i.toNat 0) one hv g1.1 g1.2)), (9, hcon (f20 l t ((bs l).getD i.toNat 0) two hv g1.1 g1.2))] [pf (f20 l t ((bs l).getD i.toNat 0) one hv g1.1 g1.2), pf (f20 l t ((bs l).getD i.toNat 0) two hv g1.1 g1.2), pf eq26] (by kernel_rfl) ?_
      refine rCond (!((mask l t ((bs l).getD i.toNat 0) one).a == (mask l t ((bs l).getD i.toNat 0) two).a && ((mask l t ((bs l).getD i.toNat 0) one).b == (mask l t ((bs l).getD i.toNat 0) two).b && ((mask l t ((bs l).getD i.toNat 0) one).c == (mask l t ((bs l).getD i.toNat 0) two).c && ((mask l t ((bs l).getD i.toNat 0) one).d == (mask l t ((bs l).getD i.toNat 0) two).d && true))))) (by kernel_rfl) (fun h => ?_) (fun h => ?_)
      · rw [m4_ne] at h
        have hd : diff l t one two ((bs l).getD i.toNat 0) = true := h
        have h25 := (f25 out ⟨(bs l).getD i.toNat 0, IntKind.i64.wrap ((bs l).getD (IntKind.i64.wrap (i + 1)).toNat 0 - 1)⟩ (by omega)).ren (fun n => bif Nat.beq n 31 then 13 else 4) ⟨by kernel_rfl, by kernel_rfl, by kernel_rfl, by kernel_rfl, by kernel_rfl, by kernel_rfl, by kernel_rfl⟩
        refine reg mix [(9, .own [13, 4] [4] (.tup []) [(13, .pcells [.row 4 (addSp out ⟨(bs l).getD i.toNat 0, IntKind.i64.wrap ((bs l).getD (IntKind.i64.wrap (i + 1)).toNat 0 - 1)⟩).length]), (4, .row 39 2 (rowSp (addSp out ⟨(bs l).getD i.toNat 0, IntKind.i64.wrap ((bs l).getD (IntKind.i64.wrap (i + 1)).toNat 0 - 1)⟩)))])]
          [pf (by rw [e1]; omega : 0 ≤ IntKind.i64.wrap (i + 1) ∧ IntKind.i64.wrap (i + 1) < ((bs l).length : Int)), pf h25] (by kernel_rfl) ?_
        refine run_nil (blockR_normal (run_nil (joined (addSp out ⟨(bs l).getD i.toNat 0, IntKind.i64.wrap ((bs l).getD (IntKind.i64.wrap (i + 1)).toNat 0 - 1)⟩) ?_ (wkTo [0, 1, 2, 3, 10, 13, 14, 56, 57, 58] [] (by kernel_rfl)))))
        rw [hs, chgF, if_pos hd, ← hout, e1, hs, w64 ((bs l).getD (i.toNat + 1) 0 - 1) (by omega) (by omega)]
      · rw [m4_ne] at h
        have hd : diff l t one two ((bs l).getD i.toNat 0) = false := h
        refine run_nil (blockR_normal (run_nil (joined out ?_ (wkTo [0, 1, 2, 3, 10, 13, 14, 56, 57, 58] [] (by kernel_rfl)))))
        rw [hs, chgF, hd]
        exact hout
    · intro out' ho
      refine reg0 mix (by kernel_rfl) ?_
      refine run_nil (loopR_next (⟨IntKind.i64.wrap (i + 1), out'⟩ : B2) (wkTo [0, 1, 2, 3, 10, 13, 14, 56, 57, 58] [] (by kernel_rfl)) ?_ ?_)
      · rw [e1]; exact ⟨by simp only; omega, by simp only; omega, ho⟩
      · simp only [e1]; omega
  have hc : ¬ i < (((bs l).length - 1 : Nat) : Int) := of_decide_eq_false hc
  have hi : i.toNat = (bs l).length - 1 := by omega
  refine run_exit (loopR_exit (blockR_exit ?_))
  refine reg0 mix (by kernel_rfl) ?_
  refine frzRow hB 8 4 out.length 39 2 (rowSp out) (elSp out) [9] [13] (by kernel_rfl) (by kernel_rfl) (rowSp_len _).symm ?_ (by kernel_rfl) ?_ (List.cons_ne_nil _ _)
  · intro i hi
    rw [rowSp_get hi]; rfl
  refine run_ret (ret_of (.tup [lSp out, vI 0]) (by kernel_rfl) ?_)
  rw [chgR, e, hout, hi]; rfl

end Go.Proofs.Yteefindpimnhdaa
