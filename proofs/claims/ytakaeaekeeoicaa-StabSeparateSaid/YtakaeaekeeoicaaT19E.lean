import Derived.Test.YtakaeaekeeoicaaT19C
import Derived.Test.YtakaeaekeeoicaaT19D
namespace Go.Proofs.Ytakaeaekeeoicaa
open Go.Sym
set_option linter.unusedVariables false
set_option linter.unusedSimpArgs false

/-! ### What Check says -/
def spA (l : List Sp) (aps : List Int) (i : Nat) : Sp := l.getD (aps.getD i 0).toNat zSp
structure Chk (l : List Sp) (pts aps : List Int) : Prop where
  val : valid l = true
  len : pts.length = aps.length
  inc : ∀ i, i + 1 < pts.length → pts.getD i 0 < pts.getD (i + 1) 0
  met : meets l pts = true
  inn : ∀ i, i < aps.length → 0 ≤ aps.getD i 0 ∧ aps.getD i 0 < l.length
  dis : ∀ i k, k < i → i < aps.length → dj (spA l aps i) (spA l aps k) = true
def chkB (l : List Sp) (pts aps : List Int) : Bool :=
  valid l && (decide (pts.length = aps.length) && ((List.range (pts.length - 1)).all (fun i => decide (pts.getD i 0 < pts.getD (i + 1) 0)) && (meets l pts && ((List.range aps.length).all (fun i => decide (0 ≤ aps.getD i 0) && decide (aps.getD i 0 < (l.length : Int))) &&
    (List.range aps.length).all fun i => (List.range i).all fun k => dj (spA l aps i) (spA l aps k)))))
theorem chk_iff (l : List Sp) (pts aps : List Int) : chkB l pts aps = true ↔ Chk l pts aps := by
  unfold chkB
  simp only [Bool.and_eq_true, decide_eq_true_eq, List.all_eq_true, List.mem_range]
  constructor
  · rintro ⟨h1, h2, h3, h4, h5, h6⟩
    exact ⟨h1, h2, fun i hi => h3 i (by omega), h4, h5, fun i k hk hi => h6 i hi k hk⟩
  · intro h
    exact ⟨h.val, h.len, fun i hi => h.inc i (by omega), h.met, h.inn, fun i hi k hk => h.dis i k hk hi⟩
theorem chk_false {l : List Sp} {pts aps : List Int} (h : ¬ Chk l pts aps) : chkB l pts aps = false := by
  rw [Bool.eq_false_iff]
  intro h'; exact h ((chk_iff l pts aps).1 h')
theorem chk_true {l : List Sp} {pts aps : List Int} (h : Chk l pts aps) : chkB l pts aps = true := (chk_iff l pts aps).2 h

/-! ### Sorted by their ends: disjoint if each begins behind the one before it -/
theorem dj_symm {a b : Sp} : dj a b = true → dj b a = true := by
  unfold dj
  rw [Bool.or_comm]
  exact id
theorem cons_pair {S : List Sp} (hv : ∀ s, s ∈ S → s.frm ≤ s.til) (h : ∀ i, i + 1 < S.length → (S.getD i zSp).til < (S.getD (i + 1) zSp).frm) : S.Pairwise fun a b => dj a b = true := by
  have key : ∀ d i, i + 1 + d < S.length → (S.getD i zSp).til < (S.getD (i + 1 + d) zSp).frm := by
    intro d
    induction d with
    | zero => intro i hi; exact h i hi
    | succ d ih =>
      intro i hi
      have h1 := ih i (by omega)
      have h2 := h (i + 1 + d) (by omega)
      have h3 := hv (S.getD (i + 1 + d) zSp) (by simp [List.getD_eq_getElem?_getD, show i + 1 + d < S.length by omega])
      rw [show i + 1 + (d + 1) = i + 1 + d + 1 by omega]; omega
  rw [List.pairwise_iff_getElem]
  intro i j hi hj hij
  have := key (j - i - 1) i (by omega)
  rw [show i + 1 + (j - i - 1) = j by omega] at this
  rw [show S.getD i zSp = S[i] by simp [List.getD_eq_getElem?_getD, hi], show S.getD j zSp = S[j] by simp [List.getD_eq_getElem?_getD, hj]] at this
  unfold dj
  simp [this]
theorem pair_cons {S : List Sp} (hv : ∀ s, s ∈ S → s.frm ≤ s.til) (hs : S.Pairwise fun a b => a.til ≤ b.til) (h : S.Pairwise fun a b => dj a b = true) : ∀ i, i + 1 < S.length → (S.getD i zSp).til < (S.getD (i + 1) zSp).frm := by
  intro i hi
  have h1 := List.pairwise_iff_getElem.1 hs i (i + 1) (by omega) hi (by omega)
  have h2 := List.pairwise_iff_getElem.1 h i (i + 1) (by omega) hi (by omega)
  have h3 := hv S[i] (List.getElem_mem _)
  rw [show S.getD i zSp = S[i] by simp [List.getD_eq_getElem?_getD, show i < S.length by omega], show S.getD (i + 1) zSp = S[i + 1] by simp [List.getD_eq_getElem?_getD, hi]]
  unfold dj at h2
  simp only [Bool.or_eq_true, decide_eq_true_eq] at h2
  omega
def chosen (l : List Sp) (aps : List Int) : List Sp := aps.map fun a => l.getD a.toNat zSp
theorem chosen_at {l : List Sp} {aps : List Int} {i : Nat} (h : i < aps.length) : (chosen l aps).getD i zSp = spA l aps i := by
  simp [chosen, spA, List.getD_eq_getElem?_getD, h]
theorem dis_pair (l : List Sp) (aps : List Int) : (∀ i k, k < i → i < aps.length → dj (spA l aps i) (spA l aps k) = true) ↔ (chosen l aps).Pairwise fun a b => dj a b = true := by
  have hlen : (chosen l aps).length = aps.length := by simp [chosen]
  have hat : ∀ i (h : i < (chosen l aps).length), (chosen l aps)[i] = spA l aps i := fun i h => by
    rw [← chosen_at (by omega)]; simp [List.getD_eq_getElem?_getD, h]
  rw [List.pairwise_iff_getElem]
  constructor
  · intro h i j hi hj hij
    rw [hat, hat]; exact dj_symm (h j i hij (by omega))
  · intro h i k hk hi
    have := h k i (by omega) (by omega) hk
    rw [hat, hat] at this
    exact dj_symm this

/-! ### Check -/
abbrev ckT (l : List Sp) (pts aps : List Int) : List (Nat × SV) := [(0, .b (.v (lSp l))), (1, .b (.v (lI pts))), (2, .b (.v (lI aps)))]
def ck1 (l : List Sp) (pts aps : List Int) (i : Int) : S := mkS 108 (ckT l pts aps ++ [(7, .b (.v (vI i)))]) []
def ck2 (l : List Sp) (pts aps : List Int) (i : Int) : S := mkS 108 (ckT l pts aps ++ [(42, .b (.v (lSp l))), (43, .b (.v (vI l.length))), (44, .b (.v (vI i)))]) []
def ck3 (l : List Sp) (pts aps : List Int) (i : Int) (k : Int) : S := mkS 108 (ckT l pts aps ++ [(42, .b (.v (lSp l))), (43, .b (.v (vI l.length))), (44, .b (.v (vI i))), (9, .b (.v (.c (.ptr 9 0)))), (48, .b (.v (lI pts))), (49, .b (.v (vI pts.length))), (50, .b (.v (vI k)))]) [(9, .cells (encSp (l.getD i.toNat zSp)))]
def ck4 (l : List Sp) (pts aps : List Int) (x : Int × Nat × List (List C)) : S := mkS 108 (ckT l pts aps ++ [(12, .b (.v (.c (.row 1 x.2.1)))), (66, .b (.v (lI aps))), (67, .b (.v (vI aps.length))), (68, .b (.v (vI x.1)))]) [(1, .row 34 2 x.2.2)]
def ck5 (n : Nat) (css : List (List C)) (i : Int) : S := mkS 108 [(12, .b (.v (.c (.row 1 n)))), (15, .b (.v (vI i)))] [(1, .row 34 2 css)]
theorem f15 (l : List Sp) (pts aps : List Int) (hl : l.length ≤ 1000000) (hp : pts.length ≤ 1000000) (ha : aps.length ≤ 1000000) : FCall Try.prog 15 [lSp l, lI pts, lI aps] (.v (vB (chkB l pts aps))) := by
  refine fcall_of Try.func15 rfl (by kernel_rfl) (fun B hB => ?_)
  refine reg0 mix (by kernel_rfl) ?_
  refine rScope ?_
  refine regC mix [(1, con (f18 l))] (by kernel_rfl) ?_
  refine rCond (!valid l || ((pts.length : Int) != (aps.length : Int))) (by kernel_rfl) (fun h => ?_) (fun h => ?_)
  · refine reg0 mix (by kernel_rfl) ?_
    refine run_ret (ret_of (.v (vB false)) (by kernel_rfl) ?_)
    rw [chk_false fun hc => ?_]
    rw [hc.val, hc.len] at h
    simp at h
  simp only [Bool.or_eq_false_iff, Bool.not_eq_false', bne_eq_false_iff_eq] at h
  obtain ⟨hv, hla⟩ := h
  have hla : pts.length = aps.length := by omega
  refine reg0 mix (by kernel_rfl) ?_
  refine rBlock ?_
  refine rLoop (ck1 l pts aps) (fun i => 1 ≤ i ∧ (i ≤ pts.length ∨ i = 1) ∧ ∀ j : Nat, (j : Int) + 1 < i → pts.getD j 0 < pts.getD (j + 1) 0) (fun i => (pts.length - i).toNat) 1 (wkTo [0, 1, 2, 7] [] (by kernel_rfl)) ⟨by omega, .inr rfl, fun j hj => by omega⟩ ?_
  rintro i ⟨hi0, hi1, hi2⟩
  refine reg0 mix (by kernel_rfl) ?_
  refine rCond (decide (i < (pts.length : Int))) (by kernel_rfl) (fun hc => ?_) (fun hc => ?_)
  · have hc : i < pts.length := of_decide_eq_true hc
    have e1 : IntKind.i64.wrap (i + 1) = i + 1 := w64 _ (by omega) (by omega)
    have e2 : IntKind.i64.wrap (i - 1) = i - 1 := w64 _ (by omega) (by omega)
    refine rBlock ?_
    refine reg mix [] [pf ((by rw [e2]; omega) : 0 ≤ IntKind.i64.wrap (i - 1) ∧ IntKind.i64.wrap (i - 1) < (pts.length : Int)), pf (⟨by omega, hc⟩ : 0 ≤ i ∧ i < (pts.length : Int))] (by kernel_rfl) ?_
    have hs : (IntKind.i64.wrap (i - 1)).toNat + 1 = i.toNat := by rw [e2]; omega
    refine rCond (decide (pts.getD (IntKind.i64.wrap (i - 1)).toNat 0 ≥ pts.getD i.toNat 0)) (by kernel_rfl) (fun h => ?_) (fun h => ?_)
    · refine reg0 mix (by kernel_rfl) ?_
      refine run_ret (blockR_ret (loopR_ret (blockR_ret (ret_of (.v (vB false)) (by kernel_rfl) ?_))))
      rw [chk_false fun hc2 => ?_]
      have := hc2.inc (IntKind.i64.wrap (i - 1)).toNat (by rw [hs]; omega)
      rw [hs] at this
      have := of_decide_eq_true h
      omega
    · refine run_nil (blockR_normal ?_)
      refine reg0 mix (by kernel_rfl) ?_
      refine run_nil (loopR_next (IntKind.i64.wrap (i + 1)) (wkTo [0, 1, 2, 7] [] (by kernel_rfl)) ?_ ?_)
      · rw [e1]
        refine ⟨by omega, .inl (by omega), fun j hj => ?_⟩
        by_cases hji : (j : Int) + 1 < i
        · exact hi2 j hji
        · have hj' : j = (IntKind.i64.wrap (i - 1)).toNat := by rw [e2]; omega
          have := of_decide_eq_false h
          rw [← hs, ← hj'] at this
          omega
      · rw [e1]; omega
  have hc : ¬ i < pts.length := of_decide_eq_false hc
  have hinc : ∀ j, j + 1 < pts.length → pts.getD j 0 < pts.getD (j + 1) 0 := fun j hj => hi2 j (by omega)
  clear hi0 hi1 hi2
  refine run_exit (loopR_exit (blockR_exit ?_))
  refine reg0 mix (by kernel_rfl) ?_
  refine rBlock ?_
  refine rLoop (ck2 l pts aps) (fun i => 0 ≤ i ∧ i ≤ l.length ∧ ∀ j, j < i.toNat → pts.any (hit (l.getD j zSp)) = true) (fun i => (l.length - i).toNat) 0 (wkTo [0, 1, 2, 42, 43, 44] [] (by kernel_rfl)) ⟨by omega, by omega, fun j hj => by simp at hj⟩ ?_
  rintro i ⟨hi0, hi1, hi2⟩
  refine reg0 mix (by kernel_rfl) ?_
  refine rCond (decide (i < (l.length : Int))) (by kernel_rfl) (fun hc => ?_) (fun hc => ?_)
  · have hc : i < l.length := of_decide_eq_true hc
    have e1 : IntKind.i64.wrap (i + 1) = i + 1 := w64 _ (by omega) (by omega)
    refine rBlock ?_
    refine reg mix [] [pf (⟨hi0, hc⟩ : 0 ≤ i ∧ i < (l.length : Int))] (by kernel_rfl) ?_
    refine reg0 mix (by kernel_rfl) ?_
    refine rBlock ?_
    refine rLoop (ck3 l pts aps i) (fun k => 0 ≤ k ∧ k ≤ pts.length ∧ ∀ j, j < k.toNat → hit (l.getD i.toNat zSp) (pts.getD j 0) = false) (fun k => (pts.length - k).toNat) 0 (wkTo [0, 1, 2, 42, 43, 44, 9, 48, 49, 50] [] (by kernel_rfl)) ⟨by omega, by omega, fun j hj => by simp at hj⟩ ?_
    rintro k ⟨hk0, hk1, hk2⟩
    refine reg0 mix (by kernel_rfl) ?_
    refine rCond (decide (k < (pts.length : Int))) (by kernel_rfl) (fun hc2 => ?_) (fun hc2 => ?_)
    · have hc2 : k < pts.length := of_decide_eq_true hc2
      have e2 : IntKind.i64.wrap (k + 1) = k + 1 := w64 _ (by omega) (by omega)
      refine rBlock ?_
      refine reg mix [] [pf (⟨hk0, hc2⟩ : 0 ≤ k ∧ k < (pts.length : Int))] (by kernel_rfl) ?_
      refine reg0 mix (by kernel_rfl) ?_
      refine rCond (hit (l.getD i.toNat zSp) (pts.getD k.toNat 0)) (by kernel_rfl) (fun h => ?_) (fun h => ?_)
      · refine run_exit (blockR_out (by kernel_rfl) (loopR_exit (blockR_out (by kernel_rfl) (blockR_exit ?_))))
        refine reg0 mix (by kernel_rfl) ?_
        refine run_nil (loopR_next (IntKind.i64.wrap (i + 1)) (wkTo [0, 1, 2, 42, 43, 44] [9] (by kernel_rfl)) ?_ ?_)
        · rw [e1]
          refine ⟨by omega, by omega, fun j hj => ?_⟩
          by_cases hji : j < i.toNat
          · exact hi2 j hji
          · rw [show j = i.toNat by omega, List.any_eq_true]
            exact ⟨pts.getD k.toNat 0, by simp [List.getD_eq_getElem?_getD, show k.toNat < pts.length by omega], h⟩
        · rw [e1]; omega
      · refine run_nil (blockR_normal ?_)
        refine reg0 mix (by kernel_rfl) ?_
        refine run_nil (loopR_next (IntKind.i64.wrap (k + 1)) (wkTo [0, 1, 2, 42, 43, 44, 9, 48, 49, 50] [] (by kernel_rfl)) ?_ ?_)
        · rw [e2]
          refine ⟨by omega, by omega, fun j hj => ?_⟩
          by_cases hjk : j < k.toNat
          · exact hk2 j hjk
          · rw [show j = k.toNat by omega]; exact h
        · rw [e2]; omega
    have hc2 : ¬ k < pts.length := of_decide_eq_false hc2
    refine run_exit (loopR_exit (blockR_exit ?_))
    refine reg0 mix (by kernel_rfl) ?_
    refine run_ret (blockR_ret (loopR_ret (blockR_ret (ret_of (.v (vB false)) (by kernel_rfl) ?_))))
    rw [chk_false fun hck => ?_]
    have h1 := List.all_eq_true.1 hck.met (l.getD i.toNat zSp) (by simp [List.getD_eq_getElem?_getD, show i.toNat < l.length by omega])
    obtain ⟨p, hp1, hp2⟩ := List.any_eq_true.1 h1
    obtain ⟨j, hj, rfl⟩ := List.getElem_of_mem hp1
    have := hk2 j (by omega)
    rw [show pts.getD j 0 = pts[j] by simp [List.getD_eq_getElem?_getD, hj]] at this
    rw [this] at hp2; cases hp2
  have hc : ¬ i < l.length := of_decide_eq_false hc
  have hmet : meets l pts = true := all_upto zSp fun j hj => hi2 j (by omega)
  clear hi0 hi1 hi2
  refine run_exit (loopR_exit (blockR_exit ?_))
  refine reg0 mix (by kernel_rfl) ?_
  refine run_weaken (wk_nilRow 12 1 34 2 (by kernel_rfl) (by kernel_rfl) (by omega)) ?_ (List.cons_ne_nil _ _)
  refine reg0 mix (by kernel_rfl) ?_
  refine rBlock ?_
  refine rLoop (ck4 l pts aps) (fun x => 0 ≤ x.1 ∧ x.1 ≤ aps.length ∧ (x.2.1 : Int) = x.1 ∧ x.2.2 = rowSp ((chosen l aps).take x.2.1) ∧ ∀ j, j < x.2.1 → 0 ≤ aps.getD j 0 ∧ aps.getD j 0 < l.length) (fun x => (aps.length - x.1).toNat) (0, 0, []) (wkTo [0, 1, 2, 12, 66, 67, 68] [] (by kernel_rfl)) ⟨by simp, by simp, rfl, rfl, fun j hj => by simp at hj⟩ ?_
  rintro ⟨i, n, css⟩ ⟨hi0, hi1, hn, hcss, hin⟩
  simp only at hi0 hi1 hn hcss hin
  have hcl : (chosen l aps).length = aps.length := by simp [chosen]
  have hcn : css.length = n := by rw [hcss, rowSp_len, List.length_take]; omega
  refine reg0 mix (by kernel_rfl) ?_
  refine rCond (decide (i < (aps.length : Int))) (by kernel_rfl) (fun hc => ?_) (fun hc => ?_)
  · have hc : i < aps.length := of_decide_eq_true hc
    have e1 : IntKind.i64.wrap (i + 1) = i + 1 := w64 _ (by omega) (by omega)
    refine rBlock ?_
    refine reg mix [] [pf (⟨hi0, hc⟩ : 0 ≤ i ∧ i < (aps.length : Int))] (by kernel_rfl) ?_
    refine reg0 mix (by kernel_rfl) ?_
    refine rCond (decide (aps.getD i.toNat 0 < 0) || decide (aps.getD i.toNat 0 ≥ (l.length : Int))) (by kernel_rfl) (fun h => ?_) (fun h => ?_)
    · refine reg0 mix (by kernel_rfl) ?_
      refine run_ret (blockR_ret (loopR_ret (blockR_ret (ret_of (.v (vB false)) (by kernel_rfl) ?_))))
      rw [chk_false fun hck => ?_]
      have := hck.inn i.toNat (by omega)
      simp only [Bool.or_eq_true, decide_eq_true_eq] at h
      omega
    simp only [Bool.or_eq_false_iff, decide_eq_false_iff_not] at h
    refine reg mix [] [pf ((by omega) : 0 ≤ aps.getD i.toNat 0 ∧ aps.getD i.toNat 0 < (l.length : Int)), pf hcn.symm, pf (by omega : (n + 1) * 17 ≤ 140737488355328), pf (rfl : 1 = [encSp (l.getD (aps.getD i.toNat 0).toNat zSp)].length)] (by kernel_rfl) ?_
    refine run_nil (blockR_normal ?_)
    refine reg0 mix (by kernel_rfl) ?_
    refine run_nil (loopR_next (IntKind.i64.wrap (i + 1), n + 1, css ++ [encSp (l.getD (aps.getD i.toNat 0).toNat zSp)]) (wkTo [0, 1, 2, 12, 66, 67, 68] [85] (by kernel_rfl)) ?_ ?_)
    · simp only [e1]
      refine ⟨by omega, by omega, by omega, ?_, fun j hj => ?_⟩
      · have hnl : n < (chosen l aps).length := by omega
        rw [List.take_succ_eq_append_getElem hnl, hcss, rowSp, rowSp, List.map_append]
        have : (chosen l aps)[n] = l.getD (aps.getD i.toNat 0).toNat zSp := by
          rw [show i.toNat = n by omega]
          have := chosen_at (l := l) (aps := aps) (i := n) (by omega)
          rw [← show (chosen l aps).getD n zSp = (chosen l aps)[n] by simp [List.getD_eq_getElem?_getD, hnl], this]; rfl
        rw [this]; rfl
      · by_cases hjn : j < n
        · exact hin j hjn
        · rw [show j = i.toNat by omega]; omega
    · simp only [e1]; omega
  have hc : ¬ i < aps.length := of_decide_eq_false hc
  have hnl : n = aps.length := by omega
  subst hnl
  rw [List.take_of_length_le (by omega)] at hcss
  subst hcss
  have hcv : ∀ s, s ∈ chosen l aps → s ∈ l := by
    intro s hs
    simp only [chosen, List.mem_map] at hs
    obtain ⟨a, ha1, rfl⟩ := hs
    obtain ⟨j, hj, rfl⟩ := List.getElem_of_mem ha1
    have := hin j hj
    rw [show aps.getD j 0 = aps[j] by simp [List.getD_eq_getElem?_getD, hj]] at this
    simp [List.getD_eq_getElem?_getD, show (aps[j]).toNat < l.length by omega]
  have hcw : ∀ s, s ∈ chosen l aps → wrong s = false := fun s hs => by
    have := valid_get hv (hcv s hs)
    simp only [wrong, Bool.or_eq_false_iff, decide_eq_false_iff_not]
    omega
  refine run_exit (loopR_exit (blockR_exit ?_))
  have hsort := (f23 (chosen l aps) 34 hcw (by omega)).ren (fun _ => 1) ⟨by kernel_rfl, by kernel_rfl, by kernel_rfl, by kernel_rfl, by kernel_rfl, by kernel_rfl, by kernel_rfl⟩
  rw [hcl] at hsort
  refine reg mix [(1, .own [1] [] (.tup []) [(1, .row 34 2 (rowSp (sortSp (chosen l aps) hcw)))])] [pf hsort] (by kernel_rfl) ?_
  have hsp := sortSp_perm (chosen l aps) hcw
  have hss := sortSp_sorted (chosen l aps) hcw
  have hsl : (sortSp (chosen l aps) hcw).length = aps.length := by rw [sortSp_len, hcl]
  generalize sortSp (chosen l aps) hcw = srt at hsp hss hsl
  have hsv : ∀ s, s ∈ srt → s.frm ≤ s.til := fun s hs => (valid_get hv (hcv s (hsp.mem_iff.1 hs))).2.2
  have hrl : aps.length = (rowSp srt).length := by rw [rowSp_len, hsl]
  refine reg0 mix (by kernel_rfl) ?_
  refine rBlock ?_
  refine rLoop (ck5 aps.length (rowSp srt)) (fun i => 1 ≤ i ∧ (i ≤ aps.length ∨ i = 1) ∧ ∀ j : Nat, (j : Int) + 1 < i → (srt.getD j zSp).til < (srt.getD (j + 1) zSp).frm) (fun i => (aps.length - i).toNat) 1 (wkTo [12, 15] [] (by kernel_rfl)) ⟨by omega, .inr rfl, fun j hj => by omega⟩ ?_
  rintro i ⟨hi0, hi1, hi2⟩
  refine reg mix [] [pf hrl] (by kernel_rfl) ?_
  refine rCond (decide (i < (aps.length : Int))) (by kernel_rfl) (fun hc => ?_) (fun hc => ?_)
  · have hc : i < aps.length := of_decide_eq_true hc
    have e1 : IntKind.i64.wrap (i + 1) = i + 1 := w64 _ (by omega) (by omega)
    have e2 : IntKind.i64.wrap (i - 1) = i - 1 := w64 _ (by omega) (by omega)
    have hs : (IntKind.i64.wrap (i - 1)).toNat + 1 = i.toNat := by rw [e2]; omega
    have q1 : QAt i aps.length (rowSp srt) := ⟨⟨by omega, hc⟩, hrl⟩
    have q2 : QEl aps.length i.toNat (rowSp srt) (encSp (srt.getD i.toNat zSp)) := ⟨⟨hrl, by omega⟩, rowSp_at (by omega)⟩
    have q3 : QAt (IntKind.i64.wrap (i - 1)) aps.length (rowSp srt) := ⟨by rw [e2]; omega, hrl⟩
    have q4 : QEl aps.length (IntKind.i64.wrap (i - 1)).toNat (rowSp srt) (encSp (srt.getD (IntKind.i64.wrap (i - 1)).toNat zSp)) := ⟨⟨hrl, by omega⟩, rowSp_at (by omega)⟩
    refine rBlock ?_
    refine reg mix [(4, .frz 0 (fun _ => encSp (srt.getD i.toNat zSp))), (10, .frz 0 (fun _ => encSp (srt.getD (IntKind.i64.wrap (i - 1)).toNat zSp)))] [pf q1, pf hrl, pf q2, pf q3, pf hrl, pf q4] (by kernel_rfl) ?_
    refine rCond (decide ((srt.getD i.toNat zSp).frm ≤ (srt.getD (IntKind.i64.wrap (i - 1)).toNat zSp).til)) (by kernel_rfl) (fun h => ?_) (fun h => ?_)
    · refine reg0 mix (by kernel_rfl) ?_
      refine run_ret (blockR_ret (loopR_ret (blockR_ret (ret_of (.v (vB false)) (by kernel_rfl) ?_))))
      rw [chk_false fun hck => ?_]
      have h1 := (dis_pair l aps).1 hck.dis
      have h2 := (hsp.pairwise_iff (R := fun a b => dj a b = true) (fun h => dj_symm h)).2 h1
      have h3 := pair_cons hsv hss h2 (IntKind.i64.wrap (i - 1)).toNat (by omega)
      rw [hs] at h3
      have := of_decide_eq_true h
      omega
    · refine run_nil (blockR_normal ?_)
      refine reg0 mix (by kernel_rfl) ?_
      refine run_nil (loopR_next (IntKind.i64.wrap (i + 1)) (wkTo [12, 15] [] (by kernel_rfl)) ?_ ?_)
      · rw [e1]
        refine ⟨by omega, .inl (by omega), fun j hj => ?_⟩
        by_cases hji : (j : Int) + 1 < i
        · exact hi2 j hji
        · have hj' : j = (IntKind.i64.wrap (i - 1)).toNat := by rw [e2]; omega
          have := of_decide_eq_false h
          rw [← hs, ← hj'] at this
          omega
      · rw [e1]; omega
  have hc : ¬ i < aps.length := of_decide_eq_false hc
  refine run_exit (loopR_exit (blockR_exit ?_))
  refine reg0 mix (by kernel_rfl) ?_
  refine run_ret (ret_of (.v (vB true)) (by kernel_rfl) ?_)
  rw [chk_true]
  refine ⟨hv, hla, hinc, hmet, fun j hj => hin j hj, (dis_pair l aps).2 ?_⟩
  refine (hsp.pairwise_iff (R := fun a b => dj a b = true) (fun h => dj_symm h)).1 ?_
  exact cons_pair hsv fun j hj => hi2 j (by omega)
end Go.Proofs.Ytakaeaekeeoicaa
