import Derived.Test.YtcoeejnlnkjjpaaT27E
namespace Go.Proofs.Ytcoeejnlnkjjpaa
open Go.Sym
set_option linter.unusedVariables false
set_option linter.unusedSimpArgs false

/-- In force, as the program asks it. -/
def inF (o : Ov) (m : Int) : Bool := decide ((if o.known > o.frm then o.known else o.frm) ≤ m) && decide (m ≤ o.til)
theorem inF_force (o : Ov) (m : Int) : inF o m = force o m := by
  rw [Bool.eq_iff_iff]
  simp only [inF, force, Bool.and_eq_true, decide_eq_true_iff]
  split <;> omega

/-- The overrides in force among the first n, with their indices. -/
def actL (l : List Ov) (m : Int) : Nat → List (Nat × Ov)
  | 0 => []
  | n + 1 => if inF (l.getD n zOv) m then actL l m n ++ [(n, l.getD n zOv)] else actL l m n
def actX (l : List Ov) (m : Int) : List (List CV) := (actL l m l.length).map fun x => [vI x.1, .agg (encOv x.2)]

theorem actL_succ (l : List Ov) (m : Int) (n : Nat) : actL l m (n + 1) = if inF (l.getD n zOv) m then actL l m n ++ [(n, l.getD n zOv)] else actL l m n := rfl
theorem actL_len (l : List Ov) (m : Int) (n : Nat) : (actL l m (n + 1)).length = bif inF (l.getD n zOv) m then (actL l m n).length + 1 else (actL l m n).length := by
  rw [actL_succ]
  cases inF (l.getD n zOv) m <;> simp
theorem actL_mono (l : List Ov) (m : Int) (n k : Nat) : ∃ r, actL l m (n + k) = actL l m n ++ r := by
  induction k with
  | zero => exact ⟨[], by simp⟩
  | succ k ih =>
    obtain ⟨r, hr⟩ := ih
    rw [← Nat.add_assoc, actL_succ]
    split
    · exact ⟨r ++ [(n + k, l.getD (n + k) zOv)], by rw [hr, List.append_assoc]⟩
    · exact ⟨r, hr⟩
theorem actL_at {l : List Ov} {m : Int} {n : Nat} (hn : n < l.length) (h : inF (l.getD n zOv) m = true) :
    (actL l m n).length < (actX l m).length ∧ (actX l m).getD (actL l m n).length [] = [vI n, .agg (encOv (l.getD n zOv))] := by
  obtain ⟨r, hr⟩ := actL_mono l m (n + 1) (l.length - (n + 1))
  rw [show n + 1 + (l.length - (n + 1)) = l.length by omega] at hr
  have e : actL l m (n + 1) = actL l m n ++ [(n, l.getD n zOv)] := by rw [actL_succ, if_pos h]
  unfold actX
  rw [hr, e]
  refine ⟨by simp, ?_⟩
  simp [List.getD_eq_getElem?_getD]
theorem actX_len (l : List Ov) (m : Int) : (actX l m).length = (actL l m l.length).length := by simp [actX]
theorem actX_le (l : List Ov) (m : Int) : (actX l m).length ≤ l.length := by
  have key : ∀ n, (actL l m n).length ≤ n := by
    intro n
    induction n with
    | zero => exact Nat.le_refl _
    | succ n ih => rw [actL_len]; cases inF (l.getD n zOv) m <;> simp <;> omega
  rw [actX_len]; exact key _

def itS (l : List Ov) (m : Int) (k : Nat) (x : Int × Nat) : S :=
  mkI 34 [(0, .b (.v (.c (.yld 0)))), (1, .b (.v (.c (.kptr [.lst 7 l.length (elOv l)] 0)))), (2, .b (.v (.c (.kptr [cI m] 0)))), (6, .b (.v (lOv l))), (7, .b (.v (vI l.length))), (8, .b (.v (vI x.1)))] [(0, .cnt x.2 (actX l m) k)]

theorem f30 (l : List Ov) (m : Int) (hl : l.length ≤ 100) : FIter Try.prog 30 [.kptr [.lst 7 l.length (elOv l)] 0, .kptr [cI m] 0] (actX l m) := by
  refine fiter_of Try.func30 rfl (by kernel_rfl) rfl (fun k B hk hB => ?_)
  refine reg0 mix (by kernel_rfl) ?_
  refine rBlock ?_
  refine rLoop (itS l m k) (fun x => 0 ≤ x.1 ∧ x.1 ≤ l.length ∧ x.2 = (actL l m x.1.toNat).length ∧ x.2 ≤ k) (fun x => (l.length - x.1).toNat) (0, 0) (wkTo [0, 1, 2, 6, 7, 8] [] (by kernel_rfl)) ⟨by omega, by omega, rfl, Nat.zero_le _⟩ ?_
  rintro ⟨i, j⟩ ⟨h0, h1, h2, h3⟩
  simp only at h0 h1 h2 h3
  refine reg0 mix (by kernel_rfl) ?_
  refine rCond (decide (i < (l.length : Int))) (by kernel_rfl) (fun hc => ?_) (fun hc => ?_)
  · have hc : i < l.length := of_decide_eq_true hc
    refine rBlock ?_
    refine reg mix [] [pf (⟨h0, hc⟩ : 0 ≤ i ∧ i < (l.length : Int))] (by kernel_rfl) ?_
    have hask : inF (l.getD i.toNat zOv) m = true → j < (actX l m).length ∧ j ≤ k ∧ (actX l m).getD j [] = [vI i, .agg (encOv (l.getD i.toNat zOv))] := by
      intro hf
      obtain ⟨g1, g2⟩ := actL_at (by omega) hf
      rw [h2]
      refine ⟨g1, by omega, ?_⟩
      rw [g2, show ((i.toNat : Nat) : Int) = i by omega]
    refine regI mix [] [pf hask] (by kernel_rfl) ?_
    refine rCond (inF (l.getD i.toNat zOv) m && !decide (j < k)) (by kernel_rfl) (fun h => ?_) (fun h => ?_)
    · simp only [Bool.and_eq_true, Bool.not_eq_true', decide_eq_false_iff_not] at h
      obtain ⟨g1, g2, g3⟩ := hask h.1
      refine run_ret (blockR_ret (loopR_ret (blockR_ret ⟨.inl rfl, ?_⟩)))
      refine Eq.trans (b := some (some (.cnt (bif inF (l.getD i.toNat zOv) m then j + 1 else j) (actX l m) k))) (by kernel_rfl) ?_
      rw [h.1, stopN_lt (show k < (actX l m).length by omega), show j = k by omega]
      rfl
    · refine run_nil (blockR_normal ?_)
      refine reg0 mix (by kernel_rfl) ?_
      have e : IntKind.i64.wrap (i + 1) = i + 1 := w64 _ (by omega) (by omega)
      refine run_nil (loopR_next (IntKind.i64.wrap (i + 1), bif inF (l.getD i.toNat zOv) m then j + 1 else j) (wkTo [0, 1, 2, 6, 7, 8] [] (by kernel_rfl)) ?_ ?_)
      · simp only [e]
        refine ⟨by omega, by omega, ?_, ?_⟩
        · rw [show (i + 1).toNat = i.toNat + 1 by omega, actL_len, h2]
        · revert h
          cases inF (l.getD i.toNat zOv) m <;> simp <;> omega
      · simp only [e]; omega
  · have hc : ¬ i < l.length := of_decide_eq_false hc
    refine run_exit (loopR_exit (blockR_exit ?_))
    refine run_nil ⟨.inr rfl, ?_⟩
    refine Eq.trans (b := some (some (.cnt j (actX l m) k))) (by kernel_rfl) ?_
    have e : j = (actX l m).length := by rw [h2, actX_len, show i.toNat = l.length by omega]
    have e2 : k = (actX l m).length := by omega
    rw [e2, stopN_eq, e]

theorem f22 (l : List Ov) (m : Int) : FCall Try.prog 22 [lOv l, vI m] (.v (.c (.clo 30 [.kptr [.lst 7 l.length (elOv l)] 0, .kptr [cI m] 0]))) := by
  refine fcall_of Try.func22 rfl (by kernel_rfl) (fun B hB => ?_)
  refine reg mix [(0, .imm), (1, .imm)] [] (by kernel_rfl) ?_
  refine reg0 mix (by kernel_rfl) ?_
  exact run_ret (ret_of _ (by kernel_rfl) rfl)

end Go.Proofs.Ytcoeejnlnkjjpaa
