import Derived.Test.YtmdgbejfdcfhpaaT20G
namespace Go.Proofs.Ytmdgbejfdcfhpaa
open Go.Sym
set_option linter.unusedVariables false
set_option linter.unusedSimpArgs false

/-! ### The plain law of medians: the sorted list's element in the middle is the one of that rank -/
theorem countP_or {α : Type} {p q : α → Bool} : ∀ {l : List α}, (∀ x, x ∈ l → (p x && q x) = false) → l.countP (fun x => p x || q x) = l.countP p + l.countP q
  | [], _ => rfl
  | x :: l, h => by
    have ih := countP_or (l := l) fun y hy => h y (List.mem_cons_of_mem _ hy)
    have h0 := h x (List.mem_cons_self ..)
    simp only [List.countP_cons, ih]
    revert h0
    cases p x <;> cases q x <;> simp <;> omega
theorem list_range (l : List Int) : (List.range l.length).map (fun j => l.getD j 0) = l := by
  apply List.ext_getElem
  · simp
  · intro i h1 h2
    simp [List.getD_eq_getElem?_getD, h2]
theorem countP_range (l : List Int) (q : Int → Bool) : (List.range l.length).countP (fun j => q (l.getD j 0)) = l.countP q := by
  conv => rhs; rw [← list_range l]
  rw [List.countP_map]; rfl
theorem rk_count (l : List Int) (i : Nat) : ∀ n, rk l i n = ((List.range n).countP (ahead l i) : Nat)
  | 0 => rfl
  | n + 1 => by
    rw [rk, rk_count l i n, List.range_succ, List.countP_append]
    cases h : ahead l i n <;> simp [h]
/-- Those that are equal to v and ahead of i. -/
def eqb (l : List Int) (v : Int) (i : Nat) : Nat := (List.range i).countP fun j => l.getD j 0 == v
theorem rk_split (l : List Int) {i : Nat} (hi : i < l.length) : rk l i l.length = (l.countP (fun x => decide (x < l.getD i 0)) + eqb l (l.getD i 0) i : Nat) := by
  rw [rk_count]
  have e1 : (List.range l.length).countP (ahead l i) = (List.range l.length).countP (fun j => decide (l.getD j 0 < l.getD i 0) || ((l.getD j 0 == l.getD i 0) && decide (j < i))) := rfl
  rw [e1, countP_or (fun j _ => by
    by_cases h : l.getD j 0 < l.getD i 0
    · have : (l.getD j 0 == l.getD i 0) = false := by rw [beq_eq_false_iff_ne]; omega
      rw [this]; simp
    · simp only [h, decide_false, Bool.false_and])]
  rw [countP_range l (fun x => decide (x < l.getD i 0))]
  congr 1
  congr 1
  have e2 : List.range l.length = List.range i ++ (List.range (l.length - i)).map (fun k => i + k) := by
    conv => lhs; rw [show l.length = i + (l.length - i) by omega]
    rw [List.range_add]
  rw [e2, List.countP_append]
  have e3 : ((List.range (l.length - i)).map (fun k => i + k)).countP (fun j => (l.getD j 0 == l.getD i 0) && decide (j < i)) = 0 := by
    rw [List.countP_eq_zero]
    intro j hj
    obtain ⟨k, _, rfl⟩ := List.mem_map.1 hj
    simp
  rw [e3, Nat.add_zero, eqb]
  refine List.countP_congr fun j hj => ?_
  have := List.mem_range.1 hj
  simp [this]
theorem eqb_all (l : List Int) (v : Int) : eqb l v l.length = l.countP (fun x => x == v) := countP_range l (fun x => x == v)
theorem eqb_lt (l : List Int) {i : Nat} (hi : i < l.length) : eqb l (l.getD i 0) i < l.countP (fun x => x == l.getD i 0) := by
  have hmono : ∀ n m, n ≤ m → eqb l (l.getD i 0) n ≤ eqb l (l.getD i 0) m := by
    intro n m h
    have : List.range m = List.range n ++ (List.range (m - n)).map (fun k => n + k) := by
      conv => lhs; rw [show m = n + (m - n) by omega]
      rw [List.range_add]
    rw [eqb, eqb, this, List.countP_append]; omega
  have h1 := hmono (i + 1) l.length (by omega)
  rw [eqb_all] at h1
  have h2 : eqb l (l.getD i 0) (i + 1) = eqb l (l.getD i 0) i + 1 := by
    rw [eqb, List.range_succ, List.countP_append]; simp [eqb]
  omega
theorem le_count (l : List Int) (v : Int) : l.countP (fun x => decide (x ≤ v)) = l.countP (fun x => decide (x < v)) + l.countP (fun x => x == v) := by
  rw [← countP_or (fun x _ => by
    by_cases h : x < v
    · have : (x == v) = false := by rw [beq_eq_false_iff_ne]; omega
      rw [this, Bool.and_false]
    · simp [h])]
  refine List.countP_congr fun x _ => ?_
  simp only [decide_eq_true_eq, Bool.or_eq_true, beq_iff_eq]
  omega

theorem sortI_perm (l : List Int) : (sortI l).Perm l := List.mergeSort_perm _ _
theorem sortI_le {l : List Int} {i j : Nat} (hij : i ≤ j) (hj : j < l.length) : (sortI l).getD i 0 ≤ (sortI l).getD j 0 := by
  have hl := sortI_len l
  have e1 : (sortI l).getD i 0 = (sortI l)[i]'(by omega) := by simp [List.getD_eq_getElem?_getD, show i < (sortI l).length by omega]
  have e2 : (sortI l).getD j 0 = (sortI l)[j]'(by omega) := by simp [List.getD_eq_getElem?_getD, show j < (sortI l).length by omega]
  rcases Nat.lt_or_eq_of_le hij with h | h
  · rw [e1, e2]; exact List.pairwise_iff_getElem.1 (sortI_sorted l) i j _ _ h
  · subst h; exact Int.le_refl _
theorem countP_below {s : List Int} {q : Int → Bool} {m : Nat} (h : ∀ j, m ≤ j → j < s.length → q (s.getD j 0) = false) : s.countP q ≤ m := by
  rw [← List.take_append_drop m s, List.countP_append]
  have h1 : (s.drop m).countP q = 0 := by
    rw [List.countP_eq_zero]
    intro x hx
    obtain ⟨k, hk, rfl⟩ := List.getElem_of_mem hx
    rw [List.length_drop] at hk
    have := h (m + k) (by omega) (by omega)
    rw [List.getElem_drop]
    rw [show s.getD (m + k) 0 = s[m + k] by simp [List.getD_eq_getElem?_getD, show m + k < s.length by omega]] at this
    simp [this]
  have h2 : (s.take m).countP q ≤ (s.take m).length := List.countP_le_length
  rw [List.length_take] at h2
  omega
theorem countP_above {s : List Int} {q : Int → Bool} {m : Nat} (hm : m < s.length) (h : ∀ j, j ≤ m → q (s.getD j 0) = true) : m + 1 ≤ s.countP q := by
  rw [← List.take_append_drop (m + 1) s, List.countP_append]
  have h1 : (s.take (m + 1)).countP q = (s.take (m + 1)).length := by
    rw [List.countP_eq_length]
    intro x hx
    obtain ⟨k, hk, rfl⟩ := List.getElem_of_mem hx
    rw [List.length_take] at hk
    have := h k (by omega)
    rw [List.getElem_take]
    rw [show s.getD k 0 = s[k] by simp [List.getD_eq_getElem?_getD, show k < s.length by omega]] at this
    exact this
  rw [List.length_take] at h1
  omega
section
variable {l : List Int} (hl : l.length ≠ 0)
include hl
theorem mid_lt : (l.length - 1) / 2 < l.length := by omega
theorem med_mem : medI l ∈ l := by
  rw [← mem_sortI]
  have := sortI_len l
  have h : (l.length - 1) / 2 < (sortI l).length := by omega
  rw [medI, show (sortI l).getD ((l.length - 1) / 2) 0 = (sortI l)[(l.length - 1) / 2] by simp [List.getD_eq_getElem?_getD, h]]
  exact List.getElem_mem h
theorem med_below : l.countP (fun x => decide (x < medI l)) ≤ (l.length - 1) / 2 := by
  have _h := hl
  rw [← (sortI_perm l).countP_eq]
  refine countP_below fun j h1 h2 => ?_
  rw [sortI_len] at h2
  have := sortI_le h1 h2
  rw [← medI] at this
  simp only [decide_eq_false_iff_not]; omega
theorem med_upto : (l.length - 1) / 2 + 1 ≤ l.countP (fun x => decide (x ≤ medI l)) := by
  rw [← (sortI_perm l).countP_eq]
  have := sortI_len l
  refine countP_above (by omega) fun j h1 => ?_
  have := sortI_le (l := l) h1 (by omega)
  rw [← medI] at this
  simp only [decide_eq_true_eq]; omega
end
theorem countP_le_of {l : List Int} {p q : Int → Bool} (h : ∀ x, p x = true → q x = true) : l.countP p ≤ l.countP q := List.countP_mono_left fun x _ => h x
theorem rk_med {l : List Int} (hl : l.length ≠ 0) {i : Nat} (hi : i < l.length) (h : rk l i l.length = ((l.length - 1) / 2 : Nat)) : l.getD i 0 = medI l := by
  rw [rk_split l hi] at h
  have h1 := eqb_lt l hi
  have h2 := le_count l (l.getD i 0)
  have h3 := med_below hl
  have h4 := med_upto hl
  rcases Int.lt_trichotomy (l.getD i 0) (medI l) with h5 | h5 | h5
  · have := countP_le_of (l := l) (p := fun x => decide (x ≤ l.getD i 0)) (q := fun x => decide (x < medI l)) fun x hx => by simp only [decide_eq_true_eq] at hx ⊢; omega
    omega
  · exact h5
  · have := countP_le_of (l := l) (p := fun x => decide (x ≤ medI l)) (q := fun x => decide (x < l.getD i 0)) fun x hx => by simp only [decide_eq_true_eq] at hx ⊢; omega
    omega
theorem eqb_hit (l : List Int) (v : Int) (t : Nat) : ∀ n, t < eqb l v n → ∃ i, i < n ∧ l.getD i 0 = v ∧ eqb l v i = t
  | 0, h => by simp [eqb] at h
  | n + 1, h => by
    by_cases h1 : t < eqb l v n
    · obtain ⟨i, h2, h3⟩ := eqb_hit l v t n h1
      exact ⟨i, by omega, h3⟩
    · have e : eqb l v (n + 1) = eqb l v n + (if (l.getD n 0 == v) then 1 else 0) := by
        rw [eqb, List.range_succ, List.countP_append]; simp [eqb]
      rw [e] at h
      by_cases hv : (l.getD n 0 == v) = true
      · rw [if_pos hv] at h
        exact ⟨n, by omega, by simpa using hv, by omega⟩
      · rw [if_neg hv] at h; omega
theorem rk_some {l : List Int} (hl : l.length ≠ 0) : ∃ i, i < l.length ∧ rk l i l.length = ((l.length - 1) / 2 : Nat) := by
  have h3 := med_below hl
  have h4 := med_upto hl
  have h2 := le_count l (medI l)
  have h5 := eqb_all l (medI l)
  obtain ⟨i, h6, h7, h8⟩ := eqb_hit l (medI l) ((l.length - 1) / 2 - l.countP (fun x => decide (x < medI l))) l.length (by omega)
  refine ⟨i, h6, ?_⟩
  rw [rk_split l h6, h7, h8]
  omega
theorem medF_eq {l : List Int} (hl : l.length ≠ 0) (hmid : midE l = ((l.length - 1) / 2 : Nat)) : ∀ n i, i + n = l.length → (∃ j, i ≤ j ∧ j < l.length ∧ rk l j l.length = ((l.length - 1) / 2 : Nat)) → medF l i n = .tup [vI (medI l), vI 0]
  | 0, i, h, ⟨j, h1, h2, _⟩ => by omega
  | n + 1, i, h, ⟨j, h1, h2, h3⟩ => by
    rw [medF, hmid]
    by_cases hr : rk l i l.length = ((l.length - 1) / 2 : Nat)
    · rw [if_pos (by rw [hr]; simp), rk_med hl (by omega) hr]
    · rw [if_neg (by simpa using hr)]
      refine medF_eq hl hmid n (i + 1) (by omega) ⟨j, ?_, h2, h3⟩
      rcases Nat.lt_or_eq_of_le h1 with h4 | h4
      · exact h4
      · subst h4; exact absurd h3 hr
theorem medR_eq (l : List Int) : medR l = medG l := by
  unfold medR medG
  split
  · rfl
  split
  · rfl
  rename_i h1 h2
  have e1 : IntKind.i64.wrap ((l.length : Int) - 1) = (l.length : Int) - 1 := w64 _ (by omega) (by omega)
  have e2 : ((l.length : Int) - 1).tdiv 2 = ((l.length - 1) / 2 : Nat) := by
    rw [Int.tdiv_eq_ediv_of_nonneg (by omega)]; omega
  obtain ⟨i, h3, h4⟩ := rk_some h2
  exact medF_eq h2 (by rw [midE, e1, e2, w64 _ (by omega) (by omega)]) l.length 0 (by omega) ⟨i, Nat.zero_le _, h3, h4⟩
theorem g14 (l : List Int) : FCall Try.prog 14 [lI l] (medG l) := by rw [← medR_eq]; exact f14 l
end Go.Proofs.Ytmdgbejfdcfhpaa
