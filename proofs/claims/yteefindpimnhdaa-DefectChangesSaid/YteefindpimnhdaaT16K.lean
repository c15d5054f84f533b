import Derived.Test.YteefindpimnhdaaT16J
namespace Go.Proofs.Yteefindpimnhdaa
open Go.Sym
set_option linter.unusedVariables false
set_option linter.unusedSimpArgs false

/-! ### What the spans are -/
theorem hit_seg {l : List Df} {d : Df} (hd : d ∈ l) {j : Nat} (hj : j + 1 < (bs l).length) {t m k : Int} (h1 : (bs l).getD j 0 ≤ m) (h2 : m < (bs l).getD (j + 1) 0) : hit d t m k = hit d t ((bs l).getD j 0) k := by
  have next : ∀ x, x ∈ bord l l.length → x ≤ m → x ≤ (bs l).getD j 0 := fun x hx hle => by
    obtain ⟨i, hi, he⟩ := srt_has hx
    have hi' : i < (bs l).length := hi
    have he' : (bs l).getD i 0 = x := he
    by_cases h : i ≤ j
    · have := bs_mono (l := l) h (by omega); omega
    · have := bs_mono (l := l) (i := j + 1) (j := i) (by omega) hi'; omega
  have a1 := next d.frm (mem_bord.2 (.inr (.inr ⟨d, hd, .inl rfl⟩)))
  have a2 := next (d.til + 1) (mem_bord.2 (.inr (.inr ⟨d, hd, .inr rfl⟩)))
  unfold hit
  have e1 : decide (d.frm ≤ m) = decide (d.frm ≤ (bs l).getD j 0) := by
    rw [Bool.eq_iff_iff]; simp only [decide_eq_true_iff]
    exact ⟨a1, fun h => by omega⟩
  have e2 : decide (m ≤ d.til) = decide ((bs l).getD j 0 ≤ d.til) := by
    rw [Bool.eq_iff_iff]; simp only [decide_eq_true_iff]
    constructor
    · intro h; omega
    · intro h
      by_cases hh : m ≤ d.til
      · exact hh
      · have := a2 (by omega); omega
  rw [e1, e2]
theorem any_congr' {α : Type} {p q : α → Bool} {l : List α} (h : ∀ x, x ∈ l → p x = q x) : l.any p = l.any q := by
  induction l with
  | nil => rfl
  | cons x l ih => rw [List.any_cons, List.any_cons, h x List.mem_cons_self, ih fun y hy => h y (List.mem_cons_of_mem _ hy)]
theorem mask_seg {l : List Df} {j : Nat} (hj : j + 1 < (bs l).length) {t m k : Int} (h1 : (bs l).getD j 0 ≤ m) (h2 : m < (bs l).getD (j + 1) 0) : mask l t m k = mask l t ((bs l).getD j 0) k := by
  have : ∀ c, cov l t m k c = cov l t ((bs l).getD j 0) k c := fun c => any_congr' fun d hd => by rw [hit_seg hd hj h1 h2]
  simp only [mask, this]
theorem diff_seg {l : List Df} {j : Nat} (hj : j + 1 < (bs l).length) {t one two m : Int} (h1 : (bs l).getD j 0 ≤ m) (h2 : m < (bs l).getD (j + 1) 0) : diff l t one two m = diff l t one two ((bs l).getD j 0) := by
  unfold diff; rw [mask_seg hj h1 h2, mask_seg hj h1 h2]

theorem last_split {l : List Sp} (h : 0 < l.length) : ∃ p, l = p ++ [lastSp l] := by
  have hne : l ≠ [] := fun e => by subst e; simp at h
  refine ⟨l.dropLast, ?_⟩
  have e : lastSp l = l.getLast hne := by
    rw [List.getLast_eq_getElem, lastSp, getSp (by omega)]
  rw [e, List.dropLast_concat_getLast]
theorem set_last {p : List Sp} {q x : Sp} : (p ++ [q]).set ((p ++ [q]).length - 1) x = p ++ [x] := by
  simp
def GapOk (l : List Sp) (b : Int) : Prop := l.Pairwise (fun x y => x.til + 2 ≤ y.frm) ∧ ∀ s, s ∈ l → 0 ≤ s.frm ∧ s.frm ≤ s.til ∧ s.til < b
theorem inside_append (p q : List Sp) (m : Int) : inside (p ++ q) m = (inside p m || inside q m) := by simp [inside]
theorem inside_one (s : Sp) (m : Int) : inside [s] m = true ↔ (s.frm ≤ m ∧ m ≤ s.til) := by simp [inside]
theorem addSp_ok {l : List Sp} {s : Sp} {b b' : Int} (h : GapOk l b) (hb : b ≤ 38400) (h0 : 0 ≤ b) (hs : s.frm = b) (hs2 : s.til + 1 = b') (hbb : b < b') (hb' : b' ≤ 38400) :
    GapOk (addSp l s) b' ∧ ∀ m, inside (addSp l s) m = true ↔ (inside l m = true ∨ (b ≤ m ∧ m < b')) := by
  by_cases hl : 0 < l.length
  · obtain ⟨p, hp⟩ := last_split hl
    have hq := h.2 (lastSp l) (by rw [lastSp, getSp (by omega)]; exact List.getElem_mem _)
    generalize hqq : lastSp l = q at hp hq
    by_cases hj : joins l s = true
    · have hjq : q.til + 1 = s.frm := by
        simp only [joins, Bool.and_eq_true, beq_iff_eq] at hj
        rw [hqq, w64 (q.til + 1) (by omega) (by omega)] at hj
        exact hj.2
      have e : addSp l s = p ++ [⟨q.frm, s.til⟩] := by
        rw [addSp, if_pos hj, hqq]
        conv => lhs; rw [hp]
        exact set_last
      rw [e]
      obtain ⟨g1, g2⟩ := h
      rw [hp] at g1 g2
      rw [List.pairwise_append] at g1
      refine ⟨⟨?_, ?_⟩, fun m => ?_⟩
      · rw [List.pairwise_append]
        refine ⟨g1.1, by simp, fun x hx y hy => ?_⟩
        simp only [List.mem_singleton] at hy
        subst hy
        exact g1.2.2 x hx q (by simp)
      · intro x hx
        rcases List.mem_append.1 hx with hx | hx
        · have := g2 x (List.mem_append_left _ hx); omega
        · simp only [List.mem_singleton] at hx
          subst hx
          simp only
          omega
      · rw [hp, inside_append, inside_append]
        simp [inside]
        by_cases hin : ∃ x, x ∈ p ∧ x.frm ≤ m ∧ m ≤ x.til
        · simp [hin]
        · simp only [hin, false_or]; omega
    · have hj' : joins l s = false := by simpa using hj
      have hjq : q.til + 1 ≠ s.frm := fun he => by
        apply hj
        have h1 : (l.length : Int) > 0 := by omega
        have hw := w64 (q.til + 1) (by omega) (by omega)
        rw [joins, hqq, hw, he]
        simp [hl]
      have e : addSp l s = l ++ [s] := by rw [addSp, hj']; rfl
      rw [e]
      obtain ⟨g1, g2⟩ := h
      refine ⟨⟨?_, ?_⟩, fun m => ?_⟩
      · rw [List.pairwise_append]
        refine ⟨g1, by simp, fun x hx y hy => ?_⟩
        simp only [List.mem_singleton] at hy
        subst hy
        rw [hp] at hx g1
        rw [List.pairwise_append] at g1
        rcases List.mem_append.1 hx with hx | hx
        · have := g1.2.2 x hx q (by simp); omega
        · simp only [List.mem_singleton] at hx; subst hx; omega
      · intro x hx
        rcases List.mem_append.1 hx with hx | hx
        · have := g2 x hx; omega
        · simp only [List.mem_singleton] at hx; subst hx; omega
      · rw [inside_append, Bool.or_eq_true, inside_one]
        have : (s.frm ≤ m ∧ m ≤ s.til) ↔ (b ≤ m ∧ m < b') := by omega
        rw [this]
  · have hn : l = [] := List.eq_nil_of_length_eq_zero (by omega)
    subst hn
    have e : addSp [] s = [s] := by simp [addSp, joins]
    rw [e]
    refine ⟨⟨by simp, fun x hx => ?_⟩, fun m => ?_⟩
    · simp only [List.mem_singleton] at hx; subst hx; omega
    · simp only [inside, List.any_cons, List.any_nil, Bool.or_false, Bool.and_eq_true, decide_eq_true_iff, Bool.false_eq_true, false_or]; omega
theorem chgF_ok {l : List Df} (hv : valid l = true) (t one two : Int) : ∀ n, n + 1 ≤ (bs l).length → GapOk (chgF l t one two (bs l) n) ((bs l).getD n 0) ∧
    ∀ m, 0 ≤ m → (inside (chgF l t one two (bs l) n) m = true ↔ (m < (bs l).getD n 0 ∧ diff l t one two m = true)) := by
  intro n
  induction n with
  | zero =>
    intro h
    have z : (bs l).getD 0 0 = 0 := by
      obtain ⟨i, hi, he⟩ := srt_has (zs := bord l l.length) (x := 0) (mem_bord.2 (.inl rfl))
      have hi' : i < (bs l).length := hi
      have he' : (bs l).getD i 0 = 0 := he
      have a1 := bs_mono (l := l) (i := 0) (j := i) (by omega) hi'
      have a2 := bs_get hv (show 0 < (bs l).length by omega)
      omega
    refine ⟨⟨by simp [chgF], fun s hs => by simp [chgF] at hs⟩, fun m hm => ?_⟩
    rw [z]
    simp [chgF, inside]
    omega
  | succ n ih =>
    intro h
    obtain ⟨i1, i2⟩ := ih (by omega)
    have b1 := bs_get hv (show n < (bs l).length by omega)
    have b2 := bs_get hv (show n + 1 < (bs l).length by omega)
    have b3 := bs_strict (l := l) (i := n) (j := n + 1) (by omega) (by omega)
    simp only [chgF]
    split
    · rename_i hd
      obtain ⟨o1, o2⟩ := addSp_ok (s := ⟨(bs l).getD n 0, (bs l).getD (n + 1) 0 - 1⟩) i1 b1.2 b1.1 rfl (by simp only; omega) b3 b2.2
      refine ⟨o1, fun m hm => ?_⟩
      rw [o2 m, i2 m hm]
      constructor
      · rintro (⟨h1, h2⟩ | ⟨h1, h2⟩)
        · exact ⟨by omega, h2⟩
        · exact ⟨h2, by rw [diff_seg (by omega) h1 h2]; exact hd⟩
      · rintro ⟨h1, h2⟩
        by_cases hlt : m < (bs l).getD n 0
        · exact .inl ⟨hlt, h2⟩
        · exact .inr ⟨by omega, h1⟩
    · rename_i hd
      refine ⟨⟨i1.1, fun s hs => by have := i1.2 s hs; omega⟩, fun m hm => ?_⟩
      rw [i2 m hm]
      constructor
      · rintro ⟨h1, h2⟩; exact ⟨by omega, h2⟩
      · rintro ⟨h1, h2⟩
        by_cases hlt : m < (bs l).getD n 0
        · exact ⟨hlt, h2⟩
        · rw [diff_seg (j := n) (by omega) (by omega) h1] at h2
          exact absurd h2 hd
theorem bs_last {l : List Df} (hv : valid l = true) : (bs l).getD ((bs l).length - 1) 0 = 38400 := by
  obtain ⟨i, hi, he⟩ := srt_has (zs := bord l l.length) (x := 38400) (mem_bord.2 (.inr (.inl rfl)))
  have hi' : i < (bs l).length := hi
  have he' : (bs l).getD i 0 = 38400 := he
  have a1 := bs_mono (l := l) (i := i) (j := (bs l).length - 1) (by omega) (by omega)
  have a2 := bs_get hv (show (bs l).length - 1 < (bs l).length by omega)
  omega
theorem chgs_ok {l : List Df} (hv : valid l = true) (t one two : Int) : GapOk (chgs l t one two) 38400 ∧ ∀ m, 0 ≤ m → m ≤ 38399 → inside (chgs l t one two) m = diff l t one two m := by
  have h2 := bs_two l
  obtain ⟨a1, a2⟩ := chgF_ok hv t one two ((bs l).length - 1) (by omega)
  rw [bs_last hv] at a1 a2
  refine ⟨a1, fun m h0 h1 => ?_⟩
  rw [Bool.eq_iff_iff]
  have := a2 m h0
  rw [chgs, this]
  exact ⟨fun h => h.2, fun h => ⟨by omega, h⟩⟩
theorem diff_swap (l : List Df) (t one two b : Int) : diff l t two one b = diff l t one two b := by
  unfold diff
  congr 1
  rw [Bool.eq_iff_iff]
  simp only [decide_eq_true_iff]
  exact ⟨Eq.symm, Eq.symm⟩
theorem chgF_swap (l : List Df) (t one two : Int) (b : List Int) : ∀ n, chgF l t two one b n = chgF l t one two b n := by
  intro n
  induction n with
  | zero => rfl
  | succ n ih => simp only [chgF, diff_swap l t one two, ih]
theorem chgF_same (l : List Df) (t one : Int) (b : List Int) : ∀ n, chgF l t one one b n = [] := by
  intro n
  induction n with
  | zero => rfl
  | succ n ih => simp [chgF, diff, ih]
theorem askOk_iff (l : List Df) (t v k : Int) : askOk l t v k = true ↔ valid l = true ∧ tel t = true ∧ mom v = true ∧ mom k = true := by
  simp only [askOk, Bool.and_eq_true]
  constructor
  · rintro ⟨⟨⟨a, b⟩, c⟩, d⟩; exact ⟨a, b, c, d⟩
  · rintro ⟨a, b, c, d⟩; exact ⟨⟨⟨a, b⟩, c⟩, d⟩

end Go.Proofs.Yteefindpimnhdaa
