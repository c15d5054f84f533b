import Derived.Test.YteefindpimnhdaaT16E
namespace Go.Proofs.Yteefindpimnhdaa
open Go.Sym
set_option linter.unusedVariables false
set_option linter.unusedSimpArgs false

/-! ### The next border -/
def step1 (m n : Int) (d : Df) : Int := if d.frm > m then (if d.frm < n then d.frm else n) else n
def step2 (m n : Int) (d : Df) : Int := if d.til ≥ m then (if d.til + 1 < n then d.til + 1 else n) else n
def nxt (l : List Df) (m : Int) (k : Nat) : Int := (l.take k).foldl (fun n d => step2 m (step1 m n d) d) 38400
theorem nxt_step {l : List Df} {m : Int} {k : Nat} (h : k < l.length) : nxt l m (k + 1) = step2 m (step1 m (nxt l m k) (l.getD k zDf)) (l.getD k zDf) := by
  rw [nxt, take_get h, List.foldl_append]; rfl
theorem nxt_inv {l : List Df} {m : Int} (hm : m < 38400) : ∀ k, k ≤ l.length → m < nxt l m k ∧ nxt l m k ≤ 38400 ∧ (nxt l m k = 38400 ∨ ∃ j, j < k ∧ (nxt l m k = (l.getD j zDf).frm ∨ nxt l m k = (l.getD j zDf).til + 1)) ∧
    ∀ j, j < k → ((l.getD j zDf).frm > m → nxt l m k ≤ (l.getD j zDf).frm) ∧ ((l.getD j zDf).til + 1 > m → nxt l m k ≤ (l.getD j zDf).til + 1) := by
  intro k
  induction k with
  | zero => intro _; exact ⟨by simp [nxt]; omega, by simp [nxt], .inl (by simp [nxt]), fun j hj => by omega⟩
  | succ k ih =>
    intro hk
    obtain ⟨h1, h2, h3, h4⟩ := ih (by omega)
    rw [nxt_step (by omega)]
    generalize hn : nxt l m k = n at h1 h2 h3 h4 ⊢
    generalize hd : l.getD k zDf = d
    have a1 : m < step1 m n d ∧ step1 m n d ≤ n ∧ (step1 m n d = n ∨ step1 m n d = d.frm) ∧ (d.frm > m → step1 m n d ≤ d.frm) := by
      unfold step1; split <;> (try split) <;> omega
    generalize step1 m n d = n1 at a1 ⊢
    have a2 : m < step2 m n1 d ∧ step2 m n1 d ≤ n1 ∧ (step2 m n1 d = n1 ∨ step2 m n1 d = d.til + 1) ∧ (d.til + 1 > m → step2 m n1 d ≤ d.til + 1) := by
      unfold step2; split <;> (try split) <;> omega
    generalize step2 m n1 d = n2 at a2 ⊢
    refine ⟨a2.1, by omega, ?_, fun j hj => ?_⟩
    · rcases a2.2.2.1 with e | e
      · rcases a1.2.2.1 with e' | e'
        · rcases h3 with e3 | ⟨j, hj, e3⟩
          · left; omega
          · right; exact ⟨j, by omega, by rw [e, e']; exact e3⟩
        · right; exact ⟨k, by omega, by rw [hd]; left; omega⟩
      · right; exact ⟨k, by omega, by rw [hd]; right; omega⟩
    · by_cases hjk : j < k
      · have := h4 j hjk
        constructor
        · intro hh; have := this.1 hh; omega
        · intro hh; have := this.2 hh; omega
      · have : j = k := by omega
        subst this
        rw [hd]
        constructor
        · intro hh; have := a1.2.2.2 hh; omega
        · exact a2.2.2.2
theorem getDf {l : List Df} {j : Nat} (h : j < l.length) : l.getD j zDf = l[j] := by simp [List.getD_eq_getElem?_getD, h]
theorem bs_mono {l : List Df} {i j : Nat} (hij : i ≤ j) (hj : j < (bs l).length) : (bs l).getD i 0 ≤ (bs l).getD j 0 := by
  by_cases h : i = j
  · subst h; omega
  · have := srt_lt (zs := bord l l.length) (i := i) (j := j) (by omega) hj
    exact Int.le_of_lt this
theorem bs_strict {l : List Df} {i j : Nat} (hij : i < j) (hj : j < (bs l).length) : (bs l).getD i 0 < (bs l).getD j 0 := srt_lt (zs := bord l l.length) hij hj
theorem nxt_bs {l : List Df} {k : Nat} (hk : k < (bs l).length) (hm0 : 0 ≤ (bs l).getD k 0) (hm : (bs l).getD k 0 < 38400) : k + 1 < (bs l).length ∧ nxt l ((bs l).getD k 0) l.length = (bs l).getD (k + 1) 0 := by
  have up : ∀ {j : Nat}, j < (bs l).length → (bs l).getD k 0 < (bs l).getD j 0 → k + 1 ≤ j := fun {j} hj hlt => by
    by_cases h : k + 1 ≤ j
    · exact h
    · have := bs_mono (l := l) (i := j) (j := k) (by omega) hk; omega
  obtain ⟨j, hj, he⟩ := srt_has (zs := bord l l.length) (x := 38400) (mem_bord.2 (.inr (.inl rfl)))
  have hj' : j < (bs l).length := hj
  have he' : (bs l).getD j 0 = 38400 := he
  have hk1 : k + 1 < (bs l).length := by have := up hj' (by omega); omega
  refine ⟨hk1, ?_⟩
  obtain ⟨h1, h2, h3, h4⟩ := nxt_inv (l := l) hm l.length (Nat.le_refl _)
  have hin : nxt l ((bs l).getD k 0) l.length ∈ bord l l.length := by
    rcases h3 with h | ⟨j, hj, h⟩
    · rw [h]; exact mem_bord.2 (.inr (.inl rfl))
    · exact mem_bord.2 (.inr (.inr ⟨l.getD j zDf, by rw [getDf hj]; exact List.getElem_mem hj, h⟩))
  obtain ⟨i, hi, hie⟩ := srt_has hin
  have hi' : i < (bs l).length := hi
  have hie' : (bs l).getD i 0 = nxt l ((bs l).getD k 0) l.length := hie
  have a1 := bs_mono (up hi' (by omega)) hi'
  have a2 := bs_strict (l := l) (i := k) (j := k + 1) (by omega) hk1
  have a3 : nxt l ((bs l).getD k 0) l.length ≤ (bs l).getD (k + 1) 0 := by
    have := srt_get (zs := bord l l.length) hk1
    rcases mem_bord.1 this with h | h | ⟨d, hd, h⟩
    · have h' : (bs l).getD (k + 1) 0 = 0 := h
      omega
    · have h' : (bs l).getD (k + 1) 0 = 38400 := h
      omega
    · have h' : (bs l).getD (k + 1) 0 = d.frm ∨ (bs l).getD (k + 1) 0 = d.til + 1 := h
      obtain ⟨q, hq, rfl⟩ := List.getElem_of_mem hd
      have := h4 q hq
      rw [getDf hq] at this
      rcases h' with h' | h'
      · have := this.1 (by omega); omega
      · have := this.2 (by omega); omega
  omega

end Go.Proofs.Yteefindpimnhdaa
