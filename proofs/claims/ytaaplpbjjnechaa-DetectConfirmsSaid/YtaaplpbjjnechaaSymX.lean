/-
  THE SYMBOLIC LAYER, PART X: sorted lists of integers without repetition.
-/
import Derived.Test.YtaaplpbjjnechaaSymW
import Derived.Lib.SlicesCompact
namespace Go.Sym
set_option linter.unusedVariables false
set_option linter.unusedSimpArgs false

def srt (zs : List Int) : List Int := Lib.compact (sortI zs)

theorem arr_get {zs : List Int} {j : Nat} (h : j < zs.length) : zs.toArray[j]! = zs[j] := by simp [h]

theorem mem_upTo (d : Array Int) (x : Int) : ∀ m, x ∈ Lib.compactUpTo d m ↔ ∃ j, j < m ∧ d[j]! = x := by
  intro m
  induction m with
  | zero => simp [Lib.compactUpTo]
  | succ m ih =>
    rw [Lib.compactUpTo_succ, List.mem_append, ih]
    constructor
    · rintro (⟨j, h1, h2⟩ | h)
      · exact ⟨j, by omega, h2⟩
      · split at h
        · simp only [List.mem_singleton] at h
          exact ⟨m, by omega, h.symm⟩
        · cases h
    · rintro ⟨j, h1, h2⟩
      by_cases hj : j < m
      · exact .inl ⟨j, hj, h2⟩
      · have : j = m := by omega
        subst this
        by_cases hk : Lib.keeps d j = true
        · right; rw [if_pos hk]; simp [h2]
        · left
          by_cases h0 : j = 0
          · subst h0; exact absurd (Lib.keeps_lt_one d 0 (by omega)) hk
          · by_cases he : d[j]! = d[j - 1]!
            · exact ⟨j - 1, by omega, by rw [← he]; exact h2⟩
            · exact absurd (Lib.keeps_pos he) hk
theorem mem_compact (zs : List Int) (x : Int) : x ∈ Lib.compact zs ↔ x ∈ zs := by
  rw [Lib.compact, mem_upTo, List.mem_iff_getElem]
  constructor
  · rintro ⟨j, h1, h2⟩; exact ⟨j, h1, by rw [← arr_get h1]; exact h2⟩
  · rintro ⟨j, h1, h2⟩; exact ⟨j, h1, by rw [arr_get h1]; exact h2⟩

theorem upTo_sorted (d : Array Int) (n : Nat) (hs : ∀ i j, i ≤ j → j < n → d[i]! ≤ d[j]!) : ∀ m, m ≤ n → (Lib.compactUpTo d m).Pairwise (· < ·) := by
  intro m
  induction m with
  | zero => intro _; simp [Lib.compactUpTo]
  | succ m ih =>
    intro hm
    rw [Lib.compactUpTo_succ, List.pairwise_append]
    refine ⟨ih (by omega), by split <;> simp, fun x hx y hy => ?_⟩
    split at hy
    case isFalse => cases hy
    rename_i hk
    simp only [List.mem_singleton] at hy
    subst hy
    obtain ⟨j, h1, rfl⟩ := (mem_upTo d x m).1 hx
    have h0 : 0 < m := by omega
    have hne : d[m]! ≠ d[m - 1]! := fun he => by rw [Lib.keeps_neg h0 he] at hk; cases hk
    have a1 := hs j (m - 1) (by omega) (by omega)
    have a2 := hs (m - 1) m (by omega) (by omega)
    omega

theorem sortI_sorted (zs : List Int) : (sortI zs).Pairwise (· ≤ ·) := by
  have := List.pairwise_mergeSort (le := fun x y : Int => decide (x ≤ y)) (fun a b c => by simp; omega) (fun a b => by simp; omega) zs
  exact this.imp (fun h => by simpa using h)
theorem mem_sortI (zs : List Int) (x : Int) : x ∈ sortI zs ↔ x ∈ zs := by simp [sortI]

theorem mem_srt (zs : List Int) (x : Int) : x ∈ srt zs ↔ x ∈ zs := by rw [srt, mem_compact, mem_sortI]
theorem srt_sorted (zs : List Int) : (srt zs).Pairwise (· < ·) := by
  refine upTo_sorted _ (sortI zs).length (fun i j hij hj => ?_) _ (Nat.le_refl _)
  rw [arr_get hj, arr_get (by omega)]
  by_cases h : i = j
  · subst h; omega
  · exact List.pairwise_iff_getElem.1 (sortI_sorted zs) i j (by omega) hj (by omega)
theorem srt_len (zs : List Int) : (srt zs).length ≤ zs.length := by
  have := Lib.compact_length_le (sortI zs); rw [sortI_len] at this; exact this
theorem srt_lt {zs : List Int} {i j : Nat} (hij : i < j) (hj : j < (srt zs).length) : (srt zs).getD i 0 < (srt zs).getD j 0 := by
  have := List.pairwise_iff_getElem.1 (srt_sorted zs) i j (by omega) hj hij
  have hi : i < (srt zs).length := by omega
  simpa [List.getD_eq_getElem?_getD, hi, hj] using this
theorem srt_get {zs : List Int} {i : Nat} (hi : i < (srt zs).length) : (srt zs).getD i 0 ∈ zs := by
  have : (srt zs).getD i 0 ∈ srt zs := by simp [List.getD_eq_getElem?_getD, hi]
  exact (mem_srt zs _).1 this
theorem srt_has {zs : List Int} {x : Int} (h : x ∈ zs) : ∃ i, i < (srt zs).length ∧ (srt zs).getD i 0 = x := by
  obtain ⟨i, hi, he⟩ := List.getElem_of_mem ((mem_srt zs x).2 h)
  exact ⟨i, hi, by simpa [List.getD_eq_getElem?_getD, hi] using he⟩

theorem uniq_sorted : ∀ {a b : List Int}, a.Pairwise (· < ·) → b.Pairwise (· < ·) → (∀ x, x ∈ a ↔ x ∈ b) → a = b := by
  intro a
  induction a with
  | nil => intro b _ _ h; cases b with
    | nil => rfl
    | cons y b => exact absurd ((h y).2 List.mem_cons_self) (by simp)
  | cons x a ih => intro b ha hb h; cases b with
    | nil => exact absurd ((h x).1 List.mem_cons_self) (by simp)
    | cons y b =>
      rw [List.pairwise_cons] at ha hb
      have hxy : x = y := by
        rcases List.mem_cons.1 ((h x).1 List.mem_cons_self) with h1 | h1
        · exact h1
        · rcases List.mem_cons.1 ((h y).2 List.mem_cons_self) with h2 | h2
          · exact h2.symm
          · have := hb.1 x h1; have := ha.1 y h2; omega
      subst hxy
      rw [ih ha.2 hb.2 fun z => ?_]
      constructor
      · intro hz
        rcases List.mem_cons.1 ((h z).1 (List.mem_cons_of_mem _ hz)) with h1 | h1
        · have := ha.1 z hz; omega
        · exact h1
      · intro hz
        rcases List.mem_cons.1 ((h z).2 (List.mem_cons_of_mem _ hz)) with h1 | h1
        · have := hb.1 z hz; omega
        · exact h1
theorem srt_eq {a b : List Int} (h : ∀ x, x ∈ a ↔ x ∈ b) : srt a = srt b := uniq_sorted (srt_sorted a) (srt_sorted b) fun x => by rw [mem_srt, mem_srt]; exact h x

/-- An own row without elements, out of nothing. -/
theorem wk_mkRow {P : Program} {s : S} (r e sz : Nat) (hm : s.m[r]? = some none) (hsz : 0 < sz) : Wk P s { s with m := s.m.set r (some (.row e sz [])) } := by
  intro B E a w hs
  obtain ⟨E', hle, hK, hrw, hh, hc⟩ := core_nilRow (e := e) hs.core hm hsz
  exact ⟨E', hs.le hle hc, hK, hle.c, hh⟩

end Go.Sym
