/-
  THE SYMBOLIC LAYER, PART Y: the stable order of a list by a key; plain lists, no program.
-/
import Derived.Test.YtaaplpbjjnechaaSymX
namespace Go.Sym
set_option linter.unusedVariables false
set_option linter.unusedSimpArgs false

/-- A state of a function that is handed own things: the slots, and M names. -/
def mkO (n M : Nat) (t : List (Nat × SV)) (m : List (Nat × MO)) : S := ⟨tabT t n 0, tabM m M 0, []⟩

/-- What the address of an element of an own row asks, and a load or store there. -/
abbrev QAt (j : Int) (n : Nat) (css : List (List C)) : Prop := (0 ≤ j ∧ j < (n : Int)) ∧ n = css.length
abbrev QEl (n i : Nat) (css : List (List C)) (c : List C) : Prop := (n = css.length ∧ i < n) ∧ css.getD i [] = c

theorem getD_mid {α : Type} {A R : List α} {x z : α} {i : Nat} (h : i = A.length) : (A ++ x :: R).getD i z = x := by
  subst h; simp [List.getD_eq_getElem?_getD]
theorem set_mid {α : Type} {A R : List α} {x y : α} {i : Nat} (h : i = A.length) : (A ++ x :: R).set i y = A ++ y :: R := by
  subst h; simp
theorem set_mid2 {α : Type} {A M R : List α} {x x' y y' : α} {i j : Nat} (h : i = A.length) (h2 : j = A.length + 1 + M.length) : ((A ++ x :: (M ++ y :: R)).set i x').set j y' = A ++ x' :: (M ++ y' :: R) := by
  rw [set_mid h]
  have e : A ++ x' :: (M ++ y :: R) = (A ++ x' :: M) ++ y :: R := by simp
  rw [e, set_mid (by simp; omega)]; simp
theorem set_mid2' {α : Type} {A M R : List α} {x x' y y' : α} {i j : Nat} (h : i = A.length) (h2 : j = A.length + 1 + M.length) : ((A ++ x :: (M ++ y :: R)).set j y').set i x' = A ++ x' :: (M ++ y' :: R) := by
  have e : A ++ x :: (M ++ y :: R) = (A ++ x :: M) ++ y :: R := by simp
  rw [e, set_mid (by simp; omega)]
  have e2 : (A ++ x :: M) ++ y' :: R = A ++ x :: (M ++ y' :: R) := by simp
  rw [e2, set_mid h]

section
variable {α : Type} (key : α → Int)

/-- x behind those that are not greater. -/
def insR (x : α) : List α → List α
  | [] => [x]
  | y :: ys => if key x < key y then x :: y :: ys else y :: insR x ys
/-- The elements of B put into A, one by one. -/
def mrg (A B : List α) : List α := B.foldl (fun s x => insR key x s) A
def isort (l : List α) : List α := mrg key [] l
def Sorted (l : List α) : Prop := l.Pairwise fun a b => key a ≤ key b

theorem insR_perm (x : α) : ∀ l : List α, (insR key x l).Perm (x :: l)
  | [] => List.Perm.refl _
  | y :: ys => by
    unfold insR
    split
    · exact List.Perm.refl _
    · exact ((insR_perm x ys).cons y).trans (List.Perm.swap x y ys)
theorem insR_len (x : α) (l : List α) : (insR key x l).length = l.length + 1 := by rw [(insR_perm key x l).length_eq]; rfl
theorem mem_insR {x y : α} {l : List α} : y ∈ insR key x l ↔ y = x ∨ y ∈ l := by rw [(insR_perm key x l).mem_iff]; simp
theorem insR_sorted {x : α} : ∀ {l : List α}, Sorted key l → Sorted key (insR key x l)
  | [], _ => by simp [insR, Sorted]
  | y :: ys, h => by
    unfold insR
    have hc := List.pairwise_cons.1 h
    split
    · rename_i hlt
      refine List.pairwise_cons.2 ⟨fun z hz => ?_, h⟩
      rcases List.mem_cons.1 hz with rfl | hz
      · omega
      · have := hc.1 z hz; omega
    · rename_i hlt
      refine List.pairwise_cons.2 ⟨fun z hz => ?_, insR_sorted hc.2⟩
      rcases (mem_insR key).1 hz with rfl | hz
      · omega
      · exact hc.1 z hz
theorem mrg_cons (A : List α) (x : α) (B : List α) : mrg key A (x :: B) = mrg key (insR key x A) B := rfl
theorem mrg_nil (A : List α) : mrg key A [] = A := rfl
theorem mrg_append (A B C : List α) : mrg key A (B ++ C) = mrg key (mrg key A B) C := by simp [mrg, List.foldl_append]
theorem mrg_one (A : List α) (x : α) : mrg key A [x] = insR key x A := rfl
theorem mrg_sorted : ∀ {B A : List α}, Sorted key A → Sorted key (mrg key A B)
  | [], _, h => h
  | _ :: B, _, h => mrg_sorted (B := B) (insR_sorted key h)
theorem mrg_perm : ∀ (B A : List α), (mrg key A B).Perm (A ++ B)
  | [], A => by rw [mrg_nil, List.append_nil]
  | x :: B, A => by
    rw [mrg_cons]
    refine (mrg_perm B _).trans ?_
    refine ((insR_perm key x A).append_right B).trans ?_
    exact List.perm_middle.symm
theorem mrg_len (A B : List α) : (mrg key A B).length = A.length + B.length := by rw [(mrg_perm key B A).length_eq, List.length_append]
theorem mem_mrg {A B : List α} {x : α} : x ∈ mrg key A B ↔ x ∈ A ∨ x ∈ B := by rw [(mrg_perm key B A).mem_iff, List.mem_append]
theorem isort_sorted (l : List α) : Sorted key (isort key l) := mrg_sorted key List.Pairwise.nil
theorem isort_perm (l : List α) : (isort key l).Perm l := mrg_perm key l []
theorem isort_len (l : List α) : (isort key l).length = l.length := (isort_perm key l).length_eq
theorem mem_isort {l : List α} {x : α} : x ∈ isort key l ↔ x ∈ l := (isort_perm key l).mem_iff
theorem isort_nil : isort key [] = [] := rfl

theorem insR_left {x : α} {R : List α} (h : ∀ a, a ∈ R → key x < key a) : ∀ L : List α, insR key x (L ++ R) = insR key x L ++ R
  | [] => by
    cases R with
    | nil => rfl
    | cons a R => simp [insR, h a (List.mem_cons_self ..)]
  | y :: L => by
    simp only [List.cons_append, insR]
    split
    · rfl
    · rw [insR_left h L]; rfl
theorem insR_right {x : α} (R : List α) : ∀ {L : List α}, (∀ a, a ∈ L → key a ≤ key x) → insR key x (L ++ R) = L ++ insR key x R
  | [], _ => rfl
  | y :: L, h => by
    have := h y (List.mem_cons_self ..)
    simp only [List.cons_append, insR]
    rw [if_neg (by omega), insR_right R (L := L) fun a ha => h a (List.mem_cons_of_mem _ ha)]
/-- The place of x. -/
theorem insR_at {x : α} {L R : List α} (hl : ∀ a, a ∈ L → key a ≤ key x) (hr : ∀ a, a ∈ R → key x < key a) : insR key x (L ++ R) = L ++ x :: R := by
  rw [insR_right key R hl]
  have := insR_left key hr []
  simp only [List.nil_append, insR] at this
  rw [this]; rfl
theorem mrg_left {R : List α} : ∀ {B L : List α}, (∀ b, b ∈ B → ∀ a, a ∈ R → key b < key a) → mrg key (L ++ R) B = mrg key L B ++ R
  | [], _, _ => rfl
  | b :: B, L, h => by
    rw [mrg_cons, mrg_cons, insR_left key (h b (List.mem_cons_self ..)), mrg_left (B := B) fun b hb => h b (List.mem_cons_of_mem _ hb)]
theorem mrg_right {L : List α} : ∀ {B R : List α}, (∀ b, b ∈ B → ∀ a, a ∈ L → key a ≤ key b) → mrg key (L ++ R) B = L ++ mrg key R B
  | [], _, _ => rfl
  | b :: B, R, h => by
    rw [mrg_cons, mrg_cons, insR_right key R (h b (List.mem_cons_self ..)), mrg_right (B := B) fun b hb => h b (List.mem_cons_of_mem _ hb)]
/-- Two parts that do not cross. -/
theorem mrg_parts {A1 A2 B1 B2 : List α} (h1 : ∀ a, a ∈ A1 → ∀ b, b ∈ B2 → key a ≤ key b) (h2 : ∀ b, b ∈ B1 → ∀ a, a ∈ A2 → key b < key a) (h3 : ∀ b, b ∈ B1 → ∀ b', b' ∈ B2 → key b ≤ key b') :
    mrg key (A1 ++ A2) (B1 ++ B2) = mrg key A1 B1 ++ mrg key A2 B2 := by
  rw [mrg_append, mrg_left key h2, mrg_right key]
  intro b hb a ha
  rcases (mem_mrg key).1 ha with ha | ha
  · exact h1 a ha b hb
  · exact h3 a ha b hb
theorem mrg_nil_sorted : ∀ {B A : List α}, Sorted key B → (∀ a, a ∈ A → ∀ b, b ∈ B → key a ≤ key b) → mrg key A B = A ++ B
  | [], A, _, _ => by simp [mrg_nil]
  | b :: B, A, hs, h => by
    have hc := List.pairwise_cons.1 hs
    have e : insR key b A = A ++ [b] := by
      have := insR_at key (x := b) (L := A) (R := []) (fun a ha => h a ha b (List.mem_cons_self ..)) (fun a ha => by cases ha)
      simpa using this
    rw [mrg_cons, e, mrg_nil_sorted (B := B) hc.2 fun a ha c hcB => ?_, List.append_assoc]; rfl
    rcases List.mem_append.1 ha with ha | ha
    · exact h a ha c (List.mem_cons_of_mem _ hcB)
    · rcases List.mem_singleton.1 ha with rfl
      exact hc.1 c hcB
theorem isort_of_sorted {l : List α} (h : Sorted key l) : isort key l = l := by
  rw [isort, mrg_nil_sorted key h fun a ha => by cases ha]; rfl

theorem insR_comm {x y : α} (hxy : key x < key y) : ∀ l : List α, insR key y (insR key x l) = insR key x (insR key y l)
  | [] => by simp [insR, hxy, show ¬ key y < key x by omega]
  | z :: l => by
    by_cases h1 : key x < key z
    · by_cases h2 : key y < key z
      · simp [insR, h1, h2, hxy, show ¬ key y < key x by omega]
      · simp [insR, h1, h2, show ¬ key y < key x by omega]
    · have h2 : ¬ key y < key z ∨ key y < key z := by omega
      rcases h2 with h2 | h2
      · simp only [insR, h1, h2, if_false]; rw [insR_comm hxy l]
      · omega
theorem mrg_comm {x : α} : ∀ {B A : List α}, (∀ b, b ∈ B → key x < key b) → mrg key (insR key x A) B = insR key x (mrg key A B)
  | [], _, _ => rfl
  | b :: B, A, h => by
    rw [mrg_cons, mrg_cons, insR_comm key (h b (List.mem_cons_self ..)), mrg_comm (B := B) fun b hb => h b (List.mem_cons_of_mem _ hb)]
theorem insR_split (x : α) : ∀ {S : List α}, Sorted key S → ∃ L R, S = L ++ R ∧ insR key x S = L ++ x :: R ∧ (∀ a, a ∈ L → key a ≤ key x) ∧ ∀ a, a ∈ R → key x < key a
  | [], _ => ⟨[], [], rfl, rfl, fun a ha => (by cases ha), fun a ha => (by cases ha)⟩
  | y :: S, h => by
    have hc := List.pairwise_cons.1 h
    by_cases hxy : key x < key y
    · refine ⟨[], y :: S, rfl, by simp [insR, hxy], fun a ha => (by cases ha), fun a ha => ?_⟩
      rcases List.mem_cons.1 ha with rfl | ha
      · exact hxy
      · have := hc.1 a ha; omega
    · obtain ⟨L, R, e1, e2, h1, h2⟩ := insR_split x hc.2
      refine ⟨y :: L, R, by rw [e1]; rfl, by simp [insR, hxy, e2], fun a ha => ?_, h2⟩
      rcases List.mem_cons.1 ha with rfl | ha
      · omega
      · exact h1 a ha
theorem mrg_insR {x : α} {S A : List α} (hs : Sorted key S) : mrg key A (insR key x S) = insR key x (mrg key A S) := by
  obtain ⟨L, R, e1, e2, h1, h2⟩ := insR_split key x hs
  rw [e2, e1, mrg_append, mrg_append, mrg_cons, mrg_comm key h2]
theorem mrg_isort_from {A : List α} : ∀ {Y S : List α}, Sorted key S → mrg key A (mrg key S Y) = mrg key (mrg key A S) Y
  | [], _, _ => rfl
  | y :: Y, S, h => by rw [mrg_cons, mrg_isort_from (insR_sorted key h), mrg_insR key h, mrg_cons]
theorem mrg_isort (A Y : List α) : mrg key A (isort key Y) = mrg key A Y := by rw [isort, mrg_isort_from key List.Pairwise.nil, mrg_nil]
theorem isort_append (X Y : List α) : isort key (X ++ Y) = mrg key (isort key X) (isort key Y) := by rw [mrg_isort, isort, mrg_append]; rfl
theorem isort_snoc (X : List α) (y : α) : isort key (X ++ [y]) = insR key y (isort key X) := by rw [isort, mrg_append]; rfl

/-- Among those of one key nothing changes. -/
theorem insR_filter (k : Int) (x : α) : ∀ {l : List α}, Sorted key l → (insR key x l).filter (fun a => key a == k) = l.filter (fun a => key a == k) ++ [x].filter (fun a => key a == k) := by
  intro l hl
  obtain ⟨L, R, e1, e2, h1, h2⟩ := insR_split key x hl
  rw [e2, e1, List.filter_append, List.filter_append, List.append_assoc]
  congr 1
  by_cases hk : key x = k
  · have e : R.filter (fun a => key a == k) = [] := by
      rw [List.filter_eq_nil_iff]
      intro a ha
      have := h2 a ha
      simp; omega
    simp [e, hk]
  · simp [List.filter_cons, hk]
theorem mrg_filter (k : Int) : ∀ {B A : List α}, Sorted key A → (mrg key A B).filter (fun a => key a == k) = A.filter (fun a => key a == k) ++ B.filter (fun a => key a == k)
  | [], A, h => by simp [mrg_nil]
  | b :: B, A, h => by
    rw [mrg_cons, mrg_filter k (insR_sorted key h), insR_filter key k b h, List.append_assoc, ← List.filter_append]; rfl
theorem isort_filter (k : Int) (l : List α) : (isort key l).filter (fun a => key a == k) = l.filter (fun a => key a == k) := by
  rw [isort, mrg_filter key k List.Pairwise.nil]; rfl

theorem insR_filterP (q : α → Bool) (x : α) {S : List α} (h : Sorted key S) : (insR key x S).filter q = if q x then insR key x (S.filter q) else S.filter q := by
  obtain ⟨L, R, e1, e2, h1, h2⟩ := insR_split key x h
  rw [e2, e1, List.filter_append, List.filter_append, List.filter_cons]
  split
  · rw [insR_at key (fun a ha => h1 a (List.mem_filter.1 ha).1) (fun a ha => h2 a (List.mem_filter.1 ha).1)]
  · rfl
theorem mrg_filterP (q : α → Bool) : ∀ {B A : List α}, Sorted key A → (mrg key A B).filter q = mrg key (A.filter q) (B.filter q)
  | [], _, _ => rfl
  | b :: B, A, h => by
    rw [mrg_cons, mrg_filterP q (insR_sorted key h), insR_filterP key q b h, List.filter_cons]
    split <;> rfl
theorem isort_filterP (q : α → Bool) (L : List α) : (isort key L).filter q = isort key (L.filter q) := by
  rw [isort, mrg_filterP key q List.Pairwise.nil]; rfl

/-- Blocks of k, each in order. -/
def blk (k : Nat) : Nat → List α → List α
  | 0, l => isort key l
  | n + 1, l => if l.length ≤ k then isort key l else isort key (l.take k) ++ blk k n (l.drop k)
def blks (k : Nat) (l : List α) : List α := blk key k l.length l
theorem blk_more {k : Nat} (hk : 0 < k) : ∀ {n m : Nat} {l : List α}, l.length ≤ n → l.length ≤ m → blk key k n l = blk key k m l := by
  intro n
  induction n with
  | zero =>
    intro m l h h'
    have : l = [] := List.eq_nil_of_length_eq_zero (by omega)
    subst this
    cases m <;> simp [blk]
  | succ n ih =>
    intro m l h h'
    cases m with
    | zero =>
      have : l = [] := List.eq_nil_of_length_eq_zero (by omega)
      subst this
      simp [blk]
    | succ m =>
      simp only [blk]
      split
      · rfl
      · rw [ih (m := m) (by simp; omega) (by simp; omega)]
theorem blks_short {k : Nat} {l : List α} (h : l.length ≤ k) : blks key k l = isort key l := by
  unfold blks
  cases hl : l.length with
  | zero => rfl
  | succ n => rw [blk, if_pos h]
theorem blks_long {k : Nat} (hk : 0 < k) {l : List α} (h : k < l.length) : blks key k l = isort key (l.take k) ++ blks key k (l.drop k) := by
  unfold blks
  cases hl : l.length with
  | zero => omega
  | succ n =>
    rw [blk, if_neg (by omega), blk_more key hk (n := n) (m := (l.drop k).length) (by simp; omega) (Nat.le_refl _)]
theorem blks_len {k : Nat} (hk : 0 < k) : ∀ (n : Nat) (l : List α), l.length ≤ n → (blks key k l).length = l.length := by
  intro n
  induction n with
  | zero => intro l h; rw [blks_short key (by omega), isort_len]
  | succ n ih =>
    intro l h
    by_cases hl : l.length ≤ k
    · rw [blks_short key hl, isort_len]
    · rw [blks_long key hk (by omega), List.length_append, isort_len, ih _ (by simp; omega)]
      simp; omega
end
end Go.Sym
