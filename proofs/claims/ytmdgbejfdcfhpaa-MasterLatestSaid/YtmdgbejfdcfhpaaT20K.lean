import Derived.Test.YtmdgbejfdcfhpaaT20J
namespace Go.Proofs.Ytmdgbejfdcfhpaa
open Go.Sym
set_option linter.unusedVariables false
set_option linter.unusedSimpArgs false

/-! ### The plain law: the five latest ones are the first five in order -/
section
variable {α β : Type} (key : α → Int)
theorem isort_cons_head (x : α) (R : List α) : (isort key (x :: R)).head? = match (isort key R).head? with
    | none => some x
    | some b => if key x ≤ key b then some x else some b := by
  have e : isort key (x :: R) = mrg key [x] (isort key R) := by
    have h1 := isort_append key [x] R
    have h2 : isort key [x] = [x] := rfl
    rw [h2] at h1
    exact h1
  rw [e]
  have hs := isort_sorted key R
  generalize isort key R = S at hs
  cases S with
  | nil => rfl
  | cons b S =>
    have hc := List.pairwise_cons.1 hs
    simp only [List.head?_cons]
    split
    · rename_i h
      rw [mrg_nil_sorted key hs (fun a ha y hy => by
        rw [List.mem_singleton.1 ha]
        rcases List.mem_cons.1 hy with rfl | hy
        · exact h
        · have := hc.1 y hy; omega)]
      rfl
    · rename_i h
      have := mrg_parts key (A1 := []) (A2 := [x]) (B1 := [b]) (B2 := S) (fun a ha => by cases ha) (fun y hy a ha => by rw [List.mem_singleton.1 ha, List.mem_singleton.1 hy]; omega) (fun y hy z hz => by rw [List.mem_singleton.1 hy]; exact hc.1 z hz)
      simp only [List.nil_append, List.singleton_append] at this
      rw [this]; rfl
theorem insR_filterP (q : α → Bool) (x : α) {S : List α} (h : Sorted key S) : (insR key x S).filter q = if q x then insR key x (S.filter q) else S.filter q := by
  obtain ⟨L, R, e1, e2, h1, h2⟩ := insR_split key x h
  rw [e2, e1, List.filter_append, List.filter_append, List.filter_cons]
  split
  · rw [insR_at key (fun a ha => h1 a (List.mem_filter.1 ha).1) (fun a ha => h2 a (List.mem_filter.1 ha).1)]
  · rfl
theorem mrg_filterP (q : α → Bool) : ∀ {B A : List α}, Sorted key A → (mrg key A B).filter q = mrg key (A.filter q) (B.filter q)
  | [], _, _ => rfl
  | b :: B, A, h => by
    rw [mrg_cons, mrg_filterP q (insR_sorted key h), insR_filterP key q b h, List.filter_cons]
    split <;> rfl
theorem isort_filterP (q : α → Bool) (L : List α) : (isort key L).filter q = isort key (L.filter q) := by
  rw [isort, mrg_filterP key q List.Pairwise.nil]; rfl
theorem insR_map (f : β → α) (x : β) : ∀ L : List β, (insR (fun b => key (f b)) x L).map f = insR key (f x) (L.map f)
  | [] => rfl
  | y :: L => by
    simp only [insR, List.map_cons]
    split
    · rfl
    · rw [List.map_cons, insR_map f x L]
theorem mrg_map (f : β → α) : ∀ (B A : List β), (mrg (fun b => key (f b)) A B).map f = mrg key (A.map f) (B.map f)
  | [], _ => rfl
  | b :: B, A => by rw [mrg_cons, mrg_map f B, insR_map]; rfl
theorem isort_map (f : β → α) (L : List β) : (isort (fun b => key (f b)) L).map f = isort key (L.map f) := mrg_map key f L []
theorem mrg_put (c : α) : ∀ (B U V : List α), (∀ u, u ∈ U → key u ≤ key c) → (∀ v, v ∈ V → key c ≤ key v) →
    ∃ U' V', mrg key (U ++ c :: V) B = U' ++ c :: V' ∧ mrg key (U ++ V) B = U' ++ V' ∧ (∀ u, u ∈ U' → key u ≤ key c) ∧ ∀ v, v ∈ V' → key c ≤ key v
  | [], U, V, h1, h2 => ⟨U, V, rfl, rfl, h1, h2⟩
  | y :: B, U, V, h1, h2 => by
    rw [mrg_cons, mrg_cons]
    by_cases h : key y < key c
    · have e1 : insR key y (U ++ c :: V) = insR key y U ++ c :: V := insR_left key (fun a ha => by
        rcases List.mem_cons.1 ha with rfl | ha
        · exact h
        · have := h2 a ha; omega) U
      have e2 : insR key y (U ++ V) = insR key y U ++ V := insR_left key (fun a ha => by have := h2 a ha; omega) U
      rw [e1, e2]
      refine mrg_put c B _ _ (fun u hu => ?_) h2
      rcases (mem_insR key).1 hu with rfl | hu
      · omega
      · exact h1 u hu
    · have e1 : insR key y (U ++ c :: V) = U ++ c :: insR key y V := by
        rw [insR_right key (c :: V) (fun a ha => by have := h1 a ha; omega)]
        simp [insR, h]
      have e2 : insR key y (U ++ V) = U ++ insR key y V := insR_right key V (fun a ha => by have := h1 a ha; omega)
      rw [e1, e2]
      refine mrg_put c B _ _ h1 (fun v hv => ?_)
      rcases (mem_insR key).1 hv with rfl | hv
      · omega
      · exact h2 v hv
/-- An element put in at any place. -/
theorem isort_put (c : α) (A B : List α) : ∃ U V, isort key (A ++ c :: B) = U ++ c :: V ∧ isort key (A ++ B) = U ++ V ∧ (∀ u, u ∈ U → key u ≤ key c) ∧ ∀ v, v ∈ V → key c ≤ key v := by
  obtain ⟨L, R, e1, e2, h1, h2⟩ := insR_split key c (isort_sorted key A)
  have f1 : isort key (A ++ c :: B) = mrg key (L ++ c :: R) B := by rw [isort, mrg_append, mrg_cons, ← e2]; rfl
  have f2 : isort key (A ++ B) = mrg key (L ++ R) B := by rw [isort, mrg_append, ← e1]; rfl
  rw [f1, f2]
  exact mrg_put key c B L R h1 fun v hv => by have := h2 v hv; omega
end

def ixI (l : List Ca) (p : Ca → Bool) : List Nat := (List.range l.length).reverse.filter fun i => p (l.getD i zCa)
def keyI (l : List Ca) (i : Nat) : Int := keyCa (l.getD i zCa)
def hdI : Option Nat → Int
  | none => -1
  | some i => i
def remI (l : List Ca) (tk : List Bool) (p : Ca → Bool) (m : Nat) : List Nat := (List.range m).reverse.filter fun i => !tk.getD i false && p (l.getD i zCa)
theorem bst_head (l : List Ca) (tk : List Bool) (p : Ca → Bool) : ∀ m, bst l tk p m = hdI (isort (keyI l) (remI l tk p m)).head?
  | 0 => rfl
  | m + 1 => by
    have ih := bst_head l tk p m
    rw [bst, ih]
    have e : remI l tk p (m + 1) = if (!tk.getD m false && p (l.getD m zCa)) then m :: remI l tk p m else remI l tk p m := by
      rw [remI, List.range_succ, List.reverse_append, List.reverse_singleton, List.singleton_append, List.filter_cons]; rfl
    rw [e]
    cases hq : (!tk.getD m false && p (l.getD m zCa)) with
    | false =>
      rw [if_neg (by rw [pick1, hq, Bool.false_and]; exact Bool.false_ne_true)]
      simp
    | true =>
      rw [if_pos rfl, isort_cons_head]
      generalize (isort (keyI l) (remI l tk p m)).head? = o
      cases o with
      | none =>
        have : pick1 l tk p (hdI none) m = true := by rw [pick1, hq]; simp [hdI]
        rw [this]; rfl
      | some b =>
        have hk : (keyI l m ≤ keyI l b) ↔ (l.getD m zCa).at' ≥ (l.getD b zCa).at' := by
          simp only [keyI, keyCa]; omega
        by_cases h : (l.getD m zCa).at' ≥ (l.getD b zCa).at'
        · have e1 : pick1 l tk p (hdI (some b)) m = true := by rw [pick1, hq, hdI, Int.toNat_natCast, decide_eq_true h]; simp
          rw [e1]; simp only [hk.2 h, if_true, hdI]
        · have e1 : pick1 l tk p (hdI (some b)) m = false := by
            rw [pick1, hq, hdI, Int.toNat_natCast, decide_eq_false h]; simp
          have h' : ¬ keyI l m ≤ keyI l b := fun h' => h (hk.1 h')
          rw [e1]; simp only [h', if_false, hdI]; rfl
theorem sel_ix (l : List Ca) (p : Ca → Bool) : sel l p = (ixI l p).map fun i => l.getD i zCa := by
  have e : l.reverse = (List.range l.length).reverse.map fun i => l.getD i zCa := by
    rw [List.map_reverse]
    congr 1
    apply List.ext_getElem
    · simp
    · intro i h1 h2; simp [List.getD_eq_getElem?_getD, h1]
  rw [sel, e, List.filter_map]; rfl
theorem ixI_nodup (l : List Ca) (p : Ca → Bool) : (ixI l p).Nodup := by
  exact List.Pairwise.filter _ ((List.reverse_perm _).nodup_iff.2 List.nodup_range)
theorem drop_filter {S : List Nat} (h : S.Nodup) (n : Nat) : S.filter (fun i => !(S.take n).contains i) = S.drop n := by
  have h' := h
  rw [← List.take_append_drop n S] at h'
  have hd := (List.nodup_append.1 h').2.2
  conv => lhs; arg 2; rw [← List.take_append_drop n S]
  rw [List.filter_append]
  have e1 : (S.take n).filter (fun i => !(S.take n).contains i) = [] := by
    rw [List.filter_eq_nil_iff]
    intro a ha
    simp [ha]
  have e2 : (S.drop n).filter (fun i => !(S.take n).contains i) = S.drop n := by
    rw [List.filter_eq_self]
    intro a ha
    have : a ∉ S.take n := fun h => hd a h a ha rfl
    simpa using this
  rw [e1, e2, List.nil_append]
theorem lat_step (l : List Ca) (p : Ca → Bool) : ∀ (k n : Nat) (tk : List Bool), tk.length = l.length → (∀ i, i < l.length → tk.getD i false = ((isort (keyI l) (ixI l p)).take n).contains i) →
    lat l p k tk (((isort (keyI l) (ixI l p)).take n).map fun i => l.getD i zCa) = ((isort (keyI l) (ixI l p)).take (n + k)).map fun i => l.getD i zCa
  | 0, n, tk, _, _ => rfl
  | k + 1, n, tk, htl, htk => by
    have hnd : (isort (keyI l) (ixI l p)).Nodup := (isort_perm _ _).nodup_iff.2 (ixI_nodup l p)
    have hmem : ∀ i, i ∈ isort (keyI l) (ixI l p) → i < l.length := fun i hi => by
      have := (mem_isort _).1 hi
      have := (List.mem_filter.1 this).1
      simpa using this
    have hrem : isort (keyI l) (remI l tk p l.length) = (isort (keyI l) (ixI l p)).drop n := by
      have e1 : remI l tk p l.length = (ixI l p).filter fun i => !tk.getD i false := by rw [ixI, List.filter_filter]; rfl
      rw [e1, ← isort_filterP, ← drop_filter hnd n]
      refine List.filter_congr fun i hi => ?_
      rw [htk i (hmem i hi)]
    rw [lat, bst_head, hrem]
    cases hd : (isort (keyI l) (ixI l p)).drop n with
    | nil =>
      rw [if_pos (by decide)]
      have hlen := congrArg List.length hd
      simp only [List.length_drop, List.length_nil] at hlen
      rw [List.take_of_length_le (by omega), List.take_of_length_le (by omega)]
    | cons i rest =>
      have hin : n < (isort (keyI l) (ixI l p)).length := by
        have hlen := congrArg List.length hd
        simp only [List.length_drop, List.length_cons] at hlen; omega
      have hi : (isort (keyI l) (ixI l p)).getD n 0 = i := by
        have := congrArg (fun L => L.getD 0 0) hd
        simpa [List.getD_eq_getElem?_getD] using this
      have hi2 : (isort (keyI l) (ixI l p))[n] = i := by
        rw [← hi]; simp [List.getD_eq_getElem?_getD, hin]
      have ht : (isort (keyI l) (ixI l p)).take (n + 1) = (isort (keyI l) (ixI l p)).take n ++ [i] := by
        rw [List.take_succ_eq_append_getElem hin, hi2]
      have hil : i < l.length := hmem i (by rw [← hi2]; exact List.getElem_mem hin)
      rw [if_neg (by simp [hdI])]
      have ih := lat_step l p k (n + 1) (tk.set i true) (by simp [htl]) (fun j hj => by
        rw [ht, List.getD_eq_getElem?_getD, List.getElem?_set]
        by_cases hji : i = j
        · subst hji; simp [show i < tk.length by omega]
        · rw [if_neg hji]
          have := htk j hj
          rw [List.getD_eq_getElem?_getD] at this
          rw [this]
          simp [Ne.symm hji])
      rw [ht, List.map_append, show n + 1 + k = n + (k + 1) by omega] at ih
      simpa [hdI] using ih
theorem latest_eq (l : List Ca) (p : Ca → Bool) : latest l p = usedG l p := by
  have h := lat_step l p 5 0 (List.replicate l.length false) (by simp) (fun i hi => by simp [List.getD_eq_getElem?_getD, hi])
  rw [List.take_zero, List.map_nil, Nat.zero_add] at h
  rw [latest, h, usedG, sel_ix, ← isort_map, List.map_take]; rfl
theorem g12 (l : List Ca) (kind tel flt at' known : Int) : FCall Try.prog 12 [lCa l, vI kind, vI tel, vI flt, vI at', vI known] (masG l kind tel flt at' known (usedG l fun x => applies x kind tel flt at' known)) := by
  rw [← latest_eq]; exact f12 l kind tel flt at' known
end Go.Proofs.Ytmdgbejfdcfhpaa
