import Derived.Test.YtaaplpbjjnechaaSymEE
import Derived.Test.YtaaplpbjjnechaaT35C
import Derived.Test.YtaaplpbjjnechaaT35B
namespace Go.Proofs.Ytaaplpbjjnechaa
set_option linter.unusedVariables false
set_option linter.unusedSimpArgs false
section
open Go.Sym

/-! ### Clone -/
theorem f31 (l : List Ta) (hl : l.length ≤ 1000000) : FOwn Try.prog 31 [5] [lTa l] [(5, .row 37 4 [])] (.v (.c (.row 5 l.length))) [(5, .row 37 4 (rowTa l))] := by
  rcases l with _ | ⟨x, l'⟩
  · refine FOwn.split [] [] 4 _ ?_ (fun a cp => ?_)
    · refine fown_of 8 Try.func31 rfl (by kernel_rfl) ⟨by kernel_rfl, by kernel_rfl, by kernel_rfl, by kernel_rfl, by kernel_rfl, by kernel_rfl, by kernel_rfl⟩ (fun n o hh h => ?_) (by kernel_rfl) (fun B hB hBf => ?_)
      · simp only [List.mem_singleton, Prod.mk.injEq] at h
        rw [h.2]; rfl
      refine run_weaken (wkSlim [0] [5] (by kernel_rfl)) ?_ (List.cons_ne_nil _ _)
      refine reg0 mix (by kernel_rfl) ?_
      refine reg0 mix (by kernel_rfl) ?_
      refine rCondT true (by kernel_rfl) rfl ?_
      refine reg0 mix (by kernel_rfl) ?_
      refine run_weaken (wk_nilRow 2 5 37 4 (by kernel_rfl) (by kernel_rfl) (by omega)) ?_ (List.cons_ne_nil _ _)
      exact run_ret (ownEndsO 2 _ (.inl rfl) (by kernel_rfl) (by kernel_rfl) ⟨by kernel_rfl, .inl rfl, trivial⟩)
    · refine fown_of 8 Try.func31 rfl (by kernel_rfl) ⟨by kernel_rfl, by kernel_rfl, by kernel_rfl, by kernel_rfl, by kernel_rfl, by kernel_rfl, by kernel_rfl⟩ (fun n o hh h => ?_) (by kernel_rfl) (fun B hB hBf => ?_)
      · simp only [List.mem_singleton, Prod.mk.injEq] at h
        rw [h.2]; rfl
      refine run_weaken (wkSlim [0] [5] (by kernel_rfl)) ?_ (List.cons_ne_nil _ _)
      refine reg0 mix (by kernel_rfl) ?_
      refine reg0 mix (by kernel_rfl) ?_
      refine rCondF false (by kernel_rfl) rfl ?_
      refine reg mix [] [pf (rfl : 0 = ([] : List (List C)).length), pf ((by omega) : (0 + 0) * 33 ≤ 140737488355328)] (by kernel_rfl) ?_
      exact run_ret (ownEndsO 2 _ (.inl rfl) (by kernel_rfl) (by kernel_rfl) ⟨by kernel_rfl, .inl rfl, trivial⟩)
  · generalize hg : x :: l' = l at hl ⊢
    have h0 : 0 < l.length := by rw [← hg]; simp
    clear hg
    rw [← Nat.zero_add l.length]
    refine fown_of 8 Try.func31 rfl (by kernel_rfl) ⟨by kernel_rfl, by kernel_rfl, by kernel_rfl, by kernel_rfl, by kernel_rfl, by kernel_rfl, by kernel_rfl⟩ (fun n o hh h => ?_) (by kernel_rfl) (fun B hB hBf => ?_)
    · simp only [List.mem_singleton, Prod.mk.injEq] at h
      rw [h.2]; rfl
    refine run_weaken (wkSlim [0] [5] (by kernel_rfl)) ?_ (List.cons_ne_nil _ _)
    refine reg0 mix (by kernel_rfl) ?_
    refine reg mix [] [pf h0] (by kernel_rfl) ?_
    refine rCondF false (by kernel_rfl) rfl ?_
    refine reg mix [] [pf (rfl : 0 = ([] : List (List C)).length), pf ((by omega) : (0 + l.length) * 33 ≤ 140737488355328)] (by kernel_rfl) ?_
    have e : (List.range l.length).map (elTa l) = rowTa l := by
      refine List.ext_getElem (by simp [rowTa]) fun i h1 h2 => ?_
      simp only [List.length_map, List.length_range] at h1
      simp [elTa, rowTa, List.getD_eq_getElem?_getD, h1]
    rw [← e]
    exact run_ret (ownEndsO 2 _ (.inl rfl) (by kernel_rfl) (by kernel_rfl) ⟨by kernel_rfl, .inl rfl, trivial⟩)

/-! ### BinarySearchFunc -/
theorem f33 (x : Ta) (p : Pc) : FCall Try.prog 33 [.agg (encTa x), .agg (encPc p)] (.v (vI (cmpP x.pl p))) := by
  have c27 := f27 x.pl p
  generalize cmpP x.pl p = r at c27 ⊢
  refine fcall_of Try.func33 rfl (by kernel_rfl) (fun B hB => ?_)
  refine reg mix [(0, .imm), (1, .imm)] [] (by kernel_rfl) ?_
  refine regC mix [(1, con (f34 x)), (3, con c27)] (by kernel_rfl) ?_
  exact run_ret (ret_of (.v (vI r)) (by kernel_rfl) rfl)
/-- How many places of a list are less than p, from its head on. -/
def posT (l : List Ta) (p : Pc) : Nat := (l.takeWhile fun x => ltP x.pl p).length
theorem posT_le (l : List Ta) (p : Pc) : posT l p ≤ l.length := List.takeWhile_prefix _ |>.length_le
theorem posT_lt : ∀ {l : List Ta} {p : Pc} {k : Nat}, k < posT l p → ltP (taAt l k).pl p = true
  | [], p, k, h => by simp [posT] at h
  | x :: l, p, k, h => by
    unfold posT at h
    rw [List.takeWhile_cons] at h
    split at h
    · rename_i hx
      cases k with
      | zero => exact hx
      | succ k =>
        rw [List.length_cons] at h
        exact posT_lt (l := l) (show k < posT l p by unfold posT; omega)
    · simp at h
theorem posT_ge : ∀ {l : List Ta} {p : Pc}, posT l p < l.length → ltP (taAt l (posT l p)).pl p = false
  | [], p, h => by simp at h
  | x :: l, p, h => by
    unfold posT at h ⊢
    rw [List.takeWhile_cons] at h ⊢
    split at h
    · rename_i hx
      simp only [hx, if_true, List.length_cons] at h ⊢
      exact posT_ge (l := l) (show posT l p < l.length by unfold posT; omega)
    · rename_i hx
      simp [hx, taAt]
theorem posT_eq {l : List Ta} {p : Pc} {i : Nat} (hi : i ≤ l.length) (h1 : ∀ k, k < i → ltP (taAt l k).pl p = true) (h2 : i < l.length → ltP (taAt l i).pl p = false) : i = posT l p := by
  rcases Nat.lt_trichotomy i (posT l p) with h | h | h
  · have := posT_lt h
    rw [h2 (by have := posT_le l p; omega)] at this; cases this
  · exact h
  · have := posT_ge (l := l) (p := p) (by omega)
    rw [h1 _ h] at this; cases this
theorem ltP_trans {a b c : Pc} (h1 : ltP a b = true) (h2 : ltP b c = true) : ltP a c = true := by
  rw [lt_iff] at *; omega
theorem ltP_irrefl {a : Pc} : ltP a a = false := by
  rw [Bool.eq_false_iff]; intro h; rw [lt_iff] at h; omega
theorem ltP_asymm {a b : Pc} (h : ltP a b = true) : ltP b a = false := by
  rw [Bool.eq_false_iff]; intro h'; have := ltP_trans h h'; rw [ltP_irrefl] at this; cases this
theorem ltP_tri {a b : Pc} (h1 : ltP a b = false) (h2 : ltP b a = false) : a = b := by
  rw [Bool.eq_false_iff, Ne, lt_iff] at h1 h2
  obtain ⟨x, y, z⟩ := a
  obtain ⟨x', y', z'⟩ := b
  simp only at h1 h2
  rw [Pc.mk.injEq]; omega
theorem sorted_lt {l : List Ta} (h : OkTs l) : ∀ {i j : Nat}, i < j → j < l.length → ltP (taAt l i).pl (taAt l j).pl = true := by
  intro i j hij hj
  induction j with
  | zero => omega
  | succ j ih =>
    have h1 := (bad_ex (h.ok (j + 1) hj)).2.2.2 (by omega)
    rw [Nat.add_sub_cancel] at h1
    by_cases e : i = j
    · rw [e]; exact h1
    · exact ltP_trans (ih (by omega) (by omega)) h1
def fndT (l : List Ta) (p : Pc) : Bool := decide (posT l p < l.length) && decide ((taAt l (posT l p)).pl = p)
theorem half_eq {i j : Int} (h0 : 0 ≤ i) (hij : i < j) (hj : j ≤ 1000000) : IntKind.i64.wrap ((IntKind.u64.wrap (IntKind.i64.wrap (i + j))).fdiv (2 ^ (1 : Int).toNat)) = (i + j) / 2 := by
  rw [w64 (i + j) (by omega) (by omega)]
  have : IntKind.u64.wrap (i + j) = i + j := by simp only [IntKind.wrap, IntKind.bits, IntKind.signed]; simp; omega
  rw [this, show (2 : Int) ^ (1 : Int).toNat = 2 from rfl, Int.fdiv_eq_ediv_of_nonneg _ (by omega)]
  exact w64 _ (by omega) (by omega)
def bs32 (l : List Ta) (p : Pc) (x : Int × Int) : S := mkO 49 1 [(0, .pin 0 (.v (.c (.row 0 l.length)))), (2, .pin 2 (.v (.c (.clo 33 [])))), (4, .b (.v (.c (.kptr (encPc p) 0)))), (8, .b (.v (vI l.length))), (9, .b (.v (vI x.1))), (10, .b (.v (vI x.2)))] [(0, .row 37 4 (rowTa l))]
def bh32 (l : List Ta) (p : Pc) (i j h : Int) : S := mkO 49 1 [(0, .pin 0 (.v (.c (.row 0 l.length)))), (2, .pin 2 (.v (.c (.clo 33 [])))), (4, .b (.v (.c (.kptr (encPc p) 0)))), (8, .b (.v (vI l.length))), (9, .b (.v (vI i))), (10, .b (.v (vI j))), (11, .b (.v (vI h)))] [(0, .row 37 4 (rowTa l))]
theorem rowTa_at {l : List Ta} {i : Nat} (h : i < l.length) : (rowTa l).getD i [] = encTa (taAt l i) := by simp [rowTa, taAt, List.getD_eq_getElem?_getD, h]
theorem f32 (l : List Ta) (p : Pc) (hl : OkTs l) (hp : exB p = true) : FOwn Try.prog 32 [] [.c (.row 0 l.length), .agg (encPc p), .c (.clo 33 [])] [(0, .row 37 4 (rowTa l))] (.tup [vI (posT l p), vB (fndT l p)]) [(0, .row 37 4 (rowTa l))] := by
  have hlen := hl.len
  have hrl := (rowTa_len l).symm
  refine fown_of 1 Try.func32 rfl (by kernel_rfl) ⟨by kernel_rfl, by kernel_rfl, by kernel_rfl, by kernel_rfl, by kernel_rfl, by kernel_rfl, by kernel_rfl⟩ (fun n o hh h => by cases hh) (by kernel_rfl) (fun B hB hBf => ?_)
  refine reg mix [(0, .imm)] [] (by kernel_rfl) ?_
  refine reg mix [] [pf hrl] (by kernel_rfl) ?_
  refine reg0 mix (by kernel_rfl) ?_
  refine rBlock ?_
  refine rLoop (bs32 l p) (fun x => 0 ≤ x.1 ∧ x.1 ≤ x.2 ∧ x.2 ≤ l.length ∧ (∀ k : Nat, (k : Int) < x.1 → ltP (taAt l k).pl p = true) ∧ ∀ k : Nat, x.2 ≤ k → k < l.length → ltP (taAt l k).pl p = false) (fun x => (x.2 - x.1).toNat) (0, (l.length : Int)) (wkTo [0, 2, 4, 8, 9, 10] [] (by kernel_rfl)) ⟨by omega, by omega, by omega, fun k hk => by simp only at hk; omega, fun k h1 h2 => by simp only at h1; omega⟩ ?_
  rintro ⟨i, j⟩ ⟨h0, h1, h2, h3, h4⟩
  simp only at h0 h1 h2 h3 h4
  refine reg0 mix (by kernel_rfl) ?_
  refine rCond (decide (i < j)) (by kernel_rfl) (fun hc => ?_) (fun hc => ?_)
  · have hc : i < j := of_decide_eq_true hc
    obtain ⟨h, hh⟩ : ∃ h, h = IntKind.i64.wrap ((IntKind.u64.wrap (IntKind.i64.wrap (i + j))).fdiv (2 ^ (1 : Int).toNat)) := ⟨_, rfl⟩
    have he := half_eq h0 hc (by omega)
    rw [← hh] at he
    have e : IntKind.i64.wrap (h + 1) = h + 1 := w64 _ (by omega) (by omega)
    have hlt : h.toNat < l.length := by omega
    have q1 : QAt h l.length (rowTa l) := ⟨⟨by omega, by omega⟩, (rowTa_len l).symm⟩
    have q2 : QEl l.length h.toNat (rowTa l) (encTa (taAt l h.toNat)) := ⟨⟨(rowTa_len l).symm, hlt⟩, rowTa_at hlt⟩
    have c33 := f33 (taAt l h.toNat) p
    have hcmp := (cmp_lt (bad_ex (hl.ok _ hlt)).1 hp).1
    refine rBlock ?_
    refine reg mix [] [pf (by decide : (0 : Int) ≤ 1 ∧ (1 : Int) ≤ (IntKind.u64.bits : Int))] (by kernel_rfl) ?_
    refine run_weaken (s' := bh32 l p i j (IntKind.i64.wrap ((IntKind.u64.wrap (IntKind.i64.wrap (i + j))).fdiv (2 ^ (1 : Int).toNat)))) (wkTo [0, 2, 4, 8, 9, 10, 11] [] (by kernel_rfl)) ?_ (List.cons_ne_nil _ _)
    rw [← hh]
    clear hh
    refine reg mix [(4, .frz 0 (fun _ => encTa (taAt l h.toNat))), (6, hcon c33)] [pf q1, pf q2, pf c33] (by kernel_rfl) ?_
    refine rCond (decide (cmpP (taAt l h.toNat).pl p < 0)) (by kernel_rfl) (fun hx => ?_) (fun hx => ?_)
    · have hx := hcmp.1 (of_decide_eq_true hx)
      refine reg0 mix (by kernel_rfl) ?_
      refine run_nil (blockR_normal (run_nil (loopR_next (IntKind.i64.wrap (h + 1), j) (wkTo [0, 2, 4, 8, 9, 10] [] (by kernel_rfl)) ?_ ?_)))
      · rw [e]
        refine ⟨by simp only; omega, by simp only; omega, h2, fun k hk => ?_, h4⟩
        simp only at hk
        rcases (by omega : k < h.toNat ∨ k = h.toNat) with hk' | hk'
        · exact ltP_trans (sorted_lt hl hk' hlt) hx
        · rw [hk']; exact hx
      · rw [e]; simp only; omega
    · have hx : ltP (taAt l h.toNat).pl p = false := by
        rw [Bool.eq_false_iff]; intro h'; exact of_decide_eq_false hx (hcmp.2 h')
      refine reg0 mix (by kernel_rfl) ?_
      refine run_nil (blockR_normal (run_nil (loopR_next (i, h) (wkTo [0, 2, 4, 8, 9, 10] [] (by kernel_rfl)) ?_ ?_)))
      · refine ⟨h0, by simp only; omega, by simp only; omega, h3, fun k hk hk2 => ?_⟩
        simp only at hk
        rcases (by omega : h.toNat < k ∨ k = h.toNat) with hk' | hk'
        · rw [Bool.eq_false_iff]
          intro hq
          have := ltP_trans (sorted_lt hl hk' hk2) hq
          rw [hx] at this; cases this
        · rw [hk']; exact hx
      · simp only; omega
  have hc : ¬ i < j := of_decide_eq_false hc
  obtain rfl : i = j := by omega
  have hpos : i.toNat = posT l p := posT_eq (by omega) (fun k hk => h3 k (by omega)) (fun hk => h4 _ (by omega) hk)
  refine run_exit (loopR_exit (blockR_exit ?_))
  have c33 := f33 (taAt l i.toNat) p
  have q1 : decide (i < (l.length : Int)) = true → QAt i l.length (rowTa l) := fun hq => ⟨⟨h0, of_decide_eq_true hq⟩, hrl⟩
  have q2 : decide (i < (l.length : Int)) = true → QEl l.length i.toNat (rowTa l) (encTa (taAt l i.toNat)) := fun hq => ⟨⟨hrl, by have := of_decide_eq_true hq; omega⟩, rowTa_at (by have := of_decide_eq_true hq; omega)⟩
  refine regI mix [(9, .frz 0 (fun _ => encTa (taAt l i.toNat))), (11, hcon c33)] [pf q1, pf q2, pf (fun _ : decide (i < (l.length : Int)) = true => c33)] (by kernel_rfl) ?_
  have ef : (decide (i < (l.length : Int)) && (cmpP (taAt l i.toNat).pl p == 0)) = fndT l p := by
    rw [fndT, ← hpos]
    by_cases hq : i.toNat < l.length
    · have := (cmp_lt (bad_ex (hl.ok _ hq)).1 hp).2
      rw [decide_eq_true (show i < (l.length : Int) by omega), decide_eq_true hq, Bool.true_and, Bool.true_and, Bool.eq_iff_iff]
      simp [this]
    · rw [decide_eq_false (show ¬ i < (l.length : Int) by omega), decide_eq_false hq, Bool.false_and, Bool.false_and]
  have ei : i = (posT l p : Int) := by omega
  rw [← ef, ← ei]
  exact run_ret (ownEnds (.inl rfl) (by kernel_rfl) ⟨by kernel_rfl, .inr ⟨0, wit_row (l := l.length) 0 (by kernel_rfl) (by kernel_rfl) (.head _) hrl rfl⟩, trivial⟩)
end
section
open Go.Sym

/-! ### put, the reference's Count and Add -/
def upT (x : Ta) : Ta := ⟨x.t, x.c, x.f, IntKind.i64.wrap (x.n + 1)⟩
def oneT (p : Pc) : Ta := ⟨p.t, p.c, p.f, 1⟩
/-- A list of tallies with one more detection of a place. -/
def insT (l : List Ta) (p : Pc) : List Ta :=
  if posT l p < l.length ∧ ltP p (taAt l (posT l p)).pl = false then l.set (posT l p) (upT (taAt l (posT l p))) else l.take (posT l p) ++ oneT p :: l.drop (posT l p)
theorem insT_len (l : List Ta) (p : Pc) : (insT l p).length ≤ l.length + 1 := by
  have := posT_le l p
  unfold insT; split
  · simp
  · simp; omega
def pu29 (l : List Ta) (d : De) (i : Int) : S := mkS 68 [(0, .b (.v (lTa l))), (3, .b (.v (.c (.kptr (encDe d) 0)))), (5, .b (.v (.c (.ptr 5 0)))), (6, .b (.v (vI i)))] [(5, .cells (encTa (oneT d.pl)))]
def pv29 (l : List Ta) (n : Nat) (i : Int) (css : List (List C)) : S := mkS 68 [(6, .b (.v (vI i))), (7, .b (.v (.c (.row 42 n))))] [(42, .row 37 4 css)]
theorem range_elTa (l : List Ta) : (List.range l.length).map (elTa l) = rowTa l := by
  refine List.ext_getElem (by simp [rowTa]) fun i h1 h2 => ?_
  simp only [List.length_map, List.length_range] at h1
  simp [elTa, rowTa, List.getD_eq_getElem?_getD, h1]
theorem range_take {l : List Ta} {i : Nat} (h : i ≤ l.length) : (List.range i).map (elTa l) = rowTa (l.take i) := by
  refine List.ext_getElem (by simp [rowTa, h]) fun j h1 h2 => ?_
  simp only [List.length_map, List.length_range] at h1
  simp [elTa, rowTa, List.getD_eq_getElem?_getD, show j < l.length by omega]
theorem range_drop {l : List Ta} {i : Nat} : (List.range (l.length - i)).map (fun j => elTa l (i + j)) = rowTa (l.drop i) := by
  refine List.ext_getElem (by simp [rowTa]) fun j h1 h2 => ?_
  simp only [List.length_map, List.length_range] at h1
  simp [elTa, rowTa, List.getD_eq_getElem?_getD, show i + j < l.length by omega]
theorem rowTa_set (l : List Ta) (i : Nat) (x : Ta) : (rowTa l).set i (encTa x) = rowTa (l.set i x) := by simp [rowTa]
theorem f29 (l : List Ta) (d : De) (hl : l.length ≤ 1000000) : FCall Try.prog 29 [lTa l, .agg (encDe d)] (.v (lTa (insT l d.pl))) := by
  refine fcall_of Try.func29 rfl (by kernel_rfl) (fun B hB => ?_)
  refine reg mix [(0, .imm)] [] (by kernel_rfl) ?_
  refine reg0 mix (by kernel_rfl) ?_
  refine reg0 mix (by kernel_rfl) ?_
  refine rBlock ?_
  refine rLoop (pu29 l d) (fun i => 0 ≤ i ∧ i ≤ l.length ∧ ∀ k : Nat, (k : Int) < i → ltP (taAt l k).pl d.pl = true) (fun i => (l.length - i).toNat) 0 (wkTo [0, 3, 5, 6] [] (by kernel_rfl)) ⟨by omega, by omega, fun k hk => by omega⟩ ?_
  rintro i ⟨h0, h1, h2⟩
  have c13 := f13 (taAt l i.toNat) (oneT d.pl)
  have c13' := f13 (oneT d.pl) (taAt l i.toNat)
  have e1 : (oneT d.pl).pl = d.pl := rfl
  rw [e1] at c13 c13'
  have q1 : decide (i < (l.length : Int)) = true → 0 ≤ i ∧ i < (l.length : Int) := fun hq => ⟨h0, of_decide_eq_true hq⟩
  refine regI mix [(10, hcon c13)] [pf q1, pf (fun _ : decide (i < (l.length : Int)) = true => c13)] (by kernel_rfl) ?_
  refine rCond (decide (i < (l.length : Int)) && ltP (taAt l i.toNat).pl d.pl) (by kernel_rfl) (fun hc => ?_) (fun hc => ?_)
  · obtain ⟨ha, hb⟩ := Bool.and_eq_true_iff.1 hc
    have ha := of_decide_eq_true ha
    have e : IntKind.i64.wrap (i + 1) = i + 1 := w64 _ (by omega) (by omega)
    refine rBlock ?_
    refine reg0 mix (by kernel_rfl) ?_
    refine run_nil (blockR_normal (run_nil (loopR_next (IntKind.i64.wrap (i + 1)) (wkTo [0, 3, 5, 6] [] (by kernel_rfl)) ?_ ?_)))
    · rw [e]
      refine ⟨by omega, by omega, fun k hk => ?_⟩
      rcases (by omega : (k : Int) < i ∨ k = i.toNat) with hk' | hk'
      · exact h2 k hk'
      · rw [hk']; exact hb
    · rw [e]; omega
  have hpos : i.toNat = posT l d.pl := posT_eq (by omega) (fun k hk => h2 k (by omega)) (fun hk => by
    rw [decide_eq_true (show i < (l.length : Int) by omega), Bool.true_and] at hc; exact hc)
  have hin : insT l d.pl = if i.toNat < l.length ∧ ltP d.pl (taAt l i.toNat).pl = false then l.set i.toNat (upT (taAt l i.toNat)) else l.take i.toNat ++ oneT d.pl :: l.drop i.toNat := by rw [insT, hpos]
  rw [hin]
  refine run_exit (loopR_exit (blockR_exit ?_))
  refine regI mix [(10, hcon c13')] [pf q1, pf (fun _ : decide (i < (l.length : Int)) = true => c13')] (by kernel_rfl) ?_
  refine rCond (decide (i < (l.length : Int)) && !ltP d.pl (taAt l i.toNat).pl) (by kernel_rfl) (fun hx => ?_) (fun hx => ?_)
  · obtain ⟨ha, hb⟩ := Bool.and_eq_true_iff.1 hx
    have ha := of_decide_eq_true ha
    have hb : ltP d.pl (taAt l i.toNat).pl = false := by simpa using hb
    rw [if_pos ⟨by omega, hb⟩]
    refine reg mix [] [pf (rfl : 0 = ([] : List (List C)).length), pf ((by omega) : (0 + l.length) * 33 ≤ 140737488355328)] (by kernel_rfl) ?_
    refine run_weaken (s' := pv29 l (0 + l.length) i ([] ++ (List.range l.length).map (elTa l))) (wkTo [6, 7] [5] (by kernel_rfl)) ?_ (List.cons_ne_nil _ _)
    rw [Nat.zero_add, List.nil_append, range_elTa]
    have hlt : i.toNat < l.length := by omega
    have hrl := (rowTa_len l).symm
    have qa : QAt i l.length (rowTa l) := ⟨⟨h0, ha⟩, hrl⟩
    have qe : QEl l.length i.toNat (rowTa l) (encTa (taAt l i.toNat)) := ⟨⟨hrl, hlt⟩, rowTa_at hlt⟩
    refine reg mix [(6, .frz 0 (fun _ => encTa (taAt l i.toNat))), (10, .frz 0 (fun _ => encTa (taAt l i.toNat)))] [pf qa, pf hrl, pf qe, pf qa, pf hrl, pf qe] (by kernel_rfl) ?_
    refine reg0 mix (by kernel_rfl) ?_
    refine frzRow hB 4 42 l.length 37 4 ((rowTa l).set i.toNat (encTa (upT (taAt l i.toNat)))) (elTa (l.set i.toNat (upT (taAt l i.toNat)))) [] [] (by kernel_rfl) (by kernel_rfl) (by rw [List.length_set]; exact hrl) (fun j hj => ?_) (by kernel_rfl) ?_ (List.cons_ne_nil _ _)
    · rw [rowTa_set, rowTa_at (by rw [List.length_set]; exact hj)]; rfl
    · refine run_ret (ret_of (.v (.c (.lst 4 l.length (elTa (l.set i.toNat (upT (taAt l i.toNat))))))) (by kernel_rfl) ?_)
      rw [lTa, List.length_set]
  · have hno : ¬ (i.toNat < l.length ∧ ltP d.pl (taAt l i.toNat).pl = false) := fun ⟨ha, hb⟩ => by
      rw [hb, decide_eq_true (show i < (l.length : Int) by omega)] at hx; cases hx
    rw [if_neg hno]
    have hi : 0 ≤ i ∧ i ≤ (l.length : Int) := ⟨h0, h1⟩
    refine reg mix [] [pf hi, pf (rfl : 0 = ([] : List (List C)).length), pf ((by omega) : (0 + i.toNat) * 33 ≤ 140737488355328), pf ((by simp) : 0 + i.toNat = ([] ++ (List.range i.toNat).map (elTa l)).length), pf ((by omega) : (0 + i.toNat + 1) * 33 ≤ 140737488355328), pf (rfl : 1 = [encTa (oneT d.pl)].length), pf hi,
      pf ((by simp) : 0 + i.toNat + 1 = ([] ++ (List.range i.toNat).map (elTa l) ++ [encTa (oneT d.pl)]).length), pf ((by omega) : (0 + i.toNat + 1 + (l.length - i.toNat)) * 33 ≤ 140737488355328)] (by kernel_rfl) ?_
    have el : (l.take i.toNat ++ oneT d.pl :: l.drop i.toNat).length = 0 + i.toNat + 1 + (l.length - i.toNat) := by simp; omega
    have er : [] ++ (List.range i.toNat).map (elTa l) ++ [encTa (oneT d.pl)] ++ (List.range (l.length - i.toNat)).map (fun j => elTa l (i.toNat + j)) = rowTa (l.take i.toNat ++ oneT d.pl :: l.drop i.toNat) := by
      rw [List.nil_append, range_take (by omega), range_drop]
      simp [rowTa]
    refine frzRow hB 4 56 (0 + i.toNat + 1 + (l.length - i.toNat)) 37 4 ([] ++ (List.range i.toNat).map (elTa l) ++ [encTa (oneT d.pl)] ++ (List.range (l.length - i.toNat)).map (fun j => elTa l (i.toNat + j))) (elTa (l.take i.toNat ++ oneT d.pl :: l.drop i.toNat)) [] [62] (by kernel_rfl) (by kernel_rfl) ?_ (fun j hj => ?_) (by kernel_rfl) ?_ (List.cons_ne_nil _ _)
    · rw [er, rowTa_len, el]
    · rw [er, rowTa_at (by rw [el]; exact hj)]; rfl
    · refine run_ret (ret_of (.v (.c (.lst 4 (0 + i.toNat + 1 + (l.length - i.toNat)) (elTa (l.take i.toNat ++ oneT d.pl :: l.drop i.toNat))))) (by kernel_rfl) ?_)
      rw [lTa, el]

def cnt (l : List De) : List Ta := l.foldl (fun t d => insT t d.pl) []
theorem cnt_snoc (l : List De) (d : De) : cnt (l ++ [d]) = insT (cnt l) d.pl := by simp [cnt]
theorem cnt_len_aux : ∀ (l : List De) (t : List Ta), (l.foldl (fun t d => insT t d.pl) t).length ≤ t.length + l.length
  | [], t => by simp
  | d :: l, t => by
    have h1 := cnt_len_aux l (insT t d.pl)
    have h2 := insT_len t d.pl
    simp only [List.foldl_cons, List.length_cons]
    omega
theorem cnt_len (l : List De) : (cnt l).length ≤ l.length := by
  have := cnt_len_aux l []
  simpa [cnt] using this
def cntR (l : List De) : List Ta × Int := if (l.length : Int) > 1000 then ([], 2) else if l.all okDe = true then (cnt l, 0) else ([], 1)
def deAt (l : List De) (i : Nat) : De := l.getD i zDe
theorem take_snocD {l : List De} {i : Nat} (h : i < l.length) : l.take (i + 1) = l.take i ++ [deAt l i] := by
  rw [List.take_succ_eq_append_getElem h]
  simp [deAt, List.getD_eq_getElem?_getD, h]
theorem all_bad {l : List De} {i : Nat} (h : i < l.length) (hb : okDe (deAt l i) = false) : ¬ l.all okDe = true := by
  intro h'
  have := List.all_eq_true.1 h' (deAt l i) (by simp [deAt, List.getD_eq_getElem?_getD, h])
  rw [hb] at this; cases this
def co16 (l : List De) (i : Int) : S := mkS 28 [(0, .b (.v (lDe l))), (4, .b (.v (lTa (cnt (l.take i.toNat))))), (5, .b (.v (vI i)))] []
theorem f16 (l : List De) : FCall Try.prog 16 [lDe l] (.tup [lTa (cntR l).1, vI (cntR l).2]) := by
  refine fcall_of Try.func16 rfl (by kernel_rfl) (fun B hB => ?_)
  refine reg0 mix (by kernel_rfl) ?_
  refine reg0 mix (by kernel_rfl) ?_
  refine rCond (decide ((l.length : Int) > 1000)) (by kernel_rfl) (fun h => ?_) (fun h => ?_)
  · refine reg0 mix (by kernel_rfl) ?_
    refine run_weaken (wk_nilLst 2 4 (elTa []) (by kernel_rfl)) ?_ (List.cons_ne_nil _ _)
    refine run_ret (ret_of (.tup [lTa [], vI 2]) (by kernel_rfl) ?_)
    rw [cntR, if_pos (of_decide_eq_true h)]
  have hl : ¬ (l.length : Int) > 1000 := of_decide_eq_false h
  refine reg0 mix (by kernel_rfl) ?_
  refine run_weaken (wk_nilLst 4 4 (elTa []) (by kernel_rfl)) ?_ (List.cons_ne_nil _ _)
  refine reg0 mix (by kernel_rfl) ?_
  refine rBlock ?_
  refine rLoop (co16 l) (fun i => 0 ≤ i ∧ i ≤ l.length ∧ ∀ k : Nat, (k : Int) < i → okDe (deAt l k) = true) (fun i => (l.length - i).toNat) 0 (wkTo [0, 4, 5] [] (by kernel_rfl)) ⟨by omega, by omega, fun k hk => by omega⟩ ?_
  rintro i ⟨h0, h1, h2⟩
  refine reg0 mix (by kernel_rfl) ?_
  refine rCond (decide (i < (l.length : Int))) (by kernel_rfl) (fun hc => ?_) (fun hc => ?_)
  · have hc : i < l.length := of_decide_eq_true hc
    have e : IntKind.i64.wrap (i + 1) = i + 1 := w64 _ (by omega) (by omega)
    have hi : 0 ≤ i ∧ i < (l.length : Int) := ⟨h0, hc⟩
    have c28 := f28 (deAt l i.toNat)
    have c29 := f29 (cnt (l.take i.toNat)) (deAt l i.toNat) (by have := cnt_len (l.take i.toNat); rw [List.length_take] at this; omega)
    rw [← cnt_snoc, ← take_snocD (by omega : i.toNat < l.length)] at c29
    refine rBlock ?_
    refine reg mix [(4, hcon c28)] [pf hi, pf c28] (by kernel_rfl) ?_
    refine rCond (!okDe (deAt l i.toNat)) (by kernel_rfl) (fun h => ?_) (fun h => ?_)
    · refine reg0 mix (by kernel_rfl) ?_
      refine run_weaken (wk_nilLst 2 4 (elTa []) (by kernel_rfl)) ?_ (List.cons_ne_nil _ _)
      refine run_ret (blockR_ret (loopR_ret (blockR_ret (ret_of (.tup [lTa [], vI 1]) (by kernel_rfl) ?_))))
      rw [cntR, if_neg hl, if_neg (all_bad (i := i.toNat) (by omega) (by simpa using h))]
    have hok : okDe (deAt l i.toNat) = true := by simpa using h
    refine reg mix [(5, hcon c29)] [pf hi, pf c29] (by kernel_rfl) ?_
    refine run_nil (blockR_normal ?_)
    refine reg0 mix (by kernel_rfl) ?_
    refine run_nil (loopR_next (IntKind.i64.wrap (i + 1)) ?_ ?_ ?_)
    · rw [show co16 l (IntKind.i64.wrap (i + 1)) = mkS 28 [(0, .b (.v (lDe l))), (4, .b (.v (lTa (cnt (l.take (i.toNat + 1)))))), (5, .b (.v (vI (IntKind.i64.wrap (i + 1)))))] [] by rw [co16, e, show (i + 1).toNat = i.toNat + 1 by omega]]
      exact wkTo [0, 4, 5] [] (by kernel_rfl)
    · rw [e]
      refine ⟨by omega, by omega, fun k hk => ?_⟩
      rcases (by omega : (k : Int) < i ∨ k = i.toNat) with hk' | hk'
      · exact h2 k hk'
      · rw [hk']; exact hok
    · rw [e]; omega
  have hc : ¬ i < l.length := of_decide_eq_false hc
  refine run_exit (loopR_exit (blockR_exit ?_))
  have et : l.take i.toNat = l := List.take_of_length_le (by omega)
  rw [co16, et]
  refine reg0 mix (by kernel_rfl) ?_
  refine run_ret (ret_of (.tup [lTa (cnt l), vI 0]) (by kernel_rfl) ?_)
  rw [cntR, if_neg hl, if_pos (List.all_eq_true.2 fun d hd => by
    obtain ⟨k, hk, rfl⟩ := List.getElem_of_mem hd
    have := h2 k (by omega)
    simpa [deAt, List.getD_eq_getElem?_getD, hk] using this)]
def addR (l : List Ta) (d : De) : List Ta × Int := if okTs l = true ∧ okDe d = true then (if okTs (insT l d.pl) = true then (insT l d.pl, 0) else ([], 2)) else ([], 1)
theorem f18 (l : List Ta) (d : De) (hl : l.length ≤ 1000000) : FCall Try.prog 18 [lTa l, .agg (encDe d)] (.tup [lTa (addR l d).1, vI (addR l d).2]) := by
  have hl1 := insT_len l d.pl
  have c36 := f36 l hl
  have c28 := f28 d
  refine fcall_of Try.func18 rfl (by kernel_rfl) (fun B hB => ?_)
  refine reg mix [(0, .imm)] [] (by kernel_rfl) ?_
  refine regI mix [(1, hcon c36), (5, hcon c28)] [pf (fun _ : true = true => c36), pf (fun _ : (!(!okTs l)) = true => c28)] (by kernel_rfl) ?_
  refine rCond (!okTs l || !okDe d) (by kernel_rfl) (fun h => ?_) (fun h => ?_)
  · refine reg0 mix (by kernel_rfl) ?_
    refine run_weaken (wk_nilLst 4 4 (elTa []) (by kernel_rfl)) ?_ (List.cons_ne_nil _ _)
    refine run_ret (ret_of (.tup [lTa [], vI 1]) (by kernel_rfl) ?_)
    rw [addR, if_neg (by rintro ⟨a, b⟩; rw [a, b] at h; cases h)]
  have hv : okTs l = true ∧ okDe d = true := by simpa using h
  have ha : addR l d = if okTs (insT l d.pl) = true then (insT l d.pl, 0) else ([], 2) := by rw [addR, if_pos hv]
  rw [ha]
  by_cases hbig : (insT l d.pl).length ≤ 1000000
  case neg => exact absurd ((okTs_iff.1 hv.1).len) (by omega)
  have c29 := f29 l d hl
  have c36' := f36 (insT l d.pl) hbig
  refine regC mix [(2, con c29)] (by kernel_rfl) ?_
  refine regC mix [(1, con c36')] (by kernel_rfl) ?_
  refine rCond (!okTs (insT l d.pl)) (by kernel_rfl) (fun h => ?_) (fun h => ?_)
  · refine reg0 mix (by kernel_rfl) ?_
    refine run_weaken (wk_nilLst 4 4 (elTa []) (by kernel_rfl)) ?_ (List.cons_ne_nil _ _)
    refine run_ret (ret_of (.tup [lTa [], vI 2]) (by kernel_rfl) ?_)
    rw [if_neg (by simpa using h)]
  · refine reg0 mix (by kernel_rfl) ?_
    refine run_ret (ret_of (.tup [lTa (insT l d.pl), vI 0]) (by kernel_rfl) ?_)
    rw [if_pos (by simpa using h)]
end
end Go.Proofs.Ytaaplpbjjnechaa
