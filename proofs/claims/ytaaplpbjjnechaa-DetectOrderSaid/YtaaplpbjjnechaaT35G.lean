import Derived.Test.YtaaplpbjjnechaaSymEE
import Derived.Test.YtaaplpbjjnechaaT35F
import Derived.Test.YtaaplpbjjnechaaT35B
namespace Go.Proofs.Ytaaplpbjjnechaa
open Go.Sym
set_option linter.unusedVariables false
set_option linter.unusedSimpArgs false

/-! ### Clone -/
theorem f31 (l : List Ta) (hl : l.length ≤ 1000000) : FOwn Try.prog 31 [5] [lTa l] [(5, .row 37 4 [])] (.v (.c (.row 5 l.length))) [(5, .row 37 4 (rowTa l))] := by
  rcases l with _ | ⟨x, l'⟩
  · refine FOwn.split [] [] 4 _ ?_ (fun a cp => ?_)
    · refine fown_of 8 Try.func31 rfl (by kernel_rfl) ⟨by kernel_rfl, by kernel_rfl, by kernel_rfl, by kernel_rfl, by kernel_rfl, by kernel_rfl, by kernel_rfl⟩ (fun n o hh h => ?_) (by kernel_rfl) (fun B hB hBf => ?_)
      · simp only [List.mem_singleton, Prod.mk.injEq] at h
        rw [h.2]; rfl
      refine run_weaken (wkSlim [0] [5] (by kernel_rfl)) ?_ (List.cons_ne_nil _ _)
      refine reg0 mix (by kernel_rfl) ?_
      refine reg0 mix (by kernel_rfl) ?_
      refine rCondT true (by kernel_rfl) rfl ?_
      refine reg0 mix (by kernel_rfl) ?_
      refine run_weaken (wk_nilRow 2 5 37 4 (by kernel_rfl) (by kernel_rfl) (by omega)) ?_ (List.cons_ne_nil _ _)
      exact run_ret (ownEndsO 2 _ (.inl rfl) (by kernel_rfl) (by kernel_rfl) ⟨by kernel_rfl, .inl rfl, trivial⟩)
    · refine fown_of 8 Try.func31 rfl (by kernel_rfl) ⟨by kernel_rfl, by kernel_rfl, by kernel_rfl, by kernel_rfl, by kernel_rfl, by kernel_rfl, by kernel_rfl⟩ (fun n o hh h => ?_) (by kernel_rfl) (fun B hB hBf => ?_)
      · simp only [List.mem_singleton, Prod.mk.injEq] at h
        rw [h.2]; rfl
      refine run_weaken (wkSlim [0] [5] (by kernel_rfl)) ?_ (List.cons_ne_nil _ _)
      refine reg0 mix (by kernel_rfl) ?_
      refine reg0 mix (by kernel_rfl) ?_
      refine rCondF false (by kernel_rfl) rfl ?_
      refine reg mix [] [pf (rfl : 0 = ([] : List (List C)).length), pf ((by omega) : (0 + 0) * 33 ≤ 140737488355328)] (by kernel_rfl) ?_
      exact run_ret (ownEndsO 2 _ (.inl rfl) (by kernel_rfl) (by kernel_rfl) ⟨by kernel_rfl, .inl rfl, trivial⟩)
  · generalize hg : x :: l' = l at hl ⊢
    have h0 : 0 < l.length := by rw [← hg]; simp
    clear hg
    rw [← Nat.zero_add l.length]
    refine fown_of 8 Try.func31 rfl (by kernel_rfl) ⟨by kernel_rfl, by kernel_rfl, by kernel_rfl, by kernel_rfl, by kernel_rfl, by kernel_rfl, by kernel_rfl⟩ (fun n o hh h => ?_) (by kernel_rfl) (fun B hB hBf => ?_)
    · simp only [List.mem_singleton, Prod.mk.injEq] at h
      rw [h.2]; rfl
    refine run_weaken (wkSlim [0] [5] (by kernel_rfl)) ?_ (List.cons_ne_nil _ _)
    refine reg0 mix (by kernel_rfl) ?_
    refine reg mix [] [pf h0] (by kernel_rfl) ?_
    refine rCondF false (by kernel_rfl) rfl ?_
    refine reg mix [] [pf (rfl : 0 = ([] : List (List C)).length), pf ((by omega) : (0 + l.length) * 33 ≤ 140737488355328)] (by kernel_rfl) ?_
    have e : (List.range l.length).map (elTa l) = rowTa l := by
      refine List.ext_getElem (by simp [rowTa]) fun i h1 h2 => ?_
      simp only [List.length_map, List.length_range] at h1
      simp [elTa, rowTa, List.getD_eq_getElem?_getD, h1]
    rw [← e]
    exact run_ret (ownEndsO 2 _ (.inl rfl) (by kernel_rfl) (by kernel_rfl) ⟨by kernel_rfl, .inl rfl, trivial⟩)

/-! ### BinarySearchFunc -/
theorem f33 (x : Ta) (p : Pc) : FCall Try.prog 33 [.agg (encTa x), .agg (encPc p)] (.v (vI (cmpP x.pl p))) := by
  have c27 := f27 x.pl p
  generalize cmpP x.pl p = r at c27 ⊢
  refine fcall_of Try.func33 rfl (by kernel_rfl) (fun B hB => ?_)
  refine reg mix [(0, .imm), (1, .imm)] [] (by kernel_rfl) ?_
  refine regC mix [(1, con (f34 x)), (3, con c27)] (by kernel_rfl) ?_
  exact run_ret (ret_of (.v (vI r)) (by kernel_rfl) rfl)
/-- How many places of a list are less than p, from its head on. -/
def posT (l : List Ta) (p : Pc) : Nat := (l.takeWhile fun x => ltP x.pl p).length
theorem posT_le (l : List Ta) (p : Pc) : posT l p ≤ l.length := List.takeWhile_prefix _ |>.length_le
theorem posT_lt : ∀ {l : List Ta} {p : Pc} {k : Nat}, k < posT l p → ltP (taAt l k).pl p = true
  | [], p, k, h => by simp [posT] at h
  | x :: l, p, k, h => by
    unfold posT at h
    rw [List.takeWhile_cons] at h
    split at h
    · rename_i hx
      cases k with
      | zero => exact hx
      | succ k =>
        rw [List.length_cons] at h
        exact posT_lt (l := l) (show k < posT l p by unfold posT; omega)
    · simp at h
theorem posT_ge : ∀ {l : List Ta} {p : Pc}, posT l p < l.length → ltP (taAt l (posT l p)).pl p = false
  | [], p, h => by simp at h
  | x :: l, p, h => by
    unfold posT at h ⊢
    rw [List.takeWhile_cons] at h ⊢
    split at h
    · rename_i hx
      simp only [hx, if_true, List.length_cons] at h ⊢
      exact posT_ge (l := l) (show posT l p < l.length by unfold posT; omega)
    · rename_i hx
      simp [hx, taAt]
theorem posT_eq {l : List Ta} {p : Pc} {i : Nat} (hi : i ≤ l.length) (h1 : ∀ k, k < i → ltP (taAt l k).pl p = true) (h2 : i < l.length → ltP (taAt l i).pl p = false) : i = posT l p := by
  rcases Nat.lt_trichotomy i (posT l p) with h | h | h
  · have := posT_lt h
    rw [h2 (by have := posT_le l p; omega)] at this; cases this
  · exact h
  · have := posT_ge (l := l) (p := p) (by omega)
    rw [h1 _ h] at this; cases this
theorem ltP_trans {a b c : Pc} (h1 : ltP a b = true) (h2 : ltP b c = true) : ltP a c = true := by
  rw [lt_iff] at *; omega
theorem ltP_irrefl {a : Pc} : ltP a a = false := by
  rw [Bool.eq_false_iff]; intro h; rw [lt_iff] at h; omega
theorem ltP_asymm {a b : Pc} (h : ltP a b = true) : ltP b a = false := by
  rw [Bool.eq_false_iff]; intro h'; have := ltP_trans h h'; rw [ltP_irrefl] at this; cases this
theorem ltP_tri {a b : Pc} (h1 : ltP a b = false) (h2 : ltP b a = false) : a = b := by
  rw [Bool.eq_false_iff, Ne, lt_iff] at h1 h2
  obtain ⟨x, y, z⟩ := a
  obtain ⟨x', y', z'⟩ := b
  simp only at h1 h2
  rw [Pc.mk.injEq]; omega
theorem sorted_lt {l : List Ta} (h : OkTs l) : ∀ {i j : Nat}, i < j → j < l.length → ltP (taAt l i).pl (taAt l j).pl = true := by
  intro i j hij hj
  induction j with
  | zero => omega
  | succ j ih =>
    have h1 := (bad_ex (h.ok (j + 1) hj)).2.2.2 (by omega)
    rw [Nat.add_sub_cancel] at h1
    by_cases e : i = j
    · rw [e]; exact h1
    · exact ltP_trans (ih (by omega) (by omega)) h1
def fndT (l : List Ta) (p : Pc) : Bool := decide (posT l p < l.length) && decide ((taAt l (posT l p)).pl = p)
theorem half_eq {i j : Int} (h0 : 0 ≤ i) (hij : i < j) (hj : j ≤ 1000000) : IntKind.i64.wrap ((IntKind.u64.wrap (IntKind.i64.wrap (i + j))).fdiv (2 ^ (1 : Int).toNat)) = (i + j) / 2 := by
  rw [w64 (i + j) (by omega) (by omega)]
  have : IntKind.u64.wrap (i + j) = i + j := by simp only [IntKind.wrap, IntKind.bits, IntKind.signed]; simp; omega
  rw [this, show (2 : Int) ^ (1 : Int).toNat = 2 from rfl, Int.fdiv_eq_ediv_of_nonneg _ (by omega)]
  exact w64 _ (by omega) (by omega)
def bs32 (l : List Ta) (p : Pc) (x : Int × Int) : S := mkO 49 1 [(0, .pin 0 (.v (.c (.row 0 l.length)))), (2, .pin 2 (.v (.c (.clo 33 [])))), (4, .b (.v (.c (.kptr (encPc p) 0)))), (8, .b (.v (vI l.length))), (9, .b (.v (vI x.1))), (10, .b (.v (vI x.2)))] [(0, .row 37 4 (rowTa l))]
def bh32 (l : List Ta) (p : Pc) (i j h : Int) : S := mkO 49 1 [(0, .pin 0 (.v (.c (.row 0 l.length)))), (2, .pin 2 (.v (.c (.clo 33 [])))), (4, .b (.v (.c (.kptr (encPc p) 0)))), (8, .b (.v (vI l.length))), (9, .b (.v (vI i))), (10, .b (.v (vI j))), (11, .b (.v (vI h)))] [(0, .row 37 4 (rowTa l))]
theorem rowTa_at {l : List Ta} {i : Nat} (h : i < l.length) : (rowTa l).getD i [] = encTa (taAt l i) := by simp [rowTa, taAt, List.getD_eq_getElem?_getD, h]
theorem f32 (l : List Ta) (p : Pc) (hl : OkTs l) (hp : exB p = true) : FOwn Try.prog 32 [] [.c (.row 0 l.length), .agg (encPc p), .c (.clo 33 [])] [(0, .row 37 4 (rowTa l))] (.tup [vI (posT l p), vB (fndT l p)]) [(0, .row 37 4 (rowTa l))] := by
  have hlen := hl.len
  have hrl := (rowTa_len l).symm
  refine fown_of 1 Try.func32 rfl (by kernel_rfl) ⟨by kernel_rfl, by kernel_rfl, by kernel_rfl, by kernel_rfl, by kernel_rfl, by kernel_rfl, by kernel_rfl⟩ (fun n o hh h => by cases hh) (by kernel_rfl) (fun B hB hBf => ?_)
  refine reg mix [(0, .imm)] [] (by kernel_rfl) ?_
  refine reg mix [] [pf hrl] (by kernel_rfl) ?_
  refine reg0 mix (by kernel_rfl) ?_
  refine rBlock ?_
  refine rLoop (bs32 l p) (fun x => 0 ≤ x.1 ∧ x.1 ≤ x.2 ∧ x.2 ≤ l.length ∧ (∀ k : Nat, (k : Int) < x.1 → ltP (taAt l k).pl p = true) ∧ ∀ k : Nat, x.2 ≤ k → k < l.length → ltP (taAt l k).pl p = false) (fun x => (x.2 - x.1).toNat) (0, (l.length : Int)) (wkTo [0, 2, 4, 8, 9, 10] [] (by kernel_rfl)) ⟨by omega, by omega, by omega, fun k hk => by simp only at hk; omega, fun k h1 h2 => by simp only at h1; omega⟩ ?_
  rintro ⟨i, j⟩ ⟨h0, h1, h2, h3, h4⟩
  simp only at h0 h1 h2 h3 h4
  refine reg0 mix (by kernel_rfl) ?_
  refine rCond (decide (i < j)) (by kernel_rfl) (fun hc => ?_) (fun hc => ?_)
  · have hc : i < j := of_decide_eq_true hc
    obtain ⟨h, hh⟩ : ∃ h, h = IntKind.i64.wrap ((IntKind.u64.wrap (IntKind.i64.wrap (i + j))).fdiv (2 ^ (1 : Int).toNat)) := ⟨_, rfl⟩
    have he := half_eq h0 hc (by omega)
    rw [← hh] at he
    have e : IntKind.i64.wrap (h + 1) = h + 1 := w64 _ (by omega) (by omega)
    have hlt : h.toNat < l.length := by omega
    have q1 : QAt h l.length (rowTa l) := ⟨⟨by omega, by omega⟩, (rowTa_len l).symm⟩
    have q2 : QEl l.length h.toNat (rowTa l) (encTa (taAt l h.toNat)) := ⟨⟨(rowTa_len l).symm, hlt⟩, rowTa_at hlt⟩
    have c33 := f33 (taAt l h.toNat) p
    have hcmp := (cmp_lt (bad_ex (hl.ok _ hlt)).1 hp).1
    refine rBlock ?_
    refine reg mix [] [pf (by decide : (0 : Int) ≤ 1 ∧ (1 : Int) ≤ (IntKind.u64.bits : Int))] (by kernel_rfl) ?_
    refine run_weaken (s' := bh32 l p i j (IntKind.i64.wrap ((IntKind.u64.wrap (IntKind.i64.wrap (i + j))).fdiv (2 ^ (1 : Int).toNat)))) (wkTo [0, 2, 4, 8, 9, 10, 11] [] (by kernel_rfl)) ?_ (List.cons_ne_nil _ _)
    rw [← hh]
    clear hh
    refine reg mix [(4, .frz 0 (fun _ => encTa (taAt l h.toNat))), (6, hcon c33)] [pf q1, pf q2, pf c33] (by kernel_rfl) ?_
    refine rCond (decide (cmpP (taAt l h.toNat).pl p < 0)) (by kernel_rfl) (fun hx => ?_) (fun hx => ?_)
    · have hx := hcmp.1 (of_decide_eq_true hx)
      refine reg0 mix (by kernel_rfl) ?_
      refine run_nil (blockR_normal (run_nil (loopR_next (IntKind.i64.wrap (h + 1), j) (wkTo [0, 2, 4, 8, 9, 10] [] (by kernel_rfl)) ?_ ?_)))
      · rw [e]
        refine ⟨by simp only; omega, by simp only; omega, h2, fun k hk => ?_, h4⟩
        simp only at hk
        rcases (by omega : k < h.toNat ∨ k = h.toNat) with hk' | hk'
        · exact ltP_trans (sorted_lt hl hk' hlt) hx
        · rw [hk']; exact hx
      · rw [e]; simp only; omega
    · have hx : ltP (taAt l h.toNat).pl p = false := by
        rw [Bool.eq_false_iff]; intro h'; exact of_decide_eq_false hx (hcmp.2 h')
      refine reg0 mix (by kernel_rfl) ?_
      refine run_nil (blockR_normal (run_nil (loopR_next (i, h) (wkTo [0, 2, 4, 8, 9, 10] [] (by kernel_rfl)) ?_ ?_)))
      · refine ⟨h0, by simp only; omega, by simp only; omega, h3, fun k hk hk2 => ?_⟩
        simp only at hk
        rcases (by omega : h.toNat < k ∨ k = h.toNat) with hk' | hk'
        · rw [Bool.eq_false_iff]
          intro hq
          have := ltP_trans (sorted_lt hl hk' hk2) hq
          rw [hx] at this; cases this
        · rw [hk']; exact hx
      · simp only; omega
  have hc : ¬ i < j := of_decide_eq_false hc
  obtain rfl : i = j := by omega
  have hpos : i.toNat = posT l p := posT_eq (by omega) (fun k hk => h3 k (by omega)) (fun hk => h4 _ (by omega) hk)
  refine run_exit (loopR_exit (blockR_exit ?_))
  have c33 := f33 (taAt l i.toNat) p
  have q1 : decide (i < (l.length : Int)) = true → QAt i l.length (rowTa l) := fun hq => ⟨⟨h0, of_decide_eq_true hq⟩, hrl⟩
  have q2 : decide (i < (l.length : Int)) = true → QEl l.length i.toNat (rowTa l) (encTa (taAt l i.toNat)) := fun hq => ⟨⟨hrl, by have := of_decide_eq_true hq; omega⟩, rowTa_at (by have := of_decide_eq_true hq; omega)⟩
  refine regI mix [(9, .frz 0 (fun _ => encTa (taAt l i.toNat))), (11, hcon c33)] [pf q1, pf q2, pf (fun _ : decide (i < (l.length : Int)) = true => c33)] (by kernel_rfl) ?_
  have ef : (decide (i < (l.length : Int)) && (cmpP (taAt l i.toNat).pl p == 0)) = fndT l p := by
    rw [fndT, ← hpos]
    by_cases hq : i.toNat < l.length
    · have := (cmp_lt (bad_ex (hl.ok _ hq)).1 hp).2
      rw [decide_eq_true (show i < (l.length : Int) by omega), decide_eq_true hq, Bool.true_and, Bool.true_and, Bool.eq_iff_iff]
      simp [this]
    · rw [decide_eq_false (show ¬ i < (l.length : Int) by omega), decide_eq_false hq, Bool.false_and, Bool.false_and]
  have ei : i = (posT l p : Int) := by omega
  rw [← ef, ← ei]
  exact run_ret (ownEnds (.inl rfl) (by kernel_rfl) ⟨by kernel_rfl, .inr ⟨0, wit_row (l := l.length) 0 (by kernel_rfl) (by kernel_rfl) (.head _) hrl rfl⟩, trivial⟩)
end Go.Proofs.Ytaaplpbjjnechaa
