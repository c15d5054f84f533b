import Derived.Test.YtakaeaekeeoicaaT19A
import Derived.Test.YtakaeaekeeoicaaSymY
namespace Go.Proofs.Ytakaeaekeeoicaa.StbI
open Go.Sym Go.Proofs.Ytakaeaekeeoicaa
set_option linter.unusedVariables false
set_option linter.unusedSimpArgs false

/-! slices.SortStableFunc at Int: printed from wip/tmpl/stable.lean. -/

abbrev ev (x : Int) : CV := vI x
def rwE (L : List Int) : List (List C) := L.map (fun x => [cI x])
theorem rwE_len (L : List Int) : (rwE L).length = L.length := by simp [rwE]
theorem rwE_get {L : List Int} {i : Nat} (h : i < L.length) : (rwE L).getD i [] = (fun x => [cI x]) (L.getD i 0) := by
  simp [rwE, List.getD_eq_getElem?_getD, h]
theorem rwE_set (L : List Int) (i : Nat) (x : Int) : (rwE L).set i ((fun x => [cI x]) x) = rwE (L.set i x) := by simp [rwE]
theorem rwE_q {n : Nat} {j : Int} {L : List Int} (h0 : 0 ≤ j) (h1 : j < (L.length : Int)) (hn : n = L.length) : QAt j n (rwE L) := ⟨⟨h0, by omega⟩, by rw [rwE_len, hn]⟩
theorem rwE_e {n i : Nat} {L A R : List Int} {x : Int} (hn : n = L.length) (hL : L = A ++ x :: R) (hi : i = A.length) : QEl n i (rwE L) ((fun x => [cI x]) x) := by
  subst hL
  have : i < (A ++ x :: R).length := by rw [hi]; simp
  exact ⟨⟨by rw [rwE_len, hn], by omega⟩, by rw [rwE_get this, getD_mid hi]⟩

/-- What the comparison does. -/
structure Ord (g : FuncId) (caps : List C) (cm : Int → Int → Int) (key : Int → Int) (ok : Int → Prop) : Prop where
  call : ∀ x y, ok x → ok y → FCall Try.prog g ([ev x, ev y] ++ caps.map .c) (.v (vI (cm x y)))
  lt : ∀ x y, ok x → ok y → (cm x y < 0 ↔ key x < key y)

variable {g : FuncId} {caps : List C} {cm : Int → Int → Int} {key : Int → Int} {ok : Int → Prop}

def i1S (n : Nat) (a b : Int) (g : FuncId) (caps : List C) (e : Nat) (x : Int × List (List C)) : S :=
  mkO 53 1 [(0, .pin 0 (.v (.c (.row 0 n)))), (1, .pin 1 (.v (vI a))), (2, .pin 2 (.v (vI b))), (3, .pin 3 (.v (.c (.clo g caps)))), (8, .b (.v (vI x.1)))] [(0, .row e 1 x.2)]
def i2S (n : Nat) (a b : Int) (g : FuncId) (caps : List C) (e : Nat) (i : Int) (x : Int × List (List C)) : S :=
  mkO 53 1 [(0, .pin 0 (.v (.c (.row 0 n)))), (1, .pin 1 (.v (vI a))), (2, .pin 2 (.v (vI b))), (3, .pin 3 (.v (.c (.clo g caps)))), (8, .b (.v (vI i))), (9, .b (.v (vI x.1)))] [(0, .row e 1 x.2)]
theorem ins (ho : Ord g caps cm key ok) (e n : Nat) (a b : Int) (P X Q : List Int) (hn : n = (P ++ (X ++ Q)).length) (ha : a = P.length) (hb : b = P.length + X.length) (hl : n ≤ 1000000) (hok : ∀ x, x ∈ X → ok x) :
    FOwn Try.prog 33 [] [.c (.row 0 n), vI a, vI b, .c (.clo g caps)] [(0, .row e 1 (rwE (P ++ (X ++ Q))))] (.tup []) [(0, .row e 1 (rwE (P ++ (isort key X ++ Q))))] := by
  have hn' : n = P.length + (X.length + Q.length) := by rw [hn]; simp
  refine fown_of 1 Try.func33 rfl (by kernel_rfl) ⟨by kernel_rfl, by kernel_rfl, by kernel_rfl, by kernel_rfl, by kernel_rfl, by kernel_rfl, by kernel_rfl⟩ (fun n o hh h => by cases hh) (by kernel_rfl) (fun B hB hBf => ?_)
  refine reg0 mix (by kernel_rfl) ?_
  refine rBlock ?_
  have ea : IntKind.i64.wrap (a + 1) = a + 1 := w64 _ (by omega) (by omega)
  refine rLoop (i1S n a b g caps e) (fun s => (∃ A B, X = A ++ B ∧ A ≠ [] ∧ s.1 = a + A.length ∧ s.2 = rwE (P ++ (isort key A ++ (B ++ Q)))) ∨ (X = [] ∧ s.1 = a + 1 ∧ s.2 = rwE (P ++ (X ++ Q)))) (fun s => (b - s.1).toNat) (IntKind.i64.wrap (a + 1), rwE (P ++ (X ++ Q))) (wkTo [0, 1, 2, 3, 8] [] (by kernel_rfl)) ?_ ?_
  · rw [ea]
    cases X with
    | nil => exact .inr ⟨rfl, rfl, rfl⟩
    | cons x X => exact .inl ⟨[x], X, rfl, by simp, by simp, rfl⟩
  rintro ⟨i, css⟩ hR
  refine reg0 mix (by kernel_rfl) ?_
  refine rCond (decide (i < b)) (by kernel_rfl) (fun hc => ?_) (fun hc => ?_)
  · have hc : i < b := of_decide_eq_true hc
    rcases hR with ⟨A, B', hX, hA, hi, hcss⟩ | ⟨h1, h2, h3⟩
    case inr => simp only at h2; rw [h1] at hb; simp at hb; omega
    simp only at hi hcss
    cases B' with
    | nil => rw [List.append_nil] at hX; subst hX; omega
    | cons x B' =>
    have hXl : X.length = A.length + (B'.length + 1) := by rw [hX]; simp
    have ei : IntKind.i64.wrap (i + 1) = i + 1 := w64 _ (by omega) (by omega)
    refine rBlock ?_
    refine reg0 mix (by kernel_rfl) ?_
    refine rBlock ?_
    have hS := isort_sorted key A
    have hSl := isort_len key A
    have hxo : ok x := hok x (by rw [hX]; simp)
    refine rLoop (i2S n a b g caps e i) (fun s => ∃ L1 L2, isort key A = L1 ++ L2 ∧ s.1 = a + L1.length ∧ s.2 = rwE (P ++ (L1 ++ x :: (L2 ++ (B' ++ Q)))) ∧ ∀ y, y ∈ L2 → key x < key y) (fun s => (s.1 - a).toNat) (i, css) (wkTo [0, 1, 2, 3, 8, 9] [] (by kernel_rfl)) ⟨isort key A, [], by simp, by simp only; rw [hi, hSl], hcss, fun y hy => by cases hy⟩ ?_
    rintro ⟨j, css2⟩ ⟨L1, L2, hS2, hj, hcss2, hgt⟩
    simp only at hj hcss2
    subst hcss2
    have hSl2 : L1.length + L2.length = A.length := by rw [← hSl, hS2]; simp
    have hend : (∀ y, y ∈ L1 → key y ≤ key x) → isort key (A ++ [x]) = L1 ++ x :: L2 := fun h => by
      rw [isort_snoc, hS2, insR_at key h hgt]
    have hLl : (P ++ (L1 ++ x :: (L2 ++ (B' ++ Q)))).length = n := by rw [hn']; simp; omega
    obtain ⟨y, hyo, hy⟩ : ∃ y, ok y ∧ (decide (j > a) = true → ∃ L1', L1 = L1' ++ [y]) := by
      rcases List.eq_nil_or_concat L1 with h0 | ⟨L1', y, h0⟩
      · exact ⟨x, hxo, fun h => by have := of_decide_eq_true h; rw [h0] at hj; simp at hj; omega⟩
      · refine ⟨y, hok y ?_, fun _ => ⟨L1', by rw [h0]; simp⟩⟩
        have : y ∈ isort key A := by rw [hS2, h0]; simp
        rw [hX]; simp [(mem_isort key).1 this]
    have hgj : decide (j > a) = true → L1.length ≠ 0 := fun h => by obtain ⟨L', e⟩ := hy h; rw [e]; simp
    have ej : decide (j > a) = true → IntKind.i64.wrap (j - 1) = j - 1 := fun h => w64 _ (by omega) (by omega)
    have q1 : QAt j n (rwE (P ++ (L1 ++ x :: (L2 ++ (B' ++ Q))))) := rwE_q (by omega) (by rw [hLl]; omega) hLl.symm
    have q2 : QEl n j.toNat (rwE (P ++ (L1 ++ x :: (L2 ++ (B' ++ Q))))) ((fun x => [cI x]) x) := rwE_e (A := P ++ L1) (R := L2 ++ (B' ++ Q)) hLl.symm (by simp) (by simp; omega)
    have q3 : decide (j > a) = true → QAt (IntKind.i64.wrap (j - 1)) n (rwE (P ++ (L1 ++ x :: (L2 ++ (B' ++ Q))))) := fun h => by
      have := hgj h
      rw [ej h]; exact rwE_q (by omega) (by rw [hLl]; omega) hLl.symm
    have q4 : decide (j > a) = true → QEl n (IntKind.i64.wrap (j - 1)).toNat (rwE (P ++ (L1 ++ x :: (L2 ++ (B' ++ Q))))) ((fun x => [cI x]) y) := fun h => by
      obtain ⟨L1', e1⟩ := hy h
      have e2 : L1.length = L1'.length + 1 := by rw [e1]; simp
      rw [ej h]; exact rwE_e (A := P ++ L1') (R := x :: (L2 ++ (B' ++ Q))) hLl.symm (by rw [e1]; simp) (by simp; omega)
    refine regI mix [(8, .frz 0 (fun _ => (fun x => [cI x]) x)), (13, .frz 0 (fun _ => (fun x => [cI x]) y)), (14, .call (.v (vI (cm x y))))] [pf (fun _ : decide (j > a) = true => q1), pf (fun _ : decide (j > a) = true => q2), pf q3, pf q4, pf (fun _ : decide (j > a) = true => ho.call x y hxo hyo)] (by kernel_rfl) ?_
    refine rCond (decide (j > a) && decide (cm x y < 0)) (by kernel_rfl) (fun h => ?_) (fun h => ?_)
    · simp only [Bool.and_eq_true, decide_eq_true_eq] at h
      obtain ⟨h1, h2⟩ := h
      have h1' : decide (j > a) = true := decide_eq_true h1
      obtain ⟨L1', e1⟩ := hy h1'
      have e2 : L1.length = L1'.length + 1 := by rw [e1]; simp
      have ejj := ej h1'
      have e3 : (P ++ (L1 ++ x :: (L2 ++ (B' ++ Q)))) = (P ++ L1') ++ y :: ([] ++ x :: (L2 ++ (B' ++ Q))) := by rw [e1]; simp
      have e4 : ((rwE (P ++ (L1 ++ x :: (L2 ++ (B' ++ Q))))).set j.toNat ((fun x => [cI x]) y)).set (IntKind.i64.wrap (j - 1)).toNat ((fun x => [cI x]) x) = rwE (P ++ (L1' ++ x :: (y :: L2 ++ (B' ++ Q)))) := by
        rw [rwE_set, rwE_set, ejj, e3, set_mid2' (by simp; omega) (by simp; omega)]; simp
      have q5 : QEl n (IntKind.i64.wrap (j - 1)).toNat ((rwE (P ++ (L1 ++ x :: (L2 ++ (B' ++ Q))))).set j.toNat ((fun x => [cI x]) y)) ((fun x => [cI x]) y) := by
        have e5 : (P ++ (L1 ++ x :: (L2 ++ (B' ++ Q)))).set j.toNat y = (P ++ L1') ++ y :: (y :: (L2 ++ (B' ++ Q))) := by
          rw [show (P ++ (L1 ++ x :: (L2 ++ (B' ++ Q)))) = (P ++ L1) ++ x :: (L2 ++ (B' ++ Q)) by simp, set_mid (by simp; omega), e1]; simp
        rw [rwE_set, e5, ejj]
        exact rwE_e (A := P ++ L1') (R := y :: (L2 ++ (B' ++ Q))) (by rw [← hLl, e1]; simp) rfl (by simp; omega)
      have q6 : QAt (IntKind.i64.wrap (j - 1)) n ((rwE (P ++ (L1 ++ x :: (L2 ++ (B' ++ Q))))).set j.toNat ((fun x => [cI x]) y)) := ⟨(q3 h1').1, by rw [List.length_set]; exact (q3 h1').2⟩
      refine rBlock ?_
      refine reg mix [(9, .frz 0 (fun _ => (fun x => [cI x]) y)), (13, .frz 0 (fun _ => (fun x => [cI x]) x)), (15, .frz 0 (fun _ => (fun x => [cI x]) x)), (17, .frz 0 (fun _ => (fun x => [cI x]) y))] [pf (q3 h1'), pf (q4 h1'), pf q1, pf q2, pf q1, pf q2, pf q6, pf q5] (by kernel_rfl) ?_
      refine run_nil (blockR_normal ?_)
      refine reg0 mix (by kernel_rfl) ?_
      refine run_nil (loopR_next (IntKind.i64.wrap (j - 1), ((rwE (P ++ (L1 ++ x :: (L2 ++ (B' ++ Q))))).set j.toNat ((fun x => [cI x]) y)).set (IntKind.i64.wrap (j - 1)).toNat ((fun x => [cI x]) x)) (wkTo [0, 1, 2, 3, 8, 9] [] (by kernel_rfl)) ⟨L1', y :: L2, by rw [hS2, e1]; simp, by simp only; rw [ejj]; omega, e4, fun z hz => ?_⟩ (by simp only; rw [ejj]; omega))
      rcases List.mem_cons.1 hz with rfl | hz
      · exact (ho.lt x z hxo hyo).1 h2
      · exact hgt z hz
    · have hle : ∀ z, z ∈ L1 → key z ≤ key x := by
        intro z hz
        have hja : decide (j > a) = true := by
          cases L1 with
          | nil => cases hz
          | cons u L1 => simp at hj; simp; omega
        obtain ⟨L1', e1⟩ := hy hja
        rw [hja, Bool.true_and] at h
        have h2 := of_decide_eq_false h
        have h3 : key y ≤ key x := by
          have := ho.lt x y hxo hyo
          omega
        have h4 : key z ≤ key y := by
          rw [e1] at hz
          rcases List.mem_append.1 hz with hz | hz
          · rw [hS2, e1, List.append_assoc] at hS
            exact (List.pairwise_append.1 hS).2.2 z hz y (by simp)
          · rw [List.mem_singleton.1 hz]; exact Int.le_refl _
        omega
      refine run_exit (loopR_exit (blockR_exit ?_))
      refine run_nil (blockR_normal ?_)
      refine reg0 mix (by kernel_rfl) ?_
      refine run_nil (loopR_next (IntKind.i64.wrap (i + 1), rwE (P ++ (L1 ++ x :: (L2 ++ (B' ++ Q))))) (wkTo [0, 1, 2, 3, 8] [] (by kernel_rfl)) (.inl ⟨A ++ [x], B', by rw [hX]; simp, by simp, by simp only; rw [ei, hi]; simp; omega, ?_⟩) (by simp only; rw [ei]; omega))
      simp only
      rw [hend hle]; simp
  · have hc : ¬ i < b := of_decide_eq_false hc
    have hfin : css = rwE (P ++ (isort key X ++ Q)) := by
      rcases hR with ⟨A, B', hX, hA, hi, hcss⟩ | ⟨h1, h2, h3⟩
      · simp only at hi hcss
        have hXl : X.length = A.length + B'.length := by rw [hX]; simp
        have : B' = [] := List.eq_nil_of_length_eq_zero (by omega)
        subst this
        rw [hcss, hX]; simp
      · simp only at h3
        rw [h3, h1, isort_nil]
    subst hfin
    refine run_exit (loopR_exit (blockR_exit ?_))
    exact run_nil (ownEnds (.inr rfl) (by kernel_rfl) ⟨by kernel_rfl, .inr ⟨0, wit_row (l := n) 0 (by kernel_rfl) (by kernel_rfl) (.head _) (by rw [rwE_len, hn']; simp [isort_len]) (by simp [rwE_len, isort_len])⟩, trivial⟩)

def w1S (n : Nat) (a b m : Int) (g : FuncId) (caps : List C) (e : Nat) (x : Int × List (List C)) : S :=
  mkO 38 1 [(0, .pin 0 (.v (.c (.row 0 n)))), (1, .pin 1 (.v (vI a))), (2, .pin 2 (.v (vI b))), (3, .pin 3 (.v (vI m))), (10, .b (.v (vI x.1)))] [(0, .row e 1 x.2)]
theorem swp (g : FuncId) (caps : List C) (e n : Nat) (a b m : Int) (P X V W Q : List Int) (hn : n = (P ++ (X ++ (V ++ (W ++ Q)))).length) (ha : a = P.length) (hb : b = P.length + X.length + V.length) (hm : m = X.length) (hxw : X.length = W.length) (hl : n ≤ 1000000) :
    FOwn Try.prog 51 [] [.c (.row 0 n), vI a, vI b, vI m, .c (.clo g caps)] [(0, .row e 1 (rwE (P ++ (X ++ (V ++ (W ++ Q))))))] (.tup []) [(0, .row e 1 (rwE (P ++ (W ++ (V ++ (X ++ Q))))))] := by
  have hn' : n = P.length + (X.length + (V.length + (W.length + Q.length))) := by rw [hn]; simp
  refine fown_of 1 Try.func51 rfl (by kernel_rfl) ⟨by kernel_rfl, by kernel_rfl, by kernel_rfl, by kernel_rfl, by kernel_rfl, by kernel_rfl, by kernel_rfl⟩ (fun n o hh h => by cases hh) (by kernel_rfl) (fun B hB hBf => ?_)
  refine reg0 mix (by kernel_rfl) ?_
  refine rBlock ?_
  refine rLoop (w1S n a b m g caps e) (fun s => ∃ X1 X2 W1 W2, X = X1 ++ X2 ∧ W = W1 ++ W2 ∧ s.1 = X1.length ∧ X1.length = W1.length ∧ s.2 = rwE (P ++ (W1 ++ (X2 ++ (V ++ (X1 ++ (W2 ++ Q))))))) (fun s => (m - s.1).toNat) (0, rwE (P ++ (X ++ (V ++ (W ++ Q))))) (wkTo [0, 1, 2, 3, 10] [] (by kernel_rfl)) ⟨[], X, [], W, rfl, rfl, rfl, rfl, by simp⟩ ?_
  rintro ⟨i, css⟩ ⟨X1, X2, W1, W2, hX, hW, hi, h12, hcss⟩
  simp only at hi hcss
  subst hcss
  have hXl : X.length = X1.length + X2.length := by rw [hX]; simp
  have hWl : W.length = W1.length + W2.length := by rw [hW]; simp
  refine reg0 mix (by kernel_rfl) ?_
  refine rCond (decide (i < m)) (by kernel_rfl) (fun hc => ?_) (fun hc => ?_)
  · have hc : i < m := of_decide_eq_true hc
    cases X2 with
    | nil => simp only [List.length_nil] at hXl; omega
    | cons x X2 =>
    cases W2 with
    | nil => simp only [List.length_nil, List.length_cons] at hXl hWl; omega
    | cons y W2 =>
    simp only [List.length_cons] at hXl hWl
    have ei : IntKind.i64.wrap (i + 1) = i + 1 := w64 _ (by omega) (by omega)
    have ea : IntKind.i64.wrap (a + i) = a + i := w64 _ (by omega) (by omega)
    have eb : IntKind.i64.wrap (b + i) = b + i := w64 _ (by omega) (by omega)
    have hL : P ++ (W1 ++ (x :: X2 ++ (V ++ (X1 ++ (y :: W2 ++ Q))))) = (P ++ W1) ++ x :: ((X2 ++ (V ++ X1)) ++ y :: (W2 ++ Q)) := by simp
    have hL2 : P ++ (W1 ++ (x :: X2 ++ (V ++ (X1 ++ (y :: W2 ++ Q))))) = (P ++ (W1 ++ (x :: X2 ++ (V ++ X1)))) ++ y :: (W2 ++ Q) := by simp
    have hLl : (P ++ (W1 ++ (x :: X2 ++ (V ++ (X1 ++ (y :: W2 ++ Q)))))).length = n := by rw [hn']; simp; omega
    generalize hLL : P ++ (W1 ++ (x :: X2 ++ (V ++ (X1 ++ (y :: W2 ++ Q))))) = L at hL hL2 hLl
    have qa : QAt (IntKind.i64.wrap (a + i)) n (rwE L) := by rw [ea]; exact rwE_q (by omega) (by rw [hLl]; omega) hLl.symm
    have qb : QAt (IntKind.i64.wrap (b + i)) n (rwE L) := by rw [eb]; exact rwE_q (by omega) (by rw [hLl]; omega) hLl.symm
    have la : QEl n (IntKind.i64.wrap (a + i)).toNat (rwE L) ((fun x => [cI x]) x) := by rw [ea]; exact rwE_e hLl.symm hL (by simp; omega)
    have lb : QEl n (IntKind.i64.wrap (b + i)).toNat (rwE L) ((fun x => [cI x]) y) := by rw [eb]; exact rwE_e hLl.symm hL2 (by simp; omega)
    have hS : L.set (IntKind.i64.wrap (a + i)).toNat y = (P ++ W1) ++ y :: ((X2 ++ (V ++ X1)) ++ y :: (W2 ++ Q)) := by rw [hL, ea, set_mid (by simp; omega)]
    have qb' : QAt (IntKind.i64.wrap (b + i)) n ((rwE L).set (IntKind.i64.wrap (a + i)).toNat ((fun x => [cI x]) y)) := ⟨qb.1, by rw [List.length_set]; exact qb.2⟩
    have lb' : QEl n (IntKind.i64.wrap (b + i)).toNat ((rwE L).set (IntKind.i64.wrap (a + i)).toNat ((fun x => [cI x]) y)) ((fun x => [cI x]) y) := by
      rw [rwE_set, eb]; exact rwE_e (A := (P ++ W1) ++ y :: (X2 ++ (V ++ X1))) (R := W2 ++ Q) (by rw [List.length_set]; exact hLl.symm) (by rw [hS]; simp) (by simp; omega)
    refine rBlock ?_
    refine reg mix [(13, .frz 0 (fun _ => (fun x => [cI x]) y)), (19, .frz 0 (fun _ => (fun x => [cI x]) x)), (21, .frz 0 (fun _ => (fun x => [cI x]) x)), (23, .frz 0 (fun _ => (fun x => [cI x]) y))] [pf qb, pf lb, pf qa, pf la, pf qa, pf la, pf qb', pf lb'] (by kernel_rfl) ?_
    refine run_nil (blockR_normal ?_)
    refine reg0 mix (by kernel_rfl) ?_
    refine run_nil (loopR_next (IntKind.i64.wrap (i + 1), ((rwE L).set (IntKind.i64.wrap (a + i)).toNat ((fun x => [cI x]) y)).set (IntKind.i64.wrap (b + i)).toNat ((fun x => [cI x]) x)) (wkTo [0, 1, 2, 3, 10] [] (by kernel_rfl)) ⟨X1 ++ [x], X2, W1 ++ [y], W2, by rw [hX]; simp, by rw [hW]; simp, by simp only; rw [ei]; simp; omega, by simp; omega, ?_⟩ (by simp only; rw [ei]; omega))
    simp only
    rw [rwE_set, rwE_set, hL, ea, eb, set_mid2 (by simp; omega) (by simp; omega)]; simp
  · have hc : ¬ i < m := of_decide_eq_false hc
    have e1 : X2 = [] := List.eq_nil_of_length_eq_zero (by omega)
    have e2 : W2 = [] := List.eq_nil_of_length_eq_zero (by omega)
    subst e1 e2
    have e3 : P ++ (W1 ++ ([] ++ (V ++ (X1 ++ ([] ++ Q))))) = P ++ (W ++ (V ++ (X ++ Q))) := by rw [hX, hW]; simp
    rw [e3]
    refine run_exit (loopR_exit (blockR_exit ?_))
    exact run_nil (ownEnds (.inr rfl) (by kernel_rfl) ⟨by kernel_rfl, .inr ⟨0, wit_row (l := n) 0 (by kernel_rfl) (by kernel_rfl) (.head _) (by rw [rwE_len, hn']; simp; omega) (by simp [rwE_len]; omega)⟩, trivial⟩)

def o1S (n : Nat) (a m b : Int) (g : FuncId) (caps : List C) (e : Nat) (x : Int × Int × List (List C)) : S :=
  mkO 58 1 [(0, .pin 0 (.v (.c (.row 0 n)))), (1, .pin 1 (.v (vI a))), (2, .pin 2 (.v (vI m))), (3, .pin 3 (.v (vI b))), (4, .pin 4 (.v (.c (.clo g caps)))), (10, .b (.v (vI x.1))), (11, .b (.v (vI x.2.1)))] [(0, .row e 1 x.2.2)]
theorem rot (g : FuncId) (caps : List C) (e n : Nat) (a m b : Int) (P X Y Q : List Int) (hn : n = (P ++ (X ++ (Y ++ Q))).length) (ha : a = P.length) (hm : m = P.length + X.length) (hb : b = P.length + X.length + Y.length) (hX : X ≠ []) (hY : Y ≠ []) (hl : n ≤ 1000000) :
    FOwn Try.prog 45 [] [.c (.row 0 n), vI a, vI m, vI b, .c (.clo g caps)] [(0, .row e 1 (rwE (P ++ (X ++ (Y ++ Q)))))] (.tup []) [(0, .row e 1 (rwE (P ++ (Y ++ (X ++ Q)))))] := by
  have hn' : n = P.length + (X.length + (Y.length + Q.length)) := by rw [hn]; simp
  refine fown_of 1 Try.func45 rfl (by kernel_rfl) ⟨by kernel_rfl, by kernel_rfl, by kernel_rfl, by kernel_rfl, by kernel_rfl, by kernel_rfl, by kernel_rfl⟩ (fun n o hh h => by cases hh) (by kernel_rfl) (fun B hB hBf => ?_)
  refine reg0 mix (by kernel_rfl) ?_
  refine reg0 mix (by kernel_rfl) ?_
  refine rBlock ?_
  have e1 : IntKind.i64.wrap (m - a) = X.length := by rw [w64 _ (by omega) (by omega)]; omega
  have e2 : IntKind.i64.wrap (b - m) = Y.length := by rw [w64 _ (by omega) (by omega)]; omega
  refine rLoop (o1S n a m b g caps e) (fun s => ∃ P' X' Y' Q', X' ≠ [] ∧ Y' ≠ [] ∧ s.1 = X'.length ∧ s.2.1 = Y'.length ∧ m = P'.length + X'.length ∧ n = P'.length + X'.length + Y'.length + Q'.length ∧ s.2.2 = rwE (P' ++ (X' ++ (Y' ++ Q'))) ∧ P' ++ (Y' ++ (X' ++ Q')) = P ++ (Y ++ (X ++ Q))) (fun s => (s.1 + s.2.1).toNat) (IntKind.i64.wrap (m - a), IntKind.i64.wrap (b - m), rwE (P ++ (X ++ (Y ++ Q)))) (wkTo [0, 1, 2, 3, 4, 10, 11] [] (by kernel_rfl)) ⟨P, X, Y, Q, hX, hY, e1, e2, by omega, by omega, rfl, rfl⟩ ?_
  rintro ⟨i, j, css⟩ ⟨P', X', Y', Q', hX', hY', hi, hj, hm', hnn, hcss, htg⟩
  simp only at hi hj hcss
  subst hcss
  have px : 0 < X'.length := List.length_pos_iff.2 hX'
  have py : 0 < Y'.length := List.length_pos_iff.2 hY'
  have emi : IntKind.i64.wrap (m - i) = P'.length := by rw [w64 _ (by omega) (by omega)]; omega
  refine reg0 mix (by kernel_rfl) ?_
  refine rCond (i != j) (by kernel_rfl) (fun hc => ?_) (fun hc => ?_)
  · have hc : i ≠ j := by simpa using hc
    refine rBlock ?_
    refine reg0 mix (by kernel_rfl) ?_
    refine rCond (decide (i > j)) (by kernel_rfl) (fun hg => ?_) (fun hg => ?_)
    · have hg : i > j := of_decide_eq_true hg
      have s1 : (X'.take Y'.length).length = Y'.length := by simp; omega
      have s2 : (X'.drop Y'.length).length = X'.length - Y'.length := by simp
      have hsp : X'.take Y'.length ++ X'.drop Y'.length = X' := List.take_append_drop _ _
      generalize X'.take Y'.length = X1 at s1 hsp
      generalize X'.drop Y'.length = X2 at s2 hsp
      have hs := swp g caps e n (IntKind.i64.wrap (m - i)) m j P' X1 X2 Y' Q' (by rw [hnn]; simp; omega) emi (by omega) (by omega) (by omega) hl
      have eL : P' ++ (X1 ++ (X2 ++ (Y' ++ Q'))) = P' ++ (X' ++ (Y' ++ Q')) := by rw [← hsp]; simp
      rw [eL] at hs
      refine reg mix [(7, .own [0] [] (.tup []) [(0, .row e 1 (rwE (P' ++ (Y' ++ (X2 ++ (X1 ++ Q'))))))])] [pf hs] (by kernel_rfl) ?_
      refine reg0 mix (by kernel_rfl) ?_
      have ew : IntKind.i64.wrap (i - j) = i - j := w64 _ (by omega) (by omega)
      refine run_nil (blockR_normal (run_nil (loopR_next (IntKind.i64.wrap (i - j), j, rwE (P' ++ (Y' ++ (X2 ++ (X1 ++ Q'))))) (wkTo [0, 1, 2, 3, 4, 10, 11] [] (by kernel_rfl)) ⟨P' ++ Y', X2, X1, Q', fun h => ?_, fun h => ?_, by simp only; rw [ew]; omega, by simp only; omega, by simp; omega, by simp; omega, by simp, by rw [← htg, ← hsp]; simp⟩ (by simp only; rw [ew]; omega))))
      · rw [h] at s2; simp at s2; omega
      · rw [h] at s1; simp at s1; omega
    · have hg : ¬ i > j := of_decide_eq_false hg
      have s1 : (Y'.take (Y'.length - X'.length)).length = Y'.length - X'.length := by simp
      have s2 : (Y'.drop (Y'.length - X'.length)).length = X'.length := by simp; omega
      have hsp : Y'.take (Y'.length - X'.length) ++ Y'.drop (Y'.length - X'.length) = Y' := List.take_append_drop _ _
      generalize Y'.take (Y'.length - X'.length) = V at s1 hsp
      generalize Y'.drop (Y'.length - X'.length) = W at s2 hsp
      have ew : IntKind.i64.wrap (IntKind.i64.wrap (m + j) - i) = m + j - i := by rw [w64 (m + j) (by omega) (by omega), w64 _ (by omega) (by omega)]
      have hs := swp g caps e n (IntKind.i64.wrap (m - i)) (IntKind.i64.wrap (IntKind.i64.wrap (m + j) - i)) i P' X' V W Q' (by rw [hnn]; simp; omega) emi (by rw [ew]; omega) (by omega) (by omega) hl
      have eL : P' ++ (X' ++ (V ++ (W ++ Q'))) = P' ++ (X' ++ (Y' ++ Q')) := by rw [← hsp]; simp
      rw [eL] at hs
      refine reg mix [(11, .own [0] [] (.tup []) [(0, .row e 1 (rwE (P' ++ (W ++ (V ++ (X' ++ Q'))))))])] [pf hs] (by kernel_rfl) ?_
      refine reg0 mix (by kernel_rfl) ?_
      have ew2 : IntKind.i64.wrap (j - i) = j - i := w64 _ (by omega) (by omega)
      refine run_nil (blockR_normal (run_nil (loopR_next (i, IntKind.i64.wrap (j - i), rwE (P' ++ (W ++ (V ++ (X' ++ Q'))))) (wkTo [0, 1, 2, 3, 4, 10, 11] [] (by kernel_rfl)) ⟨P', W, V, X' ++ Q', fun h => ?_, fun h => ?_, by simp only; omega, by simp only; rw [ew2]; omega, by omega, by simp; omega, by simp, by rw [← htg, ← hsp]; simp⟩ (by simp only; rw [ew2]; omega))))
      · rw [h] at s2; simp at s2; omega
      · rw [h] at s1; simp at s1; omega
  · have hc : i = j := by simpa using hc
    have hs := swp g caps e n (IntKind.i64.wrap (m - i)) m i P' X' [] Y' Q' (by rw [hnn]; simp; omega) emi (by simp; omega) (by omega) (by omega) hl
    simp only [List.nil_append] at hs
    rw [htg] at hs
    refine run_exit (loopR_exit (blockR_exit ?_))
    refine reg mix [(7, .own [0] [] (.tup []) [(0, .row e 1 (rwE (P ++ (Y ++ (X ++ Q)))))])] [pf hs] (by kernel_rfl) ?_
    exact run_nil (ownEnds (.inr rfl) (by kernel_rfl) ⟨by kernel_rfl, .inr ⟨0, wit_row (l := n) 0 (by kernel_rfl) (by kernel_rfl) (.head _) (by rw [rwE_len, hn']; simp; omega) (by simp [rwE_len]; omega)⟩, trivial⟩)

/-! ### symMerge -/
def half (i j : Int) : Int := IntKind.i64.wrap ((IntKind.u64.wrap (IntKind.i64.wrap (i + j))).fdiv (2 ^ (1 : Int).toNat))
theorem half_eq {i j : Int} (h0 : 0 ≤ i) (h1 : 0 ≤ j) (h2 : i + j ≤ 10000000) : half i j = (i + j) / 2 := by
  have e1 : IntKind.i64.wrap (i + j) = i + j := w64 _ (by omega) (by omega)
  have e2 : IntKind.u64.wrap (i + j) = i + j := by
    have : IntKind.u64.wrap (i + j) = (i + j) % 18446744073709551616 := by simp [IntKind.wrap, IntKind.bits, IntKind.signed]
    rw [this]; omega
  have e3 : (i + j).fdiv (2 ^ (1 : Int).toNat) = (i + j) / 2 := by
    rw [show ((2 : Int) ^ (1 : Int).toNat) = 2 from rfl, Int.fdiv_eq_ediv_of_nonneg _ (by omega)]
  rw [half, e1, e2, e3, w64 _ (by omega) (by omega)]
abbrev pins (n : Nat) (a m b : Int) (g : FuncId) (caps : List C) : List (Nat × SV) := [(0, .pin 0 (.v (.c (.row 0 n)))), (1, .pin 1 (.v (vI a))), (2, .pin 2 (.v (vI m))), (3, .pin 3 (.v (vI b))), (4, .pin 4 (.v (.c (.clo g caps))))]
def y1S (n : Nat) (a m b : Int) (g : FuncId) (caps : List C) (e : Nat) (css : List (List C)) (x : Int × Int) : S := mkO 220 1 (pins n a m b g caps ++ [(10, .b (.v (vI x.1))), (11, .b (.v (vI x.2)))]) [(0, .row e 1 css)]
def y2S (n : Nat) (a m b : Int) (g : FuncId) (caps : List C) (e : Nat) (i : Int) (x : Int × List (List C)) : S := mkO 220 1 (pins n a m b g caps ++ [(10, .b (.v (vI i))), (13, .b (.v (vI x.1)))]) [(0, .row e 1 x.2)]
def z1S (n : Nat) (a m b : Int) (g : FuncId) (caps : List C) (e : Nat) (css : List (List C)) (x : Int × Int) : S := mkO 220 1 (pins n a m b g caps ++ [(14, .b (.v (vI x.1))), (15, .b (.v (vI x.2)))]) [(0, .row e 1 css)]
def z2S (n : Nat) (a m b : Int) (g : FuncId) (caps : List C) (e : Nat) (i : Int) (x : Int × List (List C)) : S := mkO 220 1 (pins n a m b g caps ++ [(14, .b (.v (vI i))), (17, .b (.v (vI x.1)))]) [(0, .row e 1 x.2)]
def v1S (n : Nat) (a m b : Int) (g : FuncId) (caps : List C) (e : Nat) (css : List (List C)) (mid n' : Int) (x : Int × Int) : S := mkO 220 1 (pins n a m b g caps ++ [(18, .b (.v (vI mid))), (19, .b (.v (vI n'))), (20, .b (.v (vI x.1))), (21, .b (.v (vI x.2)))]) [(0, .row e 1 css)]
def v2S (n : Nat) (a m b : Int) (g : FuncId) (caps : List C) (e : Nat) (css : List (List C)) (mid n' p : Int) (x : Int × Int) : S := mkO 220 1 (pins n a m b g caps ++ [(18, .b (.v (vI mid))), (19, .b (.v (vI n'))), (20, .b (.v (vI x.1))), (21, .b (.v (vI x.2))), (22, .b (.v (vI p)))]) [(0, .row e 1 css)]
def v3S (n : Nat) (a m b : Int) (g : FuncId) (caps : List C) (e : Nat) (mid s en : Int) (css : List (List C)) : S := mkO 220 1 (pins n a m b g caps ++ [(18, .b (.v (vI mid))), (20, .b (.v (vI s))), (24, .b (.v (vI en)))]) [(0, .row e 1 css)]

theorem sorted_left {L R : List Int} {y : Int} {S : List Int} (h : Sorted key S) (e : S = L ++ y :: R) : ∀ z, z ∈ L → key z ≤ key y := fun z hz => by
  rw [e] at h; exact (List.pairwise_append.1 h).2.2 z hz y (List.mem_cons_self ..)
theorem sorted_right {L R : List Int} {y : Int} {S : List Int} (h : Sorted key S) (e : S = L ++ y :: R) : ∀ z, z ∈ R → key y ≤ key z := fun z hz => by
  rw [e] at h; exact (List.pairwise_cons.1 (List.pairwise_append.1 h).2.1).1 z hz
theorem split_at {S : List Int} {i : Nat} (h : i < S.length) : S = S.take i ++ S.getD i 0 :: S.drop (i + 1) := by
  have e : S.getD i 0 = S[i] := by simp [List.getD_eq_getElem?_getD, h]
  rw [e]; simp
/-- Those ahead of i are not greater than the one before i; those from i on are not less than the one at i. -/
theorem low_part {S : List Int} {i : Nat} (h : Sorted key S) (hi : i ≤ S.length) {k : Int} {q : Int → Prop} (hq : ∀ u v, u ≤ v → q v → q u) (h1 : i = 0 ∨ q (key (S.getD (i - 1) 0))) : ∀ z, z ∈ S.take i → q (key z) := by
  intro z hz
  rcases h1 with rfl | h1
  · simp at hz
  by_cases h0 : i = 0
  · subst h0; simp at hz
  have e := split_at (S := S) (i := i - 1) (by omega)
  have e2 : S.take i = S.take (i - 1) ++ [S.getD (i - 1) 0] := by
    conv => lhs; rw [e]
    rw [List.take_append, List.take_of_length_le (by simp; omega)]
    have : i - (S.take (i - 1)).length = 1 := by simp; omega
    rw [this]; rfl
  rw [e2] at hz
  rcases List.mem_append.1 hz with hz | hz
  · exact hq _ _ (sorted_left h e z hz) h1
  · rw [List.mem_singleton.1 hz]; exact h1
theorem high_part {S : List Int} {i : Nat} (h : Sorted key S) {q : Int → Prop} (hq : ∀ u v, u ≤ v → q u → q v) (h1 : i = S.length ∨ q (key (S.getD i 0))) : ∀ z, z ∈ S.drop i → q (key z) := by
  intro z hz
  by_cases hi : i < S.length
  · have e := split_at (S := S) hi
    rcases h1 with rfl | h1
    · omega
    have e2 : S.drop i = S.getD i 0 :: S.drop (i + 1) := by
      conv => lhs; rw [e]
      rw [List.drop_append, List.drop_of_length_le (by rw [List.length_take]; omega)]
      have : i - (S.take i).length = 0 := by rw [List.length_take]; omega
      rw [this]; rfl
    rw [e2] at hz
    rcases List.mem_cons.1 hz with rfl | hz
    · exact h1
    · exact hq _ _ (sorted_right h e z hz) h1
  · rw [List.drop_of_length_le (by omega)] at hz; cases hz

theorem sym1 (ho : Ord g caps cm key ok) (e n : Nat) (a m b : Int) (x : Int) (P Y Q : List Int) (hn : n = (P ++ ([x] ++ (Y ++ Q))).length) (ha : a = P.length) (hm : m = P.length + 1) (hb : b = P.length + 1 + Y.length) (hY : Y ≠ [])
    (hs : Sorted key Y) (hxo : ok x) (hok : ∀ y, y ∈ Y → ok y) (hl : n ≤ 1000000) :
    FOwn Try.prog 34 [] [.c (.row 0 n), vI a, vI m, vI b, .c (.clo g caps)] [(0, .row e 1 (rwE (P ++ ([x] ++ (Y ++ Q)))))] (.tup []) [(0, .row e 1 (rwE (P ++ (mrg key [x] Y ++ Q))))] := by
  have hn' : n = P.length + (1 + (Y.length + Q.length)) := by rw [hn]; simp; omega
  refine fown_of 1 Try.func34 rfl (by kernel_rfl) ⟨by kernel_rfl, by kernel_rfl, by kernel_rfl, by kernel_rfl, by kernel_rfl, by kernel_rfl, by kernel_rfl⟩ (fun n o hh h => by cases hh) (by kernel_rfl) (fun B hB hBf => ?_)
  have e1 : IntKind.i64.wrap (m - a) = 1 := by rw [w64 _ (by omega) (by omega)]; omega
  refine reg0 mix (by kernel_rfl) ?_
  refine rCondT (IntKind.i64.wrap (m - a) == 1) (by kernel_rfl) (by rw [e1]; rfl) ?_
  refine reg0 mix (by kernel_rfl) ?_
  refine reg0 mix (by kernel_rfl) ?_
  refine rBlock ?_
  refine rLoop (y1S n a m b g caps e (rwE (P ++ ([x] ++ (Y ++ Q))))) (fun s => ∃ p q : Nat, s.1 = m + p ∧ s.2 = m + q ∧ p ≤ q ∧ q ≤ Y.length ∧ (p = 0 ∨ key (Y.getD (p - 1) 0) < key x) ∧ (q = Y.length ∨ ¬ key (Y.getD q 0) < key x)) (fun s => (s.2 - s.1).toNat) (m, b) (wkTo [0, 1, 2, 3, 4, 10, 11] [] (by kernel_rfl)) ⟨0, Y.length, by simp, by simp only; omega, Nat.zero_le _, Nat.le_refl _, .inl rfl, .inl rfl⟩ ?_
  rintro ⟨i, j⟩ ⟨p, q, hi, hj, hpq, hq, hlo, hhi⟩
  simp only at hi hj
  have hLl : (P ++ ([x] ++ (Y ++ Q))).length = n := hn.symm
  refine reg0 mix (by kernel_rfl) ?_
  refine rCond (decide (i < j)) (by kernel_rfl) (fun hc => ?_) (fun hc => ?_)
  · have hc : i < j := of_decide_eq_true hc
    refine rBlock ?_
    have hh := half_eq (i := i) (j := j) (by omega) (by omega) (by omega)
    obtain ⟨c, hcc⟩ : ∃ c : Nat, half i j = m + c := ⟨(half i j - m).toNat, by omega⟩
    have hcp : p ≤ c ∧ c < q := by omega
    have hcl : c < Y.length := by omega
    have hyo : ok (Y.getD c 0) := hok _ (by simp [List.getD_eq_getElem?_getD, hcl])
    have hsp := split_at (S := Y) hcl
    have hL3 : P ++ ([x] ++ (Y ++ Q)) = (P ++ ([x] ++ Y.take c)) ++ Y.getD c 0 :: (Y.drop (c + 1) ++ Q) := by
      conv => lhs; rw [hsp]
      simp
    refine reg mix [] [pf (by decide : (0 : Int) ≤ 1 ∧ (1 : Int) ≤ (IntKind.u64.bits : Int))] (by kernel_rfl) ?_
    have q1 : QAt (half i j) n (rwE (P ++ ([x] ++ (Y ++ Q)))) := rwE_q (by omega) (by rw [hLl]; omega) hLl.symm
    have q2 : QEl n (half i j).toNat (rwE (P ++ ([x] ++ (Y ++ Q)))) ((fun x => [cI x]) (Y.getD c 0)) := rwE_e hLl.symm hL3 (by simp; omega)
    have q3 : QAt a n (rwE (P ++ ([x] ++ (Y ++ Q)))) := rwE_q (by omega) (by rw [hLl]; omega) hLl.symm
    have q4 : QEl n a.toNat (rwE (P ++ ([x] ++ (Y ++ Q)))) ((fun x => [cI x]) x) := rwE_e (A := P) (R := Y ++ Q) hLl.symm (by simp) (by omega)
    refine reg mix [(4, .frz 0 (fun _ => (fun x => [cI x]) (Y.getD c 0))), (8, .frz 0 (fun _ => (fun x => [cI x]) x)), (9, .call (.v (vI (cm (Y.getD c 0) x))))] [pf q1, pf q2, pf q3, pf q4, pf (ho.call (Y.getD c 0) x hyo hxo)] (by kernel_rfl) ?_
    have hlt := ho.lt (Y.getD c 0) x hyo hxo
    refine rCond (decide (cm (Y.getD c 0) x < 0)) (by kernel_rfl) (fun h => ?_) (fun h => ?_)
    · refine reg0 mix (by kernel_rfl) ?_
      have ew : IntKind.i64.wrap (half i j + 1) = half i j + 1 := w64 _ (by omega) (by omega)
      refine run_nil (blockR_normal (run_nil (loopR_next (IntKind.i64.wrap (half i j + 1), j) (wkTo [0, 1, 2, 3, 4, 10, 11] [] (by kernel_rfl)) ⟨c + 1, q, by simp only; rw [ew]; omega, hj, by omega, hq, .inr ?_, hhi⟩ (by simp only; rw [ew]; omega))))
      rw [Nat.add_sub_cancel]; exact hlt.1 (of_decide_eq_true h)
    · refine reg0 mix (by kernel_rfl) ?_
      refine run_nil (blockR_normal (run_nil (loopR_next (i, half i j) (wkTo [0, 1, 2, 3, 4, 10, 11] [] (by kernel_rfl)) ⟨p, c, hi, by simp only; omega, by omega, by omega, hlo, .inr ?_⟩ (by simp only; omega))))
      intro h'; exact of_decide_eq_false h (hlt.2 h')
  · have hc : ¬ i < j := of_decide_eq_false hc
    have hpq' : p = q := by omega
    subst hpq'
    refine run_exit (loopR_exit (blockR_exit ?_))
    have g1 : ∀ z, z ∈ Y.take p → key z < key x := low_part (k := 0) (q := fun u => u < key x) hs hq (fun u v h h' => by omega) hlo
    have g2 : ∀ z, z ∈ Y.drop p → key x ≤ key z := fun z hz => by
      have := high_part (q := fun u => ¬ u < key x) hs (fun u v h h' => by omega) hhi z hz
      omega
    have hta : Y.take p ++ Y.drop p = Y := List.take_append_drop _ _
    have htl : (Y.take p).length = p := by simp; omega
    generalize Y.take p = YA at g1 hta htl
    generalize Y.drop p = YB at g2 hta
    have hres : mrg key [x] Y = YA ++ x :: YB := by
      have sA : Sorted key YA := by rw [← hta] at hs; exact (List.pairwise_append.1 hs).1
      have sB : Sorted key YB := by rw [← hta] at hs; exact (List.pairwise_append.1 hs).2.1
      have h1 := mrg_parts key (A1 := []) (A2 := [x]) (B1 := YA) (B2 := YB) (fun a ha => by cases ha) (fun b hb a ha => by rw [List.mem_singleton.1 ha]; exact g1 b hb) (fun b hb b' hb' => by rw [← hta] at hs; exact (List.pairwise_append.1 hs).2.2 b hb b' hb')
      have h2 : mrg key [] YA = YA := by rw [mrg_nil_sorted key sA (fun a ha => by cases ha)]; rfl
      have h3 : mrg key [x] YB = x :: YB := by rw [mrg_nil_sorted key sB (fun a ha b hb => by rw [List.mem_singleton.1 ha]; exact g2 b hb)]; rfl
      rw [List.nil_append, hta, h2, h3] at h1
      exact h1
    have hYl : Y.length = YA.length + YB.length := by rw [← hta]; simp
    rw [hres]
    refine reg0 mix (by kernel_rfl) ?_
    refine rBlock ?_
    refine rLoop (y2S n a m b g caps e i) (fun s => ∃ Y1 Y2, YA = Y1 ++ Y2 ∧ s.1 = a + Y1.length ∧ s.2 = rwE (P ++ (Y1 ++ x :: (Y2 ++ (YB ++ Q))))) (fun s => (i - s.1).toNat) (a, rwE (P ++ ([x] ++ (Y ++ Q)))) (wkTo [0, 1, 2, 3, 4, 10, 13] [] (by kernel_rfl)) ⟨[], YA, rfl, by simp, by simp only; rw [← hta]; simp⟩ ?_
    rintro ⟨k, css⟩ ⟨Y1, Y2, hYA, hk, hcss⟩
    simp only at hk hcss
    subst hcss
    have hYAl : YA.length = Y1.length + Y2.length := by rw [hYA]; simp
    have ewi : IntKind.i64.wrap (i - 1) = i - 1 := w64 _ (by omega) (by omega)
    refine reg0 mix (by kernel_rfl) ?_
    refine rCond (decide (k < IntKind.i64.wrap (i - 1))) (by kernel_rfl) (fun hc2 => ?_) (fun hc2 => ?_)
    · have hc2 : k < i - 1 := by rw [← ewi]; exact of_decide_eq_true hc2
      cases Y2 with
      | nil => simp only [List.length_nil] at hYAl; omega
      | cons y Y2 =>
      simp only [List.length_cons] at hYAl
      have ek : IntKind.i64.wrap (k + 1) = k + 1 := w64 _ (by omega) (by omega)
      have hLl : (P ++ (Y1 ++ x :: (y :: Y2 ++ (YB ++ Q)))).length = n := by rw [hn']; simp; omega
      have hL : P ++ (Y1 ++ x :: (y :: Y2 ++ (YB ++ Q))) = (P ++ Y1) ++ x :: ([] ++ y :: (Y2 ++ (YB ++ Q))) := by simp
      have hL2 : P ++ (Y1 ++ x :: (y :: Y2 ++ (YB ++ Q))) = (P ++ (Y1 ++ [x])) ++ y :: (Y2 ++ (YB ++ Q)) := by simp
      generalize hLL : P ++ (Y1 ++ x :: (y :: Y2 ++ (YB ++ Q))) = L at hL hL2 hLl
      have qa : QAt k n (rwE L) := rwE_q (by omega) (by rw [hLl]; omega) hLl.symm
      have qb : QAt (IntKind.i64.wrap (k + 1)) n (rwE L) := by rw [ek]; exact rwE_q (by omega) (by rw [hLl]; omega) hLl.symm
      have la : QEl n k.toNat (rwE L) ((fun x => [cI x]) x) := rwE_e hLl.symm hL (by simp; omega)
      have lb : QEl n (IntKind.i64.wrap (k + 1)).toNat (rwE L) ((fun x => [cI x]) y) := by rw [ek]; exact rwE_e hLl.symm hL2 (by simp; omega)
      have hS : L.set k.toNat y = (P ++ Y1) ++ y :: ([] ++ y :: (Y2 ++ (YB ++ Q))) := by rw [hL, set_mid (by simp; omega)]
      have qb' : QAt (IntKind.i64.wrap (k + 1)) n ((rwE L).set k.toNat ((fun x => [cI x]) y)) := ⟨qb.1, by rw [List.length_set]; exact qb.2⟩
      have lb' : QEl n (IntKind.i64.wrap (k + 1)).toNat ((rwE L).set k.toNat ((fun x => [cI x]) y)) ((fun x => [cI x]) y) := by
        rw [rwE_set, ek]; exact rwE_e (A := P ++ (Y1 ++ [y])) (R := Y2 ++ (YB ++ Q)) (by rw [List.length_set]; exact hLl.symm) (by rw [hS]; simp) (by simp; omega)
      refine rBlock ?_
      refine reg mix [(9, .frz 0 (fun _ => (fun x => [cI x]) y)), (13, .frz 0 (fun _ => (fun x => [cI x]) x)), (15, .frz 0 (fun _ => (fun x => [cI x]) x)), (17, .frz 0 (fun _ => (fun x => [cI x]) y))] [pf qb, pf lb, pf qa, pf la, pf qa, pf la, pf qb', pf lb'] (by kernel_rfl) ?_
      refine run_nil (blockR_normal ?_)
      refine reg0 mix (by kernel_rfl) ?_
      refine run_nil (loopR_next (IntKind.i64.wrap (k + 1), ((rwE L).set k.toNat ((fun x => [cI x]) y)).set (IntKind.i64.wrap (k + 1)).toNat ((fun x => [cI x]) x)) (wkTo [0, 1, 2, 3, 4, 10, 13] [] (by kernel_rfl)) ⟨Y1 ++ [y], Y2, by rw [hYA]; simp, by simp only; rw [ek]; simp; omega, ?_⟩ (by simp only; rw [ek]; omega))
      simp only
      rw [rwE_set, rwE_set, hL, ek, set_mid2 (by simp; omega) (by simp; omega)]; simp
    · have hc2 : ¬ k < i - 1 := by rw [← ewi]; exact of_decide_eq_false hc2
      have : Y2 = [] := List.eq_nil_of_length_eq_zero (by omega)
      subst this
      have e3 : P ++ (Y1 ++ x :: ([] ++ (YB ++ Q))) = P ++ (YA ++ x :: YB ++ Q) := by rw [hYA]; simp
      rw [e3]
      refine run_exit (loopR_exit (blockR_exit ?_))
      exact run_ret (ownEnds (.inl rfl) (by kernel_rfl) ⟨by kernel_rfl, .inr ⟨0, wit_row (l := n) 0 (by kernel_rfl) (by kernel_rfl) (.head _) (by rw [rwE_len, hn']; simp; omega) (by simp [rwE_len]; omega)⟩, trivial⟩)

theorem sym2 (ho : Ord g caps cm key ok) (e n : Nat) (a m b : Int) (y : Int) (P X Q : List Int) (hn : n = (P ++ (X ++ ([y] ++ Q))).length) (ha : a = P.length) (hm : m = P.length + X.length) (hb : b = P.length + X.length + 1) (hX : 2 ≤ X.length)
    (hs : Sorted key X) (hyo : ok y) (hok : ∀ x, x ∈ X → ok x) (hl : n ≤ 1000000) :
    FOwn Try.prog 34 [] [.c (.row 0 n), vI a, vI m, vI b, .c (.clo g caps)] [(0, .row e 1 (rwE (P ++ (X ++ ([y] ++ Q)))))] (.tup []) [(0, .row e 1 (rwE (P ++ (mrg key X [y] ++ Q))))] := by
  have hn' : n = P.length + (X.length + (1 + Q.length)) := by rw [hn]; simp; omega
  refine fown_of 1 Try.func34 rfl (by kernel_rfl) ⟨by kernel_rfl, by kernel_rfl, by kernel_rfl, by kernel_rfl, by kernel_rfl, by kernel_rfl, by kernel_rfl⟩ (fun n o hh h => by cases hh) (by kernel_rfl) (fun B hB hBf => ?_)
  have e1 : IntKind.i64.wrap (m - a) = X.length := by rw [w64 _ (by omega) (by omega)]; omega
  have e2 : IntKind.i64.wrap (b - m) = 1 := by rw [w64 _ (by omega) (by omega)]; omega
  refine reg0 mix (by kernel_rfl) ?_
  refine rCondF (IntKind.i64.wrap (m - a) == 1) (by kernel_rfl) (by rw [e1]; simp; omega) ?_
  refine reg0 mix (by kernel_rfl) ?_
  refine rCondT (IntKind.i64.wrap (b - m) == 1) (by kernel_rfl) (by rw [e2]; rfl) ?_
  refine reg0 mix (by kernel_rfl) ?_
  refine reg0 mix (by kernel_rfl) ?_
  refine rBlock ?_
  refine rLoop (z1S n a m b g caps e (rwE (P ++ (X ++ ([y] ++ Q))))) (fun s => ∃ p q : Nat, s.1 = a + p ∧ s.2 = a + q ∧ p ≤ q ∧ q ≤ X.length ∧ (p = 0 ∨ ¬ key y < key (X.getD (p - 1) 0)) ∧ (q = X.length ∨ key y < key (X.getD q 0))) (fun s => (s.2 - s.1).toNat) (a, m) (wkTo [0, 1, 2, 3, 4, 14, 15] [] (by kernel_rfl)) ⟨0, X.length, by simp, by simp only; omega, Nat.zero_le _, Nat.le_refl _, .inl rfl, .inl rfl⟩ ?_
  rintro ⟨i, j⟩ ⟨p, q, hi, hj, hpq, hq, hlo, hhi⟩
  simp only at hi hj
  have hLl : (P ++ (X ++ ([y] ++ Q))).length = n := hn.symm
  refine reg0 mix (by kernel_rfl) ?_
  refine rCond (decide (i < j)) (by kernel_rfl) (fun hc => ?_) (fun hc => ?_)
  · have hc : i < j := of_decide_eq_true hc
    refine rBlock ?_
    have hh := half_eq (i := i) (j := j) (by omega) (by omega) (by omega)
    obtain ⟨c, hcc⟩ : ∃ c : Nat, half i j = a + c := ⟨(half i j - a).toNat, by omega⟩
    have hcp : p ≤ c ∧ c < q := by omega
    have hcl : c < X.length := by omega
    have hxo : ok (X.getD c 0) := hok _ (by simp [List.getD_eq_getElem?_getD, hcl])
    have hsp := split_at (S := X) hcl
    have hL3 : P ++ (X ++ ([y] ++ Q)) = (P ++ X.take c) ++ X.getD c 0 :: (X.drop (c + 1) ++ ([y] ++ Q)) := by
      conv => lhs; rw [hsp]
      simp
    refine reg mix [] [pf (by decide : (0 : Int) ≤ 1 ∧ (1 : Int) ≤ (IntKind.u64.bits : Int))] (by kernel_rfl) ?_
    have q1 : QAt (half i j) n (rwE (P ++ (X ++ ([y] ++ Q)))) := rwE_q (by omega) (by rw [hLl]; omega) hLl.symm
    have q2 : QEl n (half i j).toNat (rwE (P ++ (X ++ ([y] ++ Q)))) ((fun x => [cI x]) (X.getD c 0)) := rwE_e hLl.symm hL3 (by simp; omega)
    have q3 : QAt m n (rwE (P ++ (X ++ ([y] ++ Q)))) := rwE_q (by omega) (by rw [hLl]; omega) hLl.symm
    have q4 : QEl n m.toNat (rwE (P ++ (X ++ ([y] ++ Q)))) ((fun x => [cI x]) y) := rwE_e (A := P ++ X) (R := Q) hLl.symm (by simp) (by simp; omega)
    refine reg mix [(4, .frz 0 (fun _ => (fun x => [cI x]) y)), (8, .frz 0 (fun _ => (fun x => [cI x]) (X.getD c 0))), (9, .call (.v (vI (cm y (X.getD c 0)))))] [pf q3, pf q4, pf q1, pf q2, pf (ho.call y (X.getD c 0) hyo hxo)] (by kernel_rfl) ?_
    have hlt := ho.lt y (X.getD c 0) hyo hxo
    refine rCond (!decide (cm y (X.getD c 0) < 0)) (by kernel_rfl) (fun h => ?_) (fun h => ?_)
    · refine reg0 mix (by kernel_rfl) ?_
      have ew : IntKind.i64.wrap (half i j + 1) = half i j + 1 := w64 _ (by omega) (by omega)
      refine run_nil (blockR_normal (run_nil (loopR_next (IntKind.i64.wrap (half i j + 1), j) (wkTo [0, 1, 2, 3, 4, 14, 15] [] (by kernel_rfl)) ⟨c + 1, q, by simp only; rw [ew]; omega, hj, by omega, hq, .inr ?_, hhi⟩ (by simp only; rw [ew]; omega))))
      rw [Nat.add_sub_cancel]
      intro h'
      have := hlt.2 h'
      simp only [Bool.not_eq_true', decide_eq_false_iff_not] at h; omega
    · refine reg0 mix (by kernel_rfl) ?_
      refine run_nil (blockR_normal (run_nil (loopR_next (i, half i j) (wkTo [0, 1, 2, 3, 4, 14, 15] [] (by kernel_rfl)) ⟨p, c, hi, by simp only; omega, by omega, by omega, hlo, .inr ?_⟩ (by simp only; omega))))
      refine hlt.1 ?_
      simp only [Bool.not_eq_false', decide_eq_true_eq] at h; exact h
  · have hc : ¬ i < j := of_decide_eq_false hc
    have hpq' : p = q := by omega
    subst hpq'
    refine run_exit (loopR_exit (blockR_exit ?_))
    have g1 : ∀ z, z ∈ X.take p → key z ≤ key y := fun z hz => by
      have := low_part (k := 0) (q := fun u => ¬ key y < u) hs hq (fun u v h h' => by omega) hlo z hz
      omega
    have g2 : ∀ z, z ∈ X.drop p → key y < key z := high_part (q := fun u => key y < u) hs (fun u v h h' => by omega) hhi
    have hta : X.take p ++ X.drop p = X := List.take_append_drop _ _
    have htl : (X.take p).length = p := by simp; omega
    generalize X.take p = XA at g1 hta htl
    generalize X.drop p = XB at g2 hta
    have hres : mrg key X [y] = XA ++ y :: XB := by rw [mrg_one, ← hta, insR_at key g1 g2]
    have hXl : X.length = XA.length + XB.length := by rw [← hta]; simp
    rw [hres]
    refine reg0 mix (by kernel_rfl) ?_
    refine rBlock ?_
    refine rLoop (z2S n a m b g caps e i) (fun s => ∃ X1 X2, XB = X1 ++ X2 ∧ s.1 = i + X1.length ∧ s.2 = rwE (P ++ (XA ++ (X1 ++ y :: (X2 ++ Q))))) (fun s => (s.1 - i).toNat) (m, rwE (P ++ (X ++ ([y] ++ Q)))) (wkTo [0, 1, 2, 3, 4, 14, 17] [] (by kernel_rfl)) ⟨XB, [], by simp, by simp only; omega, by simp only; rw [← hta]; simp⟩ ?_
    rintro ⟨k, css⟩ ⟨X1, X2, hXB, hk, hcss⟩
    simp only at hk hcss
    subst hcss
    have hXBl : XB.length = X1.length + X2.length := by rw [hXB]; simp
    refine reg0 mix (by kernel_rfl) ?_
    refine rCond (decide (k > i)) (by kernel_rfl) (fun hc2 => ?_) (fun hc2 => ?_)
    · have hc2 : k > i := of_decide_eq_true hc2
      rcases List.eq_nil_or_concat X1 with h0 | ⟨X1', x, h0⟩
      · rw [h0] at hk; simp at hk; omega
      rw [List.concat_eq_append] at h0
      subst h0
      simp only [List.length_append, List.length_cons, List.length_nil] at hXBl hk
      have ek : IntKind.i64.wrap (k - 1) = k - 1 := w64 _ (by omega) (by omega)
      have hLl : (P ++ (XA ++ (X1' ++ [x] ++ y :: (X2 ++ Q)))).length = n := by rw [hn']; simp; omega
      have hL : P ++ (XA ++ (X1' ++ [x] ++ y :: (X2 ++ Q))) = (P ++ (XA ++ X1')) ++ x :: ([] ++ y :: (X2 ++ Q)) := by simp
      have hL2 : P ++ (XA ++ (X1' ++ [x] ++ y :: (X2 ++ Q))) = (P ++ (XA ++ (X1' ++ [x]))) ++ y :: (X2 ++ Q) := by simp
      generalize hLL : P ++ (XA ++ (X1' ++ [x] ++ y :: (X2 ++ Q))) = L at hL hL2 hLl
      have qa : QAt k n (rwE L) := rwE_q (by omega) (by rw [hLl]; omega) hLl.symm
      have qb : QAt (IntKind.i64.wrap (k - 1)) n (rwE L) := by rw [ek]; exact rwE_q (by omega) (by rw [hLl]; omega) hLl.symm
      have la : QEl n k.toNat (rwE L) ((fun x => [cI x]) y) := rwE_e hLl.symm hL2 (by simp; omega)
      have lb : QEl n (IntKind.i64.wrap (k - 1)).toNat (rwE L) ((fun x => [cI x]) x) := by rw [ek]; exact rwE_e hLl.symm hL (by simp; omega)
      have hS : L.set k.toNat x = (P ++ (XA ++ (X1' ++ [x]))) ++ x :: (X2 ++ Q) := by rw [hL2, set_mid (by simp; omega)]
      have qb' : QAt (IntKind.i64.wrap (k - 1)) n ((rwE L).set k.toNat ((fun x => [cI x]) x)) := ⟨qb.1, by rw [List.length_set]; exact qb.2⟩
      have lb' : QEl n (IntKind.i64.wrap (k - 1)).toNat ((rwE L).set k.toNat ((fun x => [cI x]) x)) ((fun x => [cI x]) x) := by
        rw [rwE_set, ek]; exact rwE_e (A := P ++ (XA ++ X1')) (R := x :: (X2 ++ Q)) (by rw [List.length_set]; exact hLl.symm) (by rw [hS]; simp) (by simp; omega)
      refine rBlock ?_
      refine reg mix [(9, .frz 0 (fun _ => (fun x => [cI x]) x)), (13, .frz 0 (fun _ => (fun x => [cI x]) y)), (15, .frz 0 (fun _ => (fun x => [cI x]) y)), (17, .frz 0 (fun _ => (fun x => [cI x]) x))] [pf qb, pf lb, pf qa, pf la, pf qa, pf la, pf qb', pf lb'] (by kernel_rfl) ?_
      refine run_nil (blockR_normal ?_)
      refine reg0 mix (by kernel_rfl) ?_
      refine run_nil (loopR_next (IntKind.i64.wrap (k - 1), ((rwE L).set k.toNat ((fun x => [cI x]) x)).set (IntKind.i64.wrap (k - 1)).toNat ((fun x => [cI x]) y)) (wkTo [0, 1, 2, 3, 4, 14, 17] [] (by kernel_rfl)) ⟨X1', x :: X2, by rw [hXB]; simp, by simp only; rw [ek]; omega, ?_⟩ (by simp only; rw [ek]; omega))
      simp only
      rw [rwE_set, rwE_set, hL, ek, set_mid2' (by simp; omega) (by simp; omega)]; simp
    · have hc2 : ¬ k > i := of_decide_eq_false hc2
      have : X1 = [] := List.eq_nil_of_length_eq_zero (by omega)
      subst this
      have e3 : P ++ (XA ++ ([] ++ y :: (X2 ++ Q))) = P ++ (XA ++ y :: XB ++ Q) := by rw [hXB]; simp
      rw [e3]
      refine run_exit (loopR_exit (blockR_exit ?_))
      exact run_ret (ownEnds (.inl rfl) (by kernel_rfl) ⟨by kernel_rfl, .inr ⟨0, wit_row (l := n) 0 (by kernel_rfl) (by kernel_rfl) (.head _) (by rw [rwE_len, hn']; simp; omega) (by simp [rwE_len]; omega)⟩, trivial⟩)

set_option maxHeartbeats 1000000 in
theorem sym (ho : Ord g caps cm key ok) (e n : Nat) (hl : n ≤ 1000000) : ∀ (N : Nat) (a m b : Int) (P X Y Q : List Int), X.length + Y.length ≤ N → n = (P ++ (X ++ (Y ++ Q))).length → a = P.length → m = P.length + X.length → b = P.length + X.length + Y.length → X ≠ [] → Y ≠ [] →
    Sorted key X → Sorted key Y → (∀ x, x ∈ X → ok x) → (∀ y, y ∈ Y → ok y) →
    FOwn Try.prog 34 [] [.c (.row 0 n), vI a, vI m, vI b, .c (.clo g caps)] [(0, .row e 1 (rwE (P ++ (X ++ (Y ++ Q)))))] (.tup []) [(0, .row e 1 (rwE (P ++ (mrg key X Y ++ Q))))] := by
  intro N
  induction N with
  | zero => intro a m b P X Y Q h1 _ _ _ _ hX _; exact absurd (List.eq_nil_of_length_eq_zero (by omega)) hX
  | succ N ih =>
  intro a m b P X Y Q hN hn ha hm hb hX hY hsX hsY hokX hokY
  have px : 0 < X.length := List.length_pos_iff.2 hX
  have py : 0 < Y.length := List.length_pos_iff.2 hY
  by_cases hx1 : X.length = 1
  · match X, hx1 with
    | [x], _ => exact sym1 ho e n a m b x P Y Q hn ha (by simpa using hm) (by simpa using hb) hY hsY (hokX x (by simp)) hokY hl
  by_cases hy1 : Y.length = 1
  · match Y, hy1 with
    | [y], _ => exact sym2 ho e n a m b y P X Q hn ha hm (by simpa using hb) (by omega) hsX (hokY y (by simp)) hokX hl
  have hn' : n = P.length + (X.length + (Y.length + Q.length)) := by rw [hn]; simp
  refine fown_of 1 Try.func34 rfl (by kernel_rfl) ⟨by kernel_rfl, by kernel_rfl, by kernel_rfl, by kernel_rfl, by kernel_rfl, by kernel_rfl, by kernel_rfl⟩ (fun n o hh h => by cases hh) (by kernel_rfl) (fun B hB hBf => ?_)
  have e1 : IntKind.i64.wrap (m - a) = X.length := by rw [w64 _ (by omega) (by omega)]; omega
  have e2 : IntKind.i64.wrap (b - m) = Y.length := by rw [w64 _ (by omega) (by omega)]; omega
  refine reg0 mix (by kernel_rfl) ?_
  refine rCondF (IntKind.i64.wrap (m - a) == 1) (by kernel_rfl) (by rw [e1]; simp; omega) ?_
  refine reg0 mix (by kernel_rfl) ?_
  refine rCondF (IntKind.i64.wrap (b - m) == 1) (by kernel_rfl) (by rw [e2]; simp; omega) ?_
  have hmid := half_eq (i := a) (j := b) (by omega) (by omega) (by omega)
  refine reg mix [] [pf (by decide : (0 : Int) ≤ 1 ∧ (1 : Int) ≤ (IntKind.u64.bits : Int))] (by kernel_rfl) ?_
  refine reg0 mix (by kernel_rfl) ?_
  refine reg0 mix (by kernel_rfl) ?_
  refine reg0 mix (by kernel_rfl) ?_
  have en' : IntKind.i64.wrap (half a b + m) = half a b + m := w64 _ (by omega) (by omega)
  have ep : IntKind.i64.wrap (IntKind.i64.wrap (half a b + m) - 1) = half a b + m - 1 := by rw [en', w64 _ (by omega) (by omega)]
  have enb : IntKind.i64.wrap (IntKind.i64.wrap (half a b + m) - b) = half a b + m - b := by rw [en', w64 _ (by omega) (by omega)]
  have hLl : (P ++ (X ++ (Y ++ Q))).length = n := hn.symm
  refine rJoin (v1S n a m b g caps e (rwE (P ++ (X ++ (Y ++ Q)))) (half a b) (IntKind.i64.wrap (half a b + m))) (fun x => (m > half a b ∧ x.1 = half a b + m - b ∧ x.2 = half a b) ∨ (m ≤ half a b ∧ x.1 = a ∧ x.2 = m)) (List.cons_ne_nil _ _) ?_ ?_
  · refine rCond (decide (m > half a b)) (by kernel_rfl) (fun h => ?_) (fun h => ?_)
    · refine reg0 mix (by kernel_rfl) ?_
      refine reg0 mix (by kernel_rfl) ?_
      exact run_nil (joined (IntKind.i64.wrap (IntKind.i64.wrap (half a b + m) - b), half a b) (.inl ⟨of_decide_eq_true h, enb, rfl⟩) (wkTo [0, 1, 2, 3, 4, 18, 19, 20, 21] [] (by kernel_rfl)))
    · refine reg0 mix (by kernel_rfl) ?_
      refine reg0 mix (by kernel_rfl) ?_
      exact run_nil (joined (a, m) (.inr ⟨by have := of_decide_eq_false h; omega, rfl, rfl⟩) (wkTo [0, 1, 2, 3, 4, 18, 19, 20, 21] [] (by kernel_rfl)))
  rintro ⟨lo, hi⟩ hR
  simp only at hR
  refine reg0 mix (by kernel_rfl) ?_
  refine rBlock ?_
  have hlohi : a ≤ lo ∧ lo ≤ hi ∧ hi ≤ m ∧ hi ≤ half a b ∧ half a b + m - lo ≤ b ∧ m ≤ half a b + m - hi := by omega
  refine rLoop (v2S n a m b g caps e (rwE (P ++ (X ++ (Y ++ Q)))) (half a b) (IntKind.i64.wrap (half a b + m)) (IntKind.i64.wrap (IntKind.i64.wrap (half a b + m) - 1))) (fun s => lo ≤ s.1 ∧ s.1 ≤ s.2 ∧ s.2 ≤ hi ∧ (s.1 = lo ∨ key (X.getD (s.1 - 1 - a).toNat 0) ≤ key (Y.getD (half a b - s.1).toNat 0)) ∧ (s.2 = hi ∨ key (Y.getD (half a b - 1 - s.2).toNat 0) < key (X.getD (s.2 - a).toNat 0))) (fun s => (s.2 - s.1).toNat) (lo, hi) (wkTo [0, 1, 2, 3, 4, 18, 19, 20, 21, 22] [] (by kernel_rfl)) ⟨by simp, hlohi.2.1, by simp, .inl rfl, .inl rfl⟩ ?_
  rintro ⟨s, r⟩ ⟨r1, r2, r3, r4, r5⟩
  simp only at r1 r2 r3 r4 r5
  refine reg0 mix (by kernel_rfl) ?_
  refine rCond (decide (s < r)) (by kernel_rfl) (fun hc => ?_) (fun hc => ?_)
  · have hc : s < r := of_decide_eq_true hc
    refine rBlock ?_
    have hh := half_eq (i := s) (j := r) (by omega) (by omega) (by omega)
    refine reg mix [] [pf (by decide : (0 : Int) ≤ 1 ∧ (1 : Int) ≤ (IntKind.u64.bits : Int))] (by kernel_rfl) ?_
    obtain ⟨c, hcc⟩ : ∃ c : Nat, half s r = a + c := ⟨(half s r - a).toNat, by omega⟩
    have hcl : c < X.length := by omega
    obtain ⟨d, hd⟩ : ∃ d : Nat, half a b - 1 - half s r = d := ⟨(half a b - 1 - half s r).toNat, by omega⟩
    have hdl : d < Y.length := by omega
    have epc : IntKind.i64.wrap (IntKind.i64.wrap (IntKind.i64.wrap (half a b + m) - 1) - half s r) = m + d := by rw [ep, w64 _ (by omega) (by omega)]; omega
    have hxo : ok (X.getD c 0) := hokX _ (by simp [List.getD_eq_getElem?_getD, hcl])
    have hyo : ok (Y.getD d 0) := hokY _ (by simp [List.getD_eq_getElem?_getD, hdl])
    have hL3 : P ++ (X ++ (Y ++ Q)) = (P ++ X.take c) ++ X.getD c 0 :: (X.drop (c + 1) ++ (Y ++ Q)) := by
      conv => lhs; rw [split_at (S := X) hcl]
      simp
    have hL4 : P ++ (X ++ (Y ++ Q)) = (P ++ (X ++ Y.take d)) ++ Y.getD d 0 :: (Y.drop (d + 1) ++ Q) := by
      conv => lhs; rw [split_at (S := Y) hdl]
      simp
    have q1 : QAt (half s r) n (rwE (P ++ (X ++ (Y ++ Q)))) := rwE_q (by omega) (by rw [hLl]; omega) hLl.symm
    have q2 : QEl n (half s r).toNat (rwE (P ++ (X ++ (Y ++ Q)))) ((fun x => [cI x]) (X.getD c 0)) := rwE_e hLl.symm hL3 (by simp; omega)
    have q3 : QAt (IntKind.i64.wrap (IntKind.i64.wrap (IntKind.i64.wrap (half a b + m) - 1) - half s r)) n (rwE (P ++ (X ++ (Y ++ Q)))) := by rw [epc]; exact rwE_q (by omega) (by rw [hLl]; omega) hLl.symm
    have q4 : QEl n (IntKind.i64.wrap (IntKind.i64.wrap (IntKind.i64.wrap (half a b + m) - 1) - half s r)).toNat (rwE (P ++ (X ++ (Y ++ Q)))) ((fun x => [cI x]) (Y.getD d 0)) := by rw [epc]; exact rwE_e hLl.symm hL4 (by simp; omega)
    refine reg mix [(6, .frz 0 (fun _ => (fun x => [cI x]) (Y.getD d 0))), (10, .frz 0 (fun _ => (fun x => [cI x]) (X.getD c 0))), (11, .call (.v (vI (cm (Y.getD d 0) (X.getD c 0)))))] [pf q3, pf q4, pf q1, pf q2, pf (ho.call (Y.getD d 0) (X.getD c 0) hyo hxo)] (by kernel_rfl) ?_
    have hlt := ho.lt (Y.getD d 0) (X.getD c 0) hyo hxo
    refine rCond (!decide (cm (Y.getD d 0) (X.getD c 0) < 0)) (by kernel_rfl) (fun h => ?_) (fun h => ?_)
    · refine reg0 mix (by kernel_rfl) ?_
      have ew : IntKind.i64.wrap (half s r + 1) = half s r + 1 := w64 _ (by omega) (by omega)
      refine run_nil (blockR_normal (run_nil (loopR_next (IntKind.i64.wrap (half s r + 1), r) (wkTo [0, 1, 2, 3, 4, 18, 19, 20, 21, 22] [] (by kernel_rfl)) ?_ (by simp only; rw [ew]; omega))))
      simp only [Bool.not_eq_true', decide_eq_false_iff_not] at h
      refine ⟨by simp only; rw [ew]; omega, by simp only; rw [ew]; omega, r3, .inr ?_, r5⟩
      simp only
      rw [ew, show (half s r + 1 - 1 - a).toNat = c by omega, show (half a b - (half s r + 1)).toNat = d by omega]
      omega
    · refine reg0 mix (by kernel_rfl) ?_
      refine run_nil (blockR_normal (run_nil (loopR_next (s, half s r) (wkTo [0, 1, 2, 3, 4, 18, 19, 20, 21, 22] [] (by kernel_rfl)) ?_ (by simp only; omega))))
      simp only [Bool.not_eq_false', decide_eq_true_eq] at h
      refine ⟨r1, by simp only; omega, by simp only; omega, r4, .inr ?_⟩
      simp only
      rw [show (half s r - a).toNat = c by omega, show (half a b - 1 - half s r).toNat = d by omega]
      exact hlt.1 h
  have hc : ¬ s < r := of_decide_eq_false hc
  have hsr : r = s := by omega
  subst hsr
  refine run_exit (loopR_exit (blockR_exit ?_))
  -- what the search has found
  obtain ⟨u, hu⟩ : ∃ u : Nat, r = a + u := ⟨(r - a).toNat, by omega⟩
  obtain ⟨v, hv⟩ : ∃ v : Nat, half a b - r = v := ⟨(half a b - r).toNat, by omega⟩
  have huX : u ≤ X.length := by omega
  have hvY : v ≤ Y.length := by omega
  have g1 : ∀ x, x ∈ X.take u → ∀ y, y ∈ Y.drop v → key x ≤ key y := by
    intro x hx y hy
    rcases r4 with r4 | r4
    · rcases hR with ⟨h1, h2, h3⟩ | ⟨h1, h2, h3⟩
      · rw [List.drop_of_length_le (by omega)] at hy; cases hy
      · have : u = 0 := by omega
        rw [this] at hx; simp at hx
    · by_cases hu0 : u = 0
      · rw [hu0] at hx; simp at hx
      by_cases hvl : v < Y.length
      · rw [show (r - 1 - a).toNat = u - 1 by omega, show (half a b - r).toNat = v by omega] at r4
        have k1 := low_part (k := 0) (i := u) (q := fun w => w ≤ key (X.getD (u - 1) 0)) hsX huX (fun u v h h' => by omega) (.inr (Int.le_refl _)) x hx
        have k2 := high_part (i := v) (q := fun w => key (Y.getD v 0) ≤ w) hsY (fun u v h h' => by omega) (.inr (Int.le_refl _)) y hy
        omega
      · rw [List.drop_of_length_le (by omega)] at hy; cases hy
  have g2 : ∀ y, y ∈ Y.take v → ∀ x, x ∈ X.drop u → key y < key x := by
    intro y hy x hx
    rcases r5 with r5 | r5
    · rcases hR with ⟨h1, h2, h3⟩ | ⟨h1, h2, h3⟩
      · have : v = 0 := by omega
        rw [this] at hy; simp at hy
      · rw [List.drop_of_length_le (by omega)] at hx; cases hx
    · by_cases hv0 : v = 0
      · rw [hv0] at hy; simp at hy
      by_cases hul : u < X.length
      · rw [show (half a b - 1 - r).toNat = v - 1 by omega, show (r - a).toNat = u by omega] at r5
        have k1 := low_part (k := 0) (i := v) (q := fun w => w ≤ key (Y.getD (v - 1) 0)) hsY hvY (fun u v h h' => by omega) (.inr (Int.le_refl _)) y hy
        have k2 := high_part (i := u) (q := fun w => key (X.getD u 0) ≤ w) hsX (fun u v h h' => by omega) (.inr (Int.le_refl _)) x hx
        omega
      · rw [List.drop_of_length_le (by omega)] at hx; cases hx
  have tX : X.take u ++ X.drop u = X := List.take_append_drop _ _
  have tY : Y.take v ++ Y.drop v = Y := List.take_append_drop _ _
  have l1 : (X.take u).length = u := by rw [List.length_take]; omega
  have l2 : (X.drop u).length = X.length - u := by simp
  have l3 : (Y.take v).length = v := by rw [List.length_take]; omega
  have l4 : (Y.drop v).length = Y.length - v := by simp
  generalize X.take u = X1 at g1 tX l1
  generalize X.drop u = X2 at g2 tX l2
  generalize Y.take v = Y1 at g2 tY l3
  generalize Y.drop v = Y2 at g1 tY l4
  have sX := hsX
  have sY := hsY
  rw [← tX] at sX
  rw [← tY] at sY
  have sX1 : Sorted key X1 := (List.pairwise_append.1 sX).1
  have sX2 : Sorted key X2 := (List.pairwise_append.1 sX).2.1
  have sY1 : Sorted key Y1 := (List.pairwise_append.1 sY).1
  have sY2 : Sorted key Y2 := (List.pairwise_append.1 sY).2.1
  have hres : mrg key X Y = mrg key X1 Y1 ++ mrg key X2 Y2 := by
    rw [← tX, ← tY]
    exact mrg_parts key g1 g2 (fun b hb b' hb' => (List.pairwise_append.1 sY).2.2 b hb b' hb')
  have okX1 : ∀ x, x ∈ X1 → ok x := fun x hx => hokX x (by rw [← tX]; simp [hx])
  have okX2 : ∀ x, x ∈ X2 → ok x := fun x hx => hokX x (by rw [← tX]; simp [hx])
  have okY1 : ∀ x, x ∈ Y1 → ok x := fun x hx => hokY x (by rw [← tY]; simp [hx])
  have okY2 : ∀ x, x ∈ Y2 → ok x := fun x hx => hokY x (by rw [← tY]; simp [hx])
  rw [hres]
  have een : IntKind.i64.wrap (IntKind.i64.wrap (half a b + m) - r) = m + v := by rw [en', w64 _ (by omega) (by omega)]; omega
  refine reg0 mix (by kernel_rfl) ?_
  refine reg0 mix (by kernel_rfl) ?_
  have hL0 : P ++ (X ++ (Y ++ Q)) = P ++ (X1 ++ (X2 ++ (Y1 ++ (Y2 ++ Q)))) := by rw [← tX, ← tY]; simp
  refine rJoin (v3S n a m b g caps e (half a b) r (IntKind.i64.wrap (IntKind.i64.wrap (half a b + m) - r))) (fun css => css = rwE (P ++ (X1 ++ (Y1 ++ (X2 ++ (Y2 ++ Q)))))) (List.cons_ne_nil _ _) ?_ ?_
  · refine rCond (decide (r < m) && decide (m < IntKind.i64.wrap (IntKind.i64.wrap (half a b + m) - r))) (by kernel_rfl) (fun h => ?_) (fun h => ?_)
    · simp only [Bool.and_eq_true, decide_eq_true_eq, een] at h
      have hr := rot g caps e n r m (IntKind.i64.wrap (IntKind.i64.wrap (half a b + m) - r)) (P ++ X1) X2 Y1 (Y2 ++ Q) (by rw [hn']; simp; omega) (by simp; omega) (by simp; omega) (by rw [een]; simp; omega) (fun h0 => by rw [h0] at l2; simp at l2; omega) (fun h0 => by rw [h0] at l3; simp at l3; omega) hl
      simp only [List.append_assoc] at hr
      rw [← hL0] at hr
      refine reg mix [(5, .own [0] [] (.tup []) [(0, .row e 1 (rwE (P ++ (X1 ++ (Y1 ++ (X2 ++ (Y2 ++ Q)))))))])] [pf hr] (by kernel_rfl) ?_
      exact run_nil (joined (rwE (P ++ (X1 ++ (Y1 ++ (X2 ++ (Y2 ++ Q)))))) rfl (wkTo [0, 1, 2, 3, 4, 18, 20, 24] [] (by kernel_rfl)))
    · have hz : X2 = [] ∨ Y1 = [] := by
        simp only [Bool.and_eq_false_iff, decide_eq_false_iff_not, een] at h
        rcases h with h | h
        · exact .inl (List.eq_nil_of_length_eq_zero (by omega))
        · exact .inr (List.eq_nil_of_length_eq_zero (by omega))
      refine run_nil (joined (rwE (P ++ (X ++ (Y ++ Q)))) ?_ (wkTo [0, 1, 2, 3, 4, 18, 20, 24] [] (by kernel_rfl)))
      rw [hL0]
      rcases hz with rfl | rfl <;> simp
  intro css hcss
  subst hcss
  refine reg0 mix (by kernel_rfl) ?_
  refine rJoin (v3S n a m b g caps e (half a b) r (IntKind.i64.wrap (IntKind.i64.wrap (half a b + m) - r))) (fun css => css = rwE (P ++ (mrg key X1 Y1 ++ (X2 ++ (Y2 ++ Q))))) (List.cons_ne_nil _ _) ?_ ?_
  · refine rCond (decide (a < r) && decide (r < half a b)) (by kernel_rfl) (fun h => ?_) (fun h => ?_)
    · simp only [Bool.and_eq_true, decide_eq_true_eq] at h
      have hr := ih a r (half a b) P X1 Y1 (X2 ++ (Y2 ++ Q)) (by omega) (by rw [hn']; simp; omega) ha (by omega) (by omega) (fun h0 => by rw [h0] at l1; simp at l1; omega) (fun h0 => by rw [h0] at l3; simp at l3; omega) sX1 sY1 okX1 okY1
      refine reg mix [(5, .own [0] [] (.tup []) [(0, .row e 1 (rwE (P ++ (mrg key X1 Y1 ++ (X2 ++ (Y2 ++ Q))))))])] [pf hr] (by kernel_rfl) ?_
      exact run_nil (joined (rwE (P ++ (mrg key X1 Y1 ++ (X2 ++ (Y2 ++ Q))))) rfl (wkTo [0, 1, 2, 3, 4, 18, 20, 24] [] (by kernel_rfl)))
    · have hz : X1 = [] ∨ Y1 = [] := by
        simp only [Bool.and_eq_false_iff, decide_eq_false_iff_not] at h
        rcases h with h | h
        · exact .inl (List.eq_nil_of_length_eq_zero (by omega))
        · exact .inr (List.eq_nil_of_length_eq_zero (by omega))
      refine run_nil (joined (rwE (P ++ (X1 ++ (Y1 ++ (X2 ++ (Y2 ++ Q)))))) ?_ (wkTo [0, 1, 2, 3, 4, 18, 20, 24] [] (by kernel_rfl)))
      rcases hz with rfl | rfl
      · rw [mrg_nil_sorted key sY1 (fun a ha => by cases ha)]; simp
      · rw [mrg_nil]; simp
  intro css hcss
  subst hcss
  have lm : (mrg key X1 Y1).length = u + v := by rw [mrg_len, l1, l3]
  have hY12 : v + Y2.length = Y.length := by omega
  have hX12 : u + X2.length = X.length := by omega
  refine reg0 mix (by kernel_rfl) ?_
  refine rCond (decide (half a b < IntKind.i64.wrap (IntKind.i64.wrap (half a b + m) - r)) && decide (IntKind.i64.wrap (IntKind.i64.wrap (half a b + m) - r) < b)) (by kernel_rfl) (fun h => ?_) (fun h => ?_)
  · simp only [Bool.and_eq_true, decide_eq_true_eq, een] at h
    have hr := ih (half a b) (IntKind.i64.wrap (IntKind.i64.wrap (half a b + m) - r)) b (P ++ mrg key X1 Y1) X2 Y2 Q (by omega) (by rw [hn']; simp [lm]; omega) (by simp [lm]; omega) (by rw [een]; simp [lm]; omega) (by simp [lm]; omega) (fun h0 => by rw [h0] at l2; simp at l2; omega) (fun h0 => by rw [h0] at l4; simp at l4; omega) sX2 sY2 okX2 okY2
    simp only [List.append_assoc] at hr
    refine reg mix [(5, .own [0] [] (.tup []) [(0, .row e 1 (rwE (P ++ (mrg key X1 Y1 ++ (mrg key X2 Y2 ++ Q)))))])] [pf hr] (by kernel_rfl) ?_
    simp only [List.append_assoc]
    exact run_nil (ownEnds (.inr rfl) (by kernel_rfl) ⟨by kernel_rfl, .inr ⟨0, wit_row (l := n) 0 (by kernel_rfl) (by kernel_rfl) (.head _) (by rw [rwE_len, hn']; simp [lm, mrg_len]; omega) (by simp [rwE_len, lm, mrg_len]; omega)⟩, trivial⟩)
  · have hz : X2 = [] ∨ Y2 = [] := by
      simp only [Bool.and_eq_false_iff, decide_eq_false_iff_not, een] at h
      rcases h with h | h
      · exact .inl (List.eq_nil_of_length_eq_zero (by omega))
      · exact .inr (List.eq_nil_of_length_eq_zero (by omega))
    have e9 : P ++ (mrg key X1 Y1 ++ mrg key X2 Y2 ++ Q) = P ++ (mrg key X1 Y1 ++ (X2 ++ (Y2 ++ Q))) := by
      rcases hz with rfl | rfl
      · rw [mrg_nil_sorted key sY2 (fun a ha => by cases ha)]; simp
      · rw [mrg_nil]; simp
    rw [e9]
    exact run_nil (ownEnds (.inr rfl) (by kernel_rfl) ⟨by kernel_rfl, .inr ⟨0, wit_row (l := n) 0 (by kernel_rfl) (by kernel_rfl) (.head _) (by rw [rwE_len, hn']; simp [lm]; omega) (by simp [rwE_len, lm]; omega)⟩, trivial⟩)

/-! ### stable -/
theorem blks_step {k : Nat} (hk : 0 < k) {l : List Int} (h : k ≤ l.length) : blks key k l = isort key (l.take k) ++ blks key k (l.drop k) := by
  by_cases h1 : k < l.length
  · exact blks_long key hk h1
  · rw [blks_short key (by omega), List.take_of_length_le (by omega), List.drop_of_length_le (by omega), blks_short key (by simp), isort_nil, List.append_nil]
def s1S (n : Nat) (g : FuncId) (caps : List C) (e : Nat) (k : Int) (x : Int × Int × List (List C)) : S :=
  mkO 63 1 [(0, .pin 0 (.v (.c (.row 0 n)))), (1, .pin 1 (.v (vI n))), (2, .pin 2 (.v (.c (.clo g caps)))), (6, .b (.v (vI k))), (7, .b (.v (vI x.1))), (8, .b (.v (vI x.2.1)))] [(0, .row e 1 x.2.2)]
def s2S (n : Nat) (g : FuncId) (caps : List C) (e : Nat) (x : Int × List (List C)) : S :=
  mkO 63 1 [(0, .pin 0 (.v (.c (.row 0 n)))), (1, .pin 1 (.v (vI n))), (2, .pin 2 (.v (.c (.clo g caps)))), (6, .b (.v (vI x.1)))] [(0, .row e 1 x.2)]
theorem stb (ho : Ord g caps cm key ok) (e n : Nat) (L : List Int) (hn : n = L.length) (hl : n ≤ 1000000) (hok : ∀ x, x ∈ L → ok x) :
    FOwn Try.prog 29 [] [.c (.row 0 n), vI n, .c (.clo g caps)] [(0, .row e 1 (rwE L))] (.tup []) [(0, .row e 1 (rwE (isort key L)))] := by
  refine fown_of 1 Try.func29 rfl (by kernel_rfl) ⟨by kernel_rfl, by kernel_rfl, by kernel_rfl, by kernel_rfl, by kernel_rfl, by kernel_rfl, by kernel_rfl⟩ (fun n o hh h => by cases hh) (by kernel_rfl) (fun B hB hBf => ?_)
  refine reg0 mix (by kernel_rfl) ?_
  refine reg0 mix (by kernel_rfl) ?_
  refine rBlock ?_
  refine rLoop (s1S n g caps e 20) (fun s => ∃ D R, s.1 = D.length ∧ s.2.1 = s.1 + 20 ∧ n = D.length + R.length ∧ s.2.2 = rwE (D ++ R) ∧ blks key 20 L = D ++ blks key 20 R ∧ ∀ x, x ∈ R → ok x) (fun s => (n + 20 - s.2.1).toNat) (0, 20, rwE L) (wkTo [0, 1, 2, 6, 7, 8] [] (by kernel_rfl)) ⟨[], L, rfl, rfl, by simpa using hn, by simp, by simp, hok⟩ ?_
  rintro ⟨a, b, css⟩ ⟨D, R, ha, hb, hnn, hcss, hbl, hR⟩
  simp only at ha hb hcss
  subst hcss
  refine reg0 mix (by kernel_rfl) ?_
  refine rCond (decide (b ≤ (n : Int))) (by kernel_rfl) (fun hc => ?_) (fun hc => ?_)
  · have hc : b ≤ n := of_decide_eq_true hc
    refine rBlock ?_
    have hs := ins ho e n a b D (R.take 20) (R.drop 20) (by simp; omega) ha (by rw [List.length_take]; omega) hl (fun x hx => hR x (List.mem_of_mem_take hx))
    rw [List.take_append_drop] at hs
    refine reg mix [(4, .own [0] [] (.tup []) [(0, .row e 1 (rwE (D ++ (isort key (R.take 20) ++ R.drop 20))))])] [pf hs] (by kernel_rfl) ?_
    refine reg0 mix (by kernel_rfl) ?_
    refine reg0 mix (by kernel_rfl) ?_
    have eb : IntKind.i64.wrap (b + 20) = b + 20 := w64 _ (by omega) (by omega)
    refine run_nil (blockR_normal (run_nil (loopR_next (b, IntKind.i64.wrap (b + 20), rwE (D ++ (isort key (R.take 20) ++ R.drop 20))) (wkTo [0, 1, 2, 6, 7, 8] [] (by kernel_rfl)) ⟨D ++ isort key (R.take 20), R.drop 20, ?_, by simp only; rw [eb], ?_, by simp, ?_, fun x hx => hR x (List.mem_of_mem_drop hx)⟩ (by simp only; rw [eb]; omega))))
    · simp only [List.length_append, isort_len, List.length_take]; omega
    · simp only [List.length_append, isort_len, List.length_take, List.length_drop]; omega
    · rw [hbl, blks_step (by omega) (show 20 ≤ R.length by omega)]; simp
  have hc : ¬ b ≤ n := of_decide_eq_false hc
  refine run_exit (loopR_exit (blockR_exit ?_))
  have hs := ins ho e n a n D R [] (by simp; omega) ha (by omega) hl hR
  simp only [List.append_nil] at hs
  have hb1 : D ++ isort key R = blks key 20 L := by rw [hbl, blks_short key (show R.length ≤ 20 by omega)]
  rw [hb1] at hs
  refine reg mix [(4, .own [0] [] (.tup []) [(0, .row e 1 (rwE (blks key 20 L)))])] [pf hs] (by kernel_rfl) ?_
  refine rBlock ?_
  refine rLoop (s2S n g caps e) (fun s => ∃ k : Nat, s.1 = k ∧ 20 ≤ k ∧ s.2 = rwE (blks key k L)) (fun s => (n - s.1).toNat) (20, rwE (blks key 20 L)) (wkTo [0, 1, 2, 6] [] (by kernel_rfl)) ⟨20, rfl, Nat.le_refl _, rfl⟩ ?_
  rintro ⟨kk, css⟩ ⟨k, hkk, hk, hcss⟩
  simp only at hkk hcss
  subst hkk hcss
  refine reg0 mix (by kernel_rfl) ?_
  refine rCond (decide ((k : Int) < (n : Int))) (by kernel_rfl) (fun hc => ?_) (fun hc => ?_)
  · have hc : k < n := by have := of_decide_eq_true hc; omega
    have e2 : IntKind.i64.wrap (2 * (k : Int)) = 2 * k := w64 _ (by omega) (by omega)
    refine rBlock ?_
    refine reg0 mix (by kernel_rfl) ?_
    refine rBlock ?_
    refine rLoop (s1S n g caps e k) (fun s => ∃ D R, s.1 = D.length ∧ s.2.1 = s.1 + 2 * k ∧ n = D.length + R.length ∧ s.2.2 = rwE (D ++ blks key k R) ∧ blks key (2 * k) L = D ++ blks key (2 * k) R ∧ ∀ x, x ∈ R → ok x) (fun s => (n + 2 * k - s.2.1).toNat) (0, IntKind.i64.wrap (2 * (k : Int)), rwE (blks key k L)) (wkTo [0, 1, 2, 6, 7, 8] [] (by kernel_rfl)) ⟨[], L, rfl, by simp only; rw [e2]; omega, by simpa using hn, by simp, by simp, hok⟩ ?_
    rintro ⟨a, b, css⟩ ⟨D, R, ha, hb, hnn, hcss, hbl, hR⟩
    simp only at ha hb hcss
    subst hcss
    have hkp : 0 < k := by omega
    have eak : IntKind.i64.wrap (a + k) = a + k := w64 _ (by omega) (by omega)
    refine reg0 mix (by kernel_rfl) ?_
    refine rCond (decide (b ≤ (n : Int))) (by kernel_rfl) (fun hc2 => ?_) (fun hc2 => ?_)
    · have hc2 : b ≤ n := of_decide_eq_true hc2
      refine rBlock ?_
      have d1 := blks_step (key := key) hkp (show k ≤ R.length by omega)
      have d2 := blks_step (key := key) hkp (show k ≤ (R.drop k).length by simp; omega)
      have d3 := blks_step (key := key) (show 0 < 2 * k by omega) (show 2 * k ≤ R.length by omega)
      have ed : (R.drop k).drop k = R.drop (2 * k) := by rw [List.drop_drop]; congr 1; omega
      have et : R.take k ++ (R.drop k).take k = R.take (2 * k) := by rw [show 2 * k = k + k by omega, List.take_add]
      rw [ed] at d2
      have hm : mrg key (isort key (R.take k)) (isort key ((R.drop k).take k)) = isort key (R.take (2 * k)) := by rw [← isort_append, et]
      have lx : (isort key (R.take k)).length = k := by rw [isort_len, List.length_take]; omega
      have ly : (isort key ((R.drop k).take k)).length = k := by rw [isort_len, List.length_take, List.length_drop]; omega
      have lq : (blks key k (R.drop (2 * k))).length = R.length - 2 * k := by rw [blks_len key hkp _ _ (Nat.le_refl _), List.length_drop]
      have hs := sym ho e n hl _ a (IntKind.i64.wrap (a + k)) b D (isort key (R.take k)) (isort key ((R.drop k).take k)) (blks key k (R.drop (2 * k))) (Nat.le_refl _) (by simp only [List.length_append, lx, ly, lq]; omega) ha (by rw [eak, lx]; omega) (by rw [lx, ly]; omega)
        (fun h => by rw [h] at lx; simp at lx; omega) (fun h => by rw [h] at ly; simp at ly; omega) (isort_sorted key _) (isort_sorted key _) (fun x hx => hR x (List.mem_of_mem_take ((mem_isort key).1 hx))) (fun x hx => hR x (List.mem_of_mem_drop (List.mem_of_mem_take ((mem_isort key).1 hx))))
      rw [hm, ← d2, ← d1] at hs
      refine reg mix [(7, .own [0] [] (.tup []) [(0, .row e 1 (rwE (D ++ (isort key (R.take (2 * k)) ++ blks key k (R.drop (2 * k))))))])] [pf hs] (by kernel_rfl) ?_
      refine reg0 mix (by kernel_rfl) ?_
      refine reg0 mix (by kernel_rfl) ?_
      have eb : IntKind.i64.wrap (b + IntKind.i64.wrap (2 * (k : Int))) = b + 2 * k := by rw [e2, w64 _ (by omega) (by omega)]
      refine run_nil (blockR_normal (run_nil (loopR_next (b, IntKind.i64.wrap (b + IntKind.i64.wrap (2 * (k : Int))), rwE (D ++ (isort key (R.take (2 * k)) ++ blks key k (R.drop (2 * k))))) (wkTo [0, 1, 2, 6, 7, 8] [] (by kernel_rfl)) ⟨D ++ isort key (R.take (2 * k)), R.drop (2 * k), ?_, by simp only; rw [eb], ?_, by simp, ?_, fun x hx => hR x (List.mem_of_mem_drop hx)⟩ (by simp only; rw [eb]; omega))))
      · simp only [List.length_append, isort_len, List.length_take]; omega
      · simp only [List.length_append, isort_len, List.length_take, List.length_drop]; omega
      · rw [hbl, d3]; simp
    have hc2 : ¬ b ≤ n := of_decide_eq_false hc2
    refine run_exit (loopR_exit (blockR_exit ?_))
    refine reg0 mix (by kernel_rfl) ?_
    refine reg0 mix (by kernel_rfl) ?_
    have hshort : blks key (2 * k) R = isort key R := blks_short key (by omega)
    refine rJoin (fun css => s2S n g caps e (k, css)) (fun css => css = rwE (blks key (2 * k) L)) (List.cons_ne_nil _ _) ?_ ?_
    · refine rCond (decide (IntKind.i64.wrap (a + k) < (n : Int))) (by kernel_rfl) (fun h => ?_) (fun h => ?_)
      · have h := of_decide_eq_true h
        rw [eak] at h
        have d1 := blks_step (key := key) hkp (show k ≤ R.length by omega)
        have d2 : blks key k (R.drop k) = isort key (R.drop k) := blks_short key (by simp; omega)
        rw [d2] at d1
        have hm : mrg key (isort key (R.take k)) (isort key (R.drop k)) = isort key R := by rw [← isort_append, List.take_append_drop]
        have lx : (isort key (R.take k)).length = k := by rw [isort_len, List.length_take]; omega
        have ly : (isort key (R.drop k)).length = R.length - k := by rw [isort_len, List.length_drop]
        have hs := sym ho e n hl _ a (IntKind.i64.wrap (a + k)) n D (isort key (R.take k)) (isort key (R.drop k)) [] (Nat.le_refl _) (by simp only [List.length_append, lx, ly, List.length_nil]; omega) ha (by rw [eak, lx]; omega) (by rw [lx, ly]; omega)
          (fun h => by rw [h] at lx; simp at lx; omega) (fun h => by rw [h] at ly; simp at ly; omega) (isort_sorted key _) (isort_sorted key _) (fun x hx => hR x (List.mem_of_mem_take ((mem_isort key).1 hx))) (fun x hx => hR x (List.mem_of_mem_drop ((mem_isort key).1 hx)))
        rw [hm, List.append_nil, List.append_nil, ← d1, ← hshort, ← hbl] at hs
        refine reg mix [(5, .own [0] [] (.tup []) [(0, .row e 1 (rwE (blks key (2 * k) L)))])] [pf hs] (by kernel_rfl) ?_
        exact run_nil (joined (rwE (blks key (2 * k) L)) rfl (wkTo [0, 1, 2, 6] [] (by kernel_rfl)))
      · have h := of_decide_eq_false h
        rw [eak] at h
        refine run_nil (joined (rwE (D ++ blks key k R)) ?_ (wkTo [0, 1, 2, 6] [] (by kernel_rfl)))
        rw [hbl, hshort, blks_short key (show R.length ≤ k by omega)]
    intro css hcss
    subst hcss
    refine reg0 mix (by kernel_rfl) ?_
    have ek2 : IntKind.i64.wrap ((k : Int) * 2) = k * 2 := w64 _ (by omega) (by omega)
    refine run_nil (blockR_normal (run_nil (loopR_next (IntKind.i64.wrap ((k : Int) * 2), rwE (blks key (2 * k) L)) (wkTo [0, 1, 2, 6] [] (by kernel_rfl)) ⟨2 * k, by simp only; rw [ek2]; omega, by omega, rfl⟩ (by simp only; rw [ek2]; omega))))
  · have hc : ¬ k < n := by have := of_decide_eq_false hc; omega
    rw [blks_short key (show L.length ≤ k by omega)]
    refine run_exit (loopR_exit (blockR_exit ?_))
    exact run_nil (ownEnds (.inr rfl) (by kernel_rfl) ⟨by kernel_rfl, .inr ⟨0, wit_row (l := n) 0 (by kernel_rfl) (by kernel_rfl) (.head _) (by rw [rwE_len, isort_len, hn]) (by rw [rwE_len, rwE_len, isort_len])⟩, trivial⟩)
/-- slices.SortStableFunc. -/
theorem sort (ho : Ord g caps cm key ok) (e n : Nat) (L : List Int) (hn : n = L.length) (hl : n ≤ 1000000) (hok : ∀ x, x ∈ L → ok x) :
    FOwn Try.prog 19 [] [.c (.row 0 n), .c (.clo g caps)] [(0, .row e 1 (rwE L))] (.tup []) [(0, .row e 1 (rwE (isort key L)))] := by
  refine fown_of 1 Try.func19 rfl (by kernel_rfl) ⟨by kernel_rfl, by kernel_rfl, by kernel_rfl, by kernel_rfl, by kernel_rfl, by kernel_rfl, by kernel_rfl⟩ (fun n o hh h => by cases hh) (by kernel_rfl) (fun B hB hBf => ?_)
  refine reg mix [(4, .own [0] [] (.tup []) [(0, .row e 1 (rwE (isort key L)))])] [pf (show n = (rwE L).length by rw [rwE_len, hn]), pf (stb ho e n L hn hl hok)] (by kernel_rfl) ?_
  exact run_nil (ownEnds (.inr rfl) (by kernel_rfl) ⟨by kernel_rfl, .inr ⟨0, wit_row (l := n) 0 (by kernel_rfl) (by kernel_rfl) (.head _) (by rw [rwE_len, isort_len, hn]) (by rw [rwE_len, rwE_len, isort_len])⟩, trivial⟩)
end Go.Proofs.Ytakaeaekeeoicaa.StbI
