import Derived.Test.YtakaeaekeeoicaaSymZ
import Derived.Test.YtakaeaekeeoicaaSymS2
import Derived.Test.YtakaeaekeeoicaaSymT
import Derived.Test.YtakaeaekeeoicaaChecked
namespace Go.Proofs.Ytakaeaekeeoicaa
open Go.Sym
set_option linter.unusedVariables false
set_option linter.unusedSimpArgs false

theorem mix : Try.prog.follows .mixedOrders = true := by kernel_rfl

structure Sp where
  frm : Int
  til : Int
deriving DecidableEq
def encSp (s : Sp) : List C := [cI s.frm, cI s.til]
def zSp : Sp := ⟨0, 0⟩
def elSp (l : List Sp) (i : Nat) : List C := encSp (l.getD i zSp)
def lSp (l : List Sp) : CV := .c (.lst 2 l.length (elSp l))
def elI (l : List Int) (i : Nat) : List C := [cI (l.getD i 0)]
def lI (l : List Int) : CV := .c (.lst 1 l.length (elI l))

def wrong (s : Sp) : Bool := (decide (s.frm < -39399) || decide (s.til > 39399)) || decide (s.frm > s.til)
theorem f27 (s : Sp) : FCall Try.prog 27 [.agg (encSp s)] (.v (vB (wrong s))) := by
  refine fcall_of Try.func27 rfl (by kernel_rfl) (fun B hB => ?_)
  refine reg0 mix (by kernel_rfl) ?_
  refine reg0 mix (by kernel_rfl) ?_
  exact run_ret (ret_of _ (by kernel_rfl) rfl)
def dj (a b : Sp) : Bool := decide (a.til < b.frm) || decide (b.til < a.frm)
theorem f26 (a b : Sp) : FCall Try.prog 26 [.agg (encSp a), .agg (encSp b)] (.v (vB (dj a b))) := by
  refine fcall_of Try.func26 rfl (by kernel_rfl) (fun B hB => ?_)
  refine reg0 mix (by kernel_rfl) ?_
  refine reg0 mix (by kernel_rfl) ?_
  exact run_ret (ret_of _ (by kernel_rfl) rfl)
def few (l : List Sp) : Bool := decide ((l.length : Int) ≤ 30) || (decide ((l.length : Int) ≥ 999) && decide ((l.length : Int) ≤ 1001))
theorem f11 (l : List Sp) : FCall Try.prog 11 [lSp l] (.v (vB (few l))) := by
  refine fcall_of Try.func11 rfl (by kernel_rfl) (fun B hB => ?_)
  refine reg0 mix (by kernel_rfl) ?_
  refine reg0 mix (by kernel_rfl) ?_
  exact run_ret (ret_of (.v (vB (few l))) (by kernel_rfl) rfl)

/-! ### IndexFunc, ContainsFunc -/
/-- The first place of those that are asked for, or -1. -/
def firstI (p : Nat → Bool) : Nat → Nat → Int
  | _, 0 => -1
  | i, n + 1 => if p i then i else firstI p (i + 1) n
theorem firstI_ge {p : Nat → Bool} : ∀ {n i : Nat}, decide (firstI p i n ≥ 0) = (List.range' i n).any p := by
  intro n
  induction n with
  | zero => intro i; simp [firstI]
  | succ n ih =>
    intro i
    rw [List.range'_succ, List.any_cons, ← ih, firstI]
    cases h : p i
    · simp
    · simp
def ixS (n : Nat) (l : CV) (g : CV) (len : Int) (i : Int) : S := mkS n [(0, .b (.v l)), (1, .b (.v g)), (6, .b (.v l)), (7, .b (.v (vI len))), (8, .b (.v (vI i)))] []
theorem range'_any {α : Type} (z : α) (p : α → Bool) : ∀ (l : List α), (List.range' 0 l.length).any (fun i => p (l.getD i z)) = l.any p := by
  intro l
  rw [Bool.eq_iff_iff, List.any_eq_true, List.any_eq_true]
  constructor
  · rintro ⟨i, hi, hp⟩
    have hi' : i < l.length := by simpa using hi
    exact ⟨l[i], List.getElem_mem hi', by simpa [List.getD_eq_getElem?_getD, hi'] using hp⟩
  · rintro ⟨x, hx, hp⟩
    obtain ⟨i, hi, rfl⟩ := List.getElem_of_mem hx
    exact ⟨i, by simpa using hi, by simpa [List.getD_eq_getElem?_getD, hi] using hp⟩
theorem f32 (l : List Sp) (g : FuncId) (p : Sp → Bool) (hl : l.length ≤ 1000000) (hg : ∀ x, FCall Try.prog g [.agg (encSp x)] (.v (vB (p x)))) : FCall Try.prog 32 [lSp l, .c (.clo g [])] (.v (vI (firstI (fun i => p (l.getD i zSp)) 0 l.length))) := by
  refine fcall_of Try.func32 rfl (by kernel_rfl) (fun B hB => ?_)
  refine reg0 mix (by kernel_rfl) ?_
  refine reg0 mix (by kernel_rfl) ?_
  refine rBlock ?_
  refine rLoop (ixS 19 (lSp l) (.c (.clo g [])) l.length) (fun i => 0 ≤ i ∧ i ≤ l.length ∧ firstI (fun i => p (l.getD i zSp)) 0 l.length = firstI (fun i => p (l.getD i zSp)) i.toNat (l.length - i.toNat)) (fun i => (l.length - i).toNat) 0 (wkTo [0, 1, 6, 7, 8] [] (by kernel_rfl)) ⟨by omega, by omega, rfl⟩ ?_
  intro i ⟨h0, h1, h2⟩
  refine reg0 mix (by kernel_rfl) ?_
  refine rCond (decide (i < (l.length : Int))) (by kernel_rfl) (fun hc => ?_) (fun hc => ?_)
  · have hc : i < l.length := of_decide_eq_true hc
    have e : IntKind.i64.wrap (i + 1) = i + 1 := w64 _ (by omega) (by omega)
    refine rBlock ?_
    refine reg0 mix (by kernel_rfl) ?_
    refine reg mix [(5, hcon (hg (l.getD i.toNat zSp)))] [pf (⟨h0, hc⟩ : 0 ≤ i ∧ i < (l.length : Int)), pf (hg (l.getD i.toNat zSp))] (by kernel_rfl) ?_
    rw [show l.length - i.toNat = (l.length - (i.toNat + 1)) + 1 by omega, firstI] at h2
    refine rCond (p (l.getD i.toNat zSp)) (by kernel_rfl) (fun h => ?_) (fun h => ?_)
    · refine reg0 mix (by kernel_rfl) ?_
      refine run_ret (blockR_ret (loopR_ret (blockR_ret (ret_of (.v (vI i)) (by kernel_rfl) ?_))))
      rw [h2, if_pos h, Int.toNat_of_nonneg h0]
    · refine run_nil (blockR_normal ?_)
      refine reg0 mix (by kernel_rfl) ?_
      refine run_nil (loopR_next (IntKind.i64.wrap (i + 1)) (wkTo [0, 1, 6, 7, 8] [] (by kernel_rfl)) ?_ ?_)
      · rw [e]
        refine ⟨by omega, by omega, ?_⟩
        rw [h2, if_neg (by rw [h]; exact Bool.false_ne_true), show (i + 1).toNat = i.toNat + 1 by omega]
      · rw [e]; omega
  · have hc : ¬ i < l.length := of_decide_eq_false hc
    refine run_exit (loopR_exit (blockR_exit ?_))
    refine reg0 mix (by kernel_rfl) ?_
    refine run_ret (ret_of (.v (vI (-1))) (by kernel_rfl) ?_)
    rw [h2, show l.length - i.toNat = 0 by omega, firstI]
theorem f28 (l : List Sp) (g : FuncId) (p : Sp → Bool) (hl : l.length ≤ 1000000) (hg : ∀ x, FCall Try.prog g [.agg (encSp x)] (.v (vB (p x)))) : FCall Try.prog 28 [lSp l, .c (.clo g [])] (.v (vB (l.any p))) := by
  refine fcall_of Try.func28 rfl (by kernel_rfl) (fun B hB => ?_)
  refine reg0 mix (by kernel_rfl) ?_
  refine regC mix [(2, con (f32 l g p hl hg))] (by kernel_rfl) ?_
  refine run_ret (ret_of (.v (vB (decide (firstI (fun i => p (l.getD i zSp)) 0 l.length ≥ 0)))) (by kernel_rfl) ?_)
  rw [firstI_ge, range'_any zSp p l]

def valid (l : List Sp) : Bool := decide ((l.length : Int) ≤ 1000) && !l.any wrong
theorem f18 (l : List Sp) : FCall Try.prog 18 [lSp l] (.v (vB (valid l))) := by
  refine fcall_of Try.func18 rfl (by kernel_rfl) (fun B hB => ?_)
  refine reg0 mix (by kernel_rfl) ?_
  refine reg0 mix (by kernel_rfl) ?_
  refine regI mix [(6, .call (.v (vB (l.any wrong))))] [pf (fun h : decide ((l.length : Int) ≤ 1000) = true => f28 l 27 wrong (by have := of_decide_eq_true h; omega) f27)] (by kernel_rfl) ?_
  exact run_ret (ret_of (.v (vB (valid l))) (by kernel_rfl) rfl)
def ixR (n : Nat) (l : CV) (i : Int) : S := mkS n [(0, .b (.v l)), (3, .b (.v (vI i)))] []
theorem f22 (l : List Sp) (hl : l.length ≤ 1000000) : FCall Try.prog 22 [lSp l] (.v (vB (valid l))) := by
  refine fcall_of Try.func22 rfl (by kernel_rfl) (fun B hB => ?_)
  refine reg0 mix (by kernel_rfl) ?_
  refine reg0 mix (by kernel_rfl) ?_
  refine rBlock ?_
  refine rLoop (ixR 40 (lSp l)) (fun i => 0 ≤ i ∧ i ≤ l.length ∧ ∀ j, j < i.toNat → wrong (l.getD j zSp) = false) (fun i => (l.length - i).toNat) 0 (wkTo [0, 3] [] (by kernel_rfl)) ⟨by omega, by omega, fun j hj => by simp at hj⟩ ?_
  intro i ⟨h0, h1, h2⟩
  refine reg0 mix (by kernel_rfl) ?_
  refine rCond (decide (i < (l.length : Int))) (by kernel_rfl) (fun hc => ?_) (fun hc => ?_)
  · have hc : i < l.length := of_decide_eq_true hc
    have e : IntKind.i64.wrap (i + 1) = i + 1 := w64 _ (by omega) (by omega)
    have hi : 0 ≤ i ∧ i < (l.length : Int) := ⟨h0, hc⟩
    refine rBlock ?_
    refine regI mix [] [pf (fun _ : true = true => hi), pf (fun _ : (!decide ((l.getD i.toNat zSp).frm < -39399)) = true => hi), pf (fun _ : (!(decide ((l.getD i.toNat zSp).frm < -39399) || decide ((l.getD i.toNat zSp).til > 39399))) = true => hi), pf (fun _ : (!(decide ((l.getD i.toNat zSp).frm < -39399) || decide ((l.getD i.toNat zSp).til > 39399))) = true => hi)] (by kernel_rfl) ?_
    refine rCond (wrong (l.getD i.toNat zSp)) (by kernel_rfl) (fun h => ?_) (fun h => ?_)
    · refine reg0 mix (by kernel_rfl) ?_
      refine run_ret (blockR_ret (loopR_ret (blockR_ret (ret_of (.v (vB false)) (by kernel_rfl) ?_))))
      have : l.any wrong = true := by
        rw [List.any_eq_true]
        exact ⟨l.getD i.toNat zSp, by simp [List.getD_eq_getElem?_getD, show i.toNat < l.length by omega], h⟩
      rw [valid, this]; simp
    · refine run_nil (blockR_normal ?_)
      refine reg0 mix (by kernel_rfl) ?_
      refine run_nil (loopR_next (IntKind.i64.wrap (i + 1)) (wkTo [0, 3] [] (by kernel_rfl)) ?_ ?_)
      · rw [e]
        refine ⟨by omega, by omega, fun j hj => ?_⟩
        by_cases hji : j < i.toNat
        · exact h2 j hji
        · rw [show j = i.toNat by omega]; exact h
      · rw [e]; omega
  · have hc : ¬ i < l.length := of_decide_eq_false hc
    refine run_exit (loopR_exit (blockR_exit ?_))
    refine reg0 mix (by kernel_rfl) ?_
    refine run_ret (ret_of (.v (vB (decide ((l.length : Int) ≤ 1000)))) (by kernel_rfl) ?_)
    have : l.any wrong = false := by
      rw [List.any_eq_false]
      intro x hx
      obtain ⟨j, hj, rfl⟩ := List.getElem_of_mem hx
      have := h2 j (by omega)
      rw [show l.getD j zSp = l[j] by simp [List.getD_eq_getElem?_getD, hj]] at this
      simp [this]
    rw [valid, this]; simp
theorem valid_len {l : List Sp} (h : valid l = true) : l.length ≤ 1000 := by
  simp only [valid, Bool.and_eq_true, decide_eq_true_eq] at h; omega
theorem valid_get {l : List Sp} (h : valid l = true) {s : Sp} (hs : s ∈ l) : -39399 ≤ s.frm ∧ s.til ≤ 39399 ∧ s.frm ≤ s.til := by
  simp only [valid, Bool.and_eq_true, Bool.not_eq_true', List.any_eq_false] at h
  have := h.2 s hs
  simp only [wrong, Bool.or_eq_true, decide_eq_true_eq, not_or] at this
  omega
theorem valid_at {l : List Sp} (h : valid l = true) {i : Nat} (hi : i < l.length) : -39399 ≤ (l.getD i zSp).frm ∧ (l.getD i zSp).til ≤ 39399 ∧ (l.getD i zSp).frm ≤ (l.getD i zSp).til :=
  valid_get h (by simp [List.getD_eq_getElem?_getD, hi])

/-! ### Ints -/
def in2 (a b : List Int) (i : Int) : S := mkS 26 [(0, .b (.v (lI a))), (1, .b (.v (lI b))), (5, .b (.v (vI i)))] []
theorem f14 (a b : List Int) (ha : a.length ≤ 1000000) : FCall Try.prog 14 [lI a, lI b] (.v (vB (decide (a = b)))) := by
  refine fcall_of Try.func14 rfl (by kernel_rfl) (fun B hB => ?_)
  refine reg0 mix (by kernel_rfl) ?_
  refine reg0 mix (by kernel_rfl) ?_
  refine rCond ((a.length : Int) != (b.length : Int)) (by kernel_rfl) (fun h => ?_) (fun h => ?_)
  · refine reg0 mix (by kernel_rfl) ?_
    refine run_ret (ret_of (.v (vB false)) (by kernel_rfl) ?_)
    have : a ≠ b := fun e => by rw [e] at h; simp at h
    rw [decide_eq_false this]
  have hl : a.length = b.length := by
    have : (a.length : Int) = b.length := by simpa using h
    omega
  refine reg0 mix (by kernel_rfl) ?_
  refine rBlock ?_
  refine rLoop (in2 a b) (fun i => 0 ≤ i ∧ i ≤ a.length ∧ ∀ j, j < i.toNat → a.getD j 0 = b.getD j 0) (fun i => (a.length - i).toNat) 0 (wkTo [0, 1, 5] [] (by kernel_rfl)) ⟨by omega, by omega, fun j hj => by simp at hj⟩ ?_
  intro i ⟨h0, h1, h2⟩
  refine reg0 mix (by kernel_rfl) ?_
  refine rCond (decide (i < (a.length : Int))) (by kernel_rfl) (fun hc => ?_) (fun hc => ?_)
  · have hc : i < a.length := of_decide_eq_true hc
    have e : IntKind.i64.wrap (i + 1) = i + 1 := w64 _ (by omega) (by omega)
    refine rBlock ?_
    refine reg mix [] [pf (⟨h0, hc⟩ : 0 ≤ i ∧ i < (a.length : Int)), pf (⟨h0, by omega⟩ : 0 ≤ i ∧ i < (b.length : Int))] (by kernel_rfl) ?_
    refine rCond (a.getD i.toNat 0 != b.getD i.toNat 0) (by kernel_rfl) (fun h => ?_) (fun h => ?_)
    · refine reg0 mix (by kernel_rfl) ?_
      refine run_ret (blockR_ret (loopR_ret (blockR_ret (ret_of (.v (vB false)) (by kernel_rfl) ?_))))
      have : a ≠ b := fun e => by rw [e] at h; simp at h
      rw [decide_eq_false this]
    · refine run_nil (blockR_normal ?_)
      refine reg0 mix (by kernel_rfl) ?_
      refine run_nil (loopR_next (IntKind.i64.wrap (i + 1)) (wkTo [0, 1, 5] [] (by kernel_rfl)) ?_ ?_)
      · rw [e]
        refine ⟨by omega, by omega, fun j hj => ?_⟩
        by_cases hji : j < i.toNat
        · exact h2 j hji
        · rw [show j = i.toNat by omega]; simpa using h
      · rw [e]; omega
  · have hc : ¬ i < a.length := of_decide_eq_false hc
    refine run_exit (loopR_exit (blockR_exit ?_))
    refine reg0 mix (by kernel_rfl) ?_
    refine run_ret (ret_of (.v (vB true)) (by kernel_rfl) ?_)
    have : a = b := by
      apply List.ext_getElem hl
      intro j j1 j2
      have := h2 j (by omega)
      simpa [List.getD_eq_getElem?_getD, j1, j2] using this
    rw [decide_eq_true this]

/-! ### Meets -/
def hit (s : Sp) (p : Int) : Bool := decide (s.frm ≤ p) && decide (p ≤ s.til)
def mt1 (s : Sp) (ps : List Int) (i : Int) : S := mkS 28 [(1, .b (.v (lI ps))), (2, .b (.v (.c (.kptr (encSp s) 0)))), (5, .b (.v (vI i)))] []
theorem f25 (s : Sp) (ps : List Int) (hp : ps.length ≤ 1000000) : FCall Try.prog 25 [.agg (encSp s), lI ps] (.v (vB (ps.any (hit s)))) := by
  refine fcall_of Try.func25 rfl (by kernel_rfl) (fun B hB => ?_)
  refine reg mix [(0, .imm)] [] (by kernel_rfl) ?_
  refine reg0 mix (by kernel_rfl) ?_
  refine rBlock ?_
  refine rLoop (mt1 s ps) (fun i => 0 ≤ i ∧ i ≤ ps.length ∧ ∀ j, j < i.toNat → hit s (ps.getD j 0) = false) (fun i => (ps.length - i).toNat) 0 (wkTo [1, 2, 5] [] (by kernel_rfl)) ⟨by omega, by omega, fun j hj => by simp at hj⟩ ?_
  intro i ⟨h0, h1, h2⟩
  refine reg0 mix (by kernel_rfl) ?_
  refine rCond (decide (i < (ps.length : Int))) (by kernel_rfl) (fun hc => ?_) (fun hc => ?_)
  · have hc : i < ps.length := of_decide_eq_true hc
    have e : IntKind.i64.wrap (i + 1) = i + 1 := w64 _ (by omega) (by omega)
    have hi : 0 ≤ i ∧ i < (ps.length : Int) := ⟨h0, hc⟩
    refine rBlock ?_
    refine regI mix [] [pf (fun _ : true = true => hi), pf (fun _ : decide (s.frm ≤ ps.getD i.toNat 0) = true => hi)] (by kernel_rfl) ?_
    refine rCond (hit s (ps.getD i.toNat 0)) (by kernel_rfl) (fun h => ?_) (fun h => ?_)
    · refine reg0 mix (by kernel_rfl) ?_
      refine run_ret (blockR_ret (loopR_ret (blockR_ret (ret_of (.v (vB true)) (by kernel_rfl) ?_))))
      have : ps.any (hit s) = true := by
        rw [List.any_eq_true]
        exact ⟨ps.getD i.toNat 0, by simp [List.getD_eq_getElem?_getD, show i.toNat < ps.length by omega], h⟩
      rw [this]
    · refine run_nil (blockR_normal ?_)
      refine reg0 mix (by kernel_rfl) ?_
      refine run_nil (loopR_next (IntKind.i64.wrap (i + 1)) (wkTo [1, 2, 5] [] (by kernel_rfl)) ?_ ?_)
      · rw [e]
        refine ⟨by omega, by omega, fun j hj => ?_⟩
        by_cases hji : j < i.toNat
        · exact h2 j hji
        · rw [show j = i.toNat by omega]; exact h
      · rw [e]; omega
  · have hc : ¬ i < ps.length := of_decide_eq_false hc
    refine run_exit (loopR_exit (blockR_exit ?_))
    refine reg0 mix (by kernel_rfl) ?_
    refine run_ret (ret_of (.v (vB false)) (by kernel_rfl) ?_)
    have : ps.any (hit s) = false := by
      rw [List.any_eq_false]
      intro x hx
      obtain ⟨j, hj, rfl⟩ := List.getElem_of_mem hx
      have := h2 j (by omega)
      rw [show ps.getD j 0 = ps[j] by simp [List.getD_eq_getElem?_getD, hj]] at this
      simp [this]
    rw [this]

def meets (l : List Sp) (ps : List Int) : Bool := l.all fun s => ps.any (hit s)
def mt2 (l : List Sp) (ps : List Int) (i : Int) : S := mkS 47 [(0, .b (.v (lSp l))), (1, .b (.v (lI ps))), (5, .b (.v (vI i)))] []
def mt3 (l : List Sp) (ps : List Int) (i : Int) (x : Int × Bool) : S := mkS 47 [(0, .b (.v (lSp l))), (1, .b (.v (lI ps))), (5, .b (.v (vI i))), (6, .b (.v (vB x.2))), (7, .b (.v (vI x.1)))] []
theorem takeI {l : List Int} {i : Nat} (h : i < l.length) : l.take (i + 1) = l.take i ++ [l.getD i 0] := by
  rw [List.take_succ_eq_append_getElem h]
  simp [List.getD_eq_getElem?_getD, h]
theorem all_upto {α : Type} (z : α) {l : List α} {p : α → Bool} (h : ∀ j, j < l.length → p (l.getD j z) = true) : l.all p = true := by
  rw [List.all_eq_true]
  intro x hx
  obtain ⟨j, hj, rfl⟩ := List.getElem_of_mem hx
  have := h j hj
  rwa [show l.getD j z = l[j] by simp [List.getD_eq_getElem?_getD, hj]] at this
theorem all_not {α : Type} (z : α) {l : List α} {p : α → Bool} {j : Nat} (hj : j < l.length) (h : p (l.getD j z) = false) : l.all p = false := by
  rw [Bool.eq_false_iff]
  intro ha
  have := List.all_eq_true.1 ha (l.getD j z) (by simp [List.getD_eq_getElem?_getD, hj])
  rw [h] at this; cases this
theorem f17 (l : List Sp) (ps : List Int) (hl : l.length ≤ 1000000) (hp : ps.length ≤ 1000000) : FCall Try.prog 17 [lSp l, lI ps] (.v (vB (meets l ps))) := by
  refine fcall_of Try.func17 rfl (by kernel_rfl) (fun B hB => ?_)
  refine reg0 mix (by kernel_rfl) ?_
  refine reg0 mix (by kernel_rfl) ?_
  refine rBlock ?_
  refine rLoop (mt2 l ps) (fun i => 0 ≤ i ∧ i ≤ l.length ∧ ∀ j, j < i.toNat → ps.any (hit (l.getD j zSp)) = true) (fun i => (l.length - i).toNat) 0 (wkTo [0, 1, 5] [] (by kernel_rfl)) ⟨by omega, by omega, fun j hj => by simp at hj⟩ ?_
  intro i ⟨h0, h1, h2⟩
  refine reg0 mix (by kernel_rfl) ?_
  refine rCond (decide (i < (l.length : Int))) (by kernel_rfl) (fun hc => ?_) (fun hc => ?_)
  · have hc : i < l.length := of_decide_eq_true hc
    have e : IntKind.i64.wrap (i + 1) = i + 1 := w64 _ (by omega) (by omega)
    have hi : 0 ≤ i ∧ i < (l.length : Int) := ⟨h0, hc⟩
    refine rBlock ?_
    refine reg0 mix (by kernel_rfl) ?_
    refine reg0 mix (by kernel_rfl) ?_
    refine rBlock ?_
    refine rLoop (mt3 l ps i) (fun x => 0 ≤ x.1 ∧ x.1 ≤ ps.length ∧ x.2 = (ps.take x.1.toNat).any (hit (l.getD i.toNat zSp))) (fun x => (ps.length - x.1).toNat) (0, false) (wkTo [0, 1, 5, 6, 7] [] (by kernel_rfl)) ⟨by simp, by simp, rfl⟩ ?_
    rintro ⟨k, fd⟩ ⟨k0, k1, k2⟩
    simp only at k0 k1 k2
    refine reg0 mix (by kernel_rfl) ?_
    refine rCond (decide (k < (ps.length : Int))) (by kernel_rfl) (fun hc2 => ?_) (fun hc2 => ?_)
    · have hc2 : k < ps.length := of_decide_eq_true hc2
      have e2 : IntKind.i64.wrap (k + 1) = k + 1 := w64 _ (by omega) (by omega)
      have hk : 0 ≤ k ∧ k < (ps.length : Int) := ⟨k0, hc2⟩
      refine rBlock ?_
      refine regI mix [] [pf (fun _ : (!fd) = true => hi), pf (fun _ : (!fd) = true => hk), pf (fun _ : ((!fd) && decide ((l.getD i.toNat zSp).frm ≤ ps.getD k.toNat 0)) = true => hk), pf (fun _ : ((!fd) && decide ((l.getD i.toNat zSp).frm ≤ ps.getD k.toNat 0)) = true => hi)] (by kernel_rfl) ?_
      refine run_nil (blockR_normal ?_)
      refine reg0 mix (by kernel_rfl) ?_
      refine run_nil (loopR_next (IntKind.i64.wrap (k + 1), fd || hit (l.getD i.toNat zSp) (ps.getD k.toNat 0)) (wkTo [0, 1, 5, 6, 7] [] (by kernel_rfl)) ?_ ?_)
      · simp only [e2]
        refine ⟨by omega, by omega, ?_⟩
        rw [show (k + 1).toNat = k.toNat + 1 by omega, takeI (by omega), List.any_append, ← k2]
        simp
      · simp only [e2]; omega
    have hc2 : ¬ k < ps.length := of_decide_eq_false hc2
    rw [List.take_of_length_le (by omega)] at k2
    refine run_exit (loopR_exit (blockR_exit ?_))
    refine reg0 mix (by kernel_rfl) ?_
    refine rCond (!fd) (by kernel_rfl) (fun h => ?_) (fun h => ?_)
    · refine reg0 mix (by kernel_rfl) ?_
      refine run_ret (blockR_ret (loopR_ret (blockR_ret (ret_of (.v (vB false)) (by kernel_rfl) ?_))))
      rw [meets, all_not zSp (show i.toNat < l.length by omega) (by rw [← k2]; simpa using h)]
    · refine run_nil (blockR_normal ?_)
      refine reg0 mix (by kernel_rfl) ?_
      refine run_nil (loopR_next (IntKind.i64.wrap (i + 1)) (wkTo [0, 1, 5] [] (by kernel_rfl)) ?_ ?_)
      · rw [e]
        refine ⟨by omega, by omega, fun j hj => ?_⟩
        by_cases hji : j < i.toNat
        · exact h2 j hji
        · rw [show j = i.toNat by omega, ← k2]; simpa using h
      · rw [e]; omega
  · have hc : ¬ i < l.length := of_decide_eq_false hc
    refine run_exit (loopR_exit (blockR_exit ?_))
    refine reg0 mix (by kernel_rfl) ?_
    refine run_ret (ret_of (.v (vB true)) (by kernel_rfl) ?_)
    rw [meets, all_upto zSp fun j hj => h2 j (by omega)]
end Go.Proofs.Ytakaeaekeeoicaa
