import Derived.Test.YtmdgbejfdcfhpaaSymX
import Derived.Test.YtmdgbejfdcfhpaaChecked
namespace Go.Proofs.Ytmdgbejfdcfhpaa
open Go.Sym
set_option linter.unusedVariables false
set_option linter.unusedSimpArgs false

theorem mix : Try.prog.follows .mixedOrders = true := by kernel_rfl

/-- A calibration. -/
structure Ca where
  kind : Int
  tel : Int
  flt : Int
  at' : Int
  known : Int
  a : Int
  b : Int
  c : Int
  d : Int
deriving DecidableEq
def encCa (x : Ca) : List C := [cI x.kind, cI x.tel, cI x.flt, cI x.at', cI x.known, cI x.a, cI x.b, cI x.c, cI x.d]
def zCa : Ca := ⟨0, 0, 0, 0, 0, 0, 0, 0, 0⟩
def elCa (l : List Ca) (i : Nat) : List C := encCa (l.getD i zCa)
def lCa (l : List Ca) : CV := .c (.lst 9 l.length (elCa l))
def elI (l : List Int) (i : Nat) : List C := [cI (l.getD i 0)]
def lI (l : List Int) : CV := .c (.lst 1 l.length (elI l))

def mom (m : Int) : Bool := decide (m ≥ 0) && decide (m ≤ 38399)
theorem f29 (m : Int) : FCall Try.prog 29 [vI m] (.v (vB (mom m))) := by
  refine fcall_of Try.func29 rfl (by kernel_rfl) (fun B hB => ?_)
  refine reg0 mix (by kernel_rfl) ?_
  refine reg0 mix (by kernel_rfl) ?_
  exact run_ret (ret_of _ (by kernel_rfl) rfl)
theorem f33 (m : Int) : FCall Try.prog 33 [vI m] (.v (vB (mom m))) := by
  refine fcall_of Try.func33 rfl (by kernel_rfl) (fun B hB => ?_)
  refine reg0 mix (by kernel_rfl) ?_
  refine reg0 mix (by kernel_rfl) ?_
  exact run_ret (ret_of _ (by kernel_rfl) rfl)
def bad (m : Int) : Bool := decide (m < 0) || decide (m > 65535)
theorem f31 (m : Int) : FCall Try.prog 31 [vI m] (.v (vB (bad m))) := by
  refine fcall_of Try.func31 rfl (by kernel_rfl) (fun B hB => ?_)
  refine reg0 mix (by kernel_rfl) ?_
  refine reg0 mix (by kernel_rfl) ?_
  exact run_ret (ret_of _ (by kernel_rfl) rfl)
theorem f18 (l : List Ca) (n : Int) : FCall Try.prog 18 [lCa l, vI n] (.v (vB (decide ((l.length : Int) ≤ n)))) := by
  refine fcall_of Try.func18 rfl (by kernel_rfl) (fun B hB => ?_)
  refine reg0 mix (by kernel_rfl) ?_
  refine reg0 mix (by kernel_rfl) ?_
  exact run_ret (ret_of _ (by kernel_rfl) rfl)
theorem f10 (l : List Ca) : FCall Try.prog 10 [lCa l] (.v (vB (decide ((l.length : Int) ≤ 20)))) := by
  refine fcall_of Try.func10 rfl (by kernel_rfl) (fun B hB => ?_)
  refine reg0 mix (by kernel_rfl) ?_
  refine regC mix [(1, con (f18 l 20))] (by kernel_rfl) ?_
  exact run_ret (ret_of _ (by kernel_rfl) rfl)
def applies (x : Ca) (kind tel flt at' known : Int) : Bool := ((((x.kind == kind) && (x.tel == tel)) && (x.flt == flt)) && decide (x.at' ≤ at')) && decide (x.known ≤ known)
theorem f15 (x : Ca) (kind tel flt at' known : Int) : FCall Try.prog 15 [.agg (encCa x), vI kind, vI tel, vI flt, vI at', vI known] (.v (vB (applies x kind tel flt at' known))) := by
  refine fcall_of Try.func15 rfl (by kernel_rfl) (fun B hB => ?_)
  refine reg0 mix (by kernel_rfl) ?_
  refine reg0 mix (by kernel_rfl) ?_
  exact run_ret (ret_of _ (by kernel_rfl) rfl)
theorem f36 (x : Ca) (kind tel flt at' known : Int) : FCall Try.prog 36 [.agg (encCa x), vI kind, vI tel, vI flt, vI at', vI known] (.v (vB (applies x kind tel flt at' known))) := by
  refine fcall_of Try.func36 rfl (by kernel_rfl) (fun B hB => ?_)
  refine reg0 mix (by kernel_rfl) ?_
  refine reg0 mix (by kernel_rfl) ?_
  exact run_ret (ret_of _ (by kernel_rfl) rfl)
def dark (at' known n : Int) : Ca := ⟨1, 0, -1, at', known, n, n, n, n⟩
theorem f17 (at' known n : Int) : FCall Try.prog 17 [vI at', vI known, vI n] (.v (.agg (encCa (dark at' known n)))) := by
  refine fcall_of Try.func17 rfl (by kernel_rfl) (fun B hB => ?_)
  refine reg0 mix (by kernel_rfl) ?_
  refine reg0 mix (by kernel_rfl) ?_
  exact run_ret (ret_of (.v (.agg (encCa (dark at' known n)))) (by kernel_rfl) rfl)

/-! ### IndexFunc, ContainsFunc -/
/-- The first place of those that are asked for, or -1. -/
def firstI (p : Nat → Bool) : Nat → Nat → Int
  | _, 0 => -1
  | i, n + 1 => if p i then i else firstI p (i + 1) n
theorem firstI_ge {p : Nat → Bool} : ∀ {n i : Nat}, decide (firstI p i n ≥ 0) = (List.range' i n).any p := by
  intro n
  induction n with
  | zero => intro i; simp [firstI]
  | succ n ih =>
    intro i
    rw [List.range'_succ, List.any_cons, ← ih, firstI]
    cases h : p i
    · simp
    · simp
def ixS (n : Nat) (l : CV) (g : CV) (len : Int) (i : Int) : S := mkS n [(0, .b (.v l)), (1, .b (.v g)), (6, .b (.v l)), (7, .b (.v (vI len))), (8, .b (.v (vI i)))] []
theorem range'_any {α : Type} (z : α) (p : α → Bool) : ∀ (l : List α), (List.range' 0 l.length).any (fun i => p (l.getD i z)) = l.any p := by
  intro l
  rw [Bool.eq_iff_iff, List.any_eq_true, List.any_eq_true]
  constructor
  · rintro ⟨i, hi, hp⟩
    have hi' : i < l.length := by simpa using hi
    exact ⟨l[i], List.getElem_mem hi', by simpa [List.getD_eq_getElem?_getD, hi'] using hp⟩
  · rintro ⟨x, hx, hp⟩
    obtain ⟨i, hi, rfl⟩ := List.getElem_of_mem hx
    exact ⟨i, by simpa using hi, by simpa [List.getD_eq_getElem?_getD, hi] using hp⟩
theorem f40 (l : List Int) (g : FuncId) (p : Int → Bool) (hl : l.length ≤ 1000000) (hg : ∀ x, FCall Try.prog g [vI x] (.v (vB (p x)))) : FCall Try.prog 40 [lI l, .c (.clo g [])] (.v (vI (firstI (fun i => p (l.getD i 0)) 0 l.length))) := by
  refine fcall_of Try.func40 rfl (by kernel_rfl) (fun B hB => ?_)
  refine reg0 mix (by kernel_rfl) ?_
  refine reg0 mix (by kernel_rfl) ?_
  refine rBlock ?_
  refine rLoop (ixS 19 (lI l) (.c (.clo g [])) l.length) (fun i => 0 ≤ i ∧ i ≤ l.length ∧ firstI (fun i => p (l.getD i 0)) 0 l.length = firstI (fun i => p (l.getD i 0)) i.toNat (l.length - i.toNat)) (fun i => (l.length - i).toNat) 0 (wkTo [0, 1, 6, 7, 8] [] (by kernel_rfl)) ⟨by omega, by omega, rfl⟩ ?_
  intro i ⟨h0, h1, h2⟩
  refine reg0 mix (by kernel_rfl) ?_
  refine rCond (decide (i < (l.length : Int))) (by kernel_rfl) (fun hc => ?_) (fun hc => ?_)
  · have hc : i < l.length := of_decide_eq_true hc
    have e : IntKind.i64.wrap (i + 1) = i + 1 := w64 _ (by omega) (by omega)
    refine rBlock ?_
    refine reg0 mix (by kernel_rfl) ?_
    refine reg mix [(5, hcon (hg (l.getD i.toNat 0)))] [pf (⟨h0, hc⟩ : 0 ≤ i ∧ i < (l.length : Int)), pf (hg (l.getD i.toNat 0))] (by kernel_rfl) ?_
    rw [show l.length - i.toNat = (l.length - (i.toNat + 1)) + 1 by omega, firstI] at h2
    refine rCond (p (l.getD i.toNat 0)) (by kernel_rfl) (fun h => ?_) (fun h => ?_)
    · refine reg0 mix (by kernel_rfl) ?_
      refine run_ret (blockR_ret (loopR_ret (blockR_ret (ret_of (.v (vI i)) (by kernel_rfl) ?_))))
      rw [h2, if_pos h, Int.toNat_of_nonneg h0]
    · refine run_nil (blockR_normal ?_)
      refine reg0 mix (by kernel_rfl) ?_
      refine run_nil (loopR_next (IntKind.i64.wrap (i + 1)) (wkTo [0, 1, 6, 7, 8] [] (by kernel_rfl)) ?_ ?_)
      · rw [e]
        refine ⟨by omega, by omega, ?_⟩
        rw [h2, if_neg (by rw [h]; exact Bool.false_ne_true), show (i + 1).toNat = i.toNat + 1 by omega]
      · rw [e]; omega
  · have hc : ¬ i < l.length := of_decide_eq_false hc
    refine run_exit (loopR_exit (blockR_exit ?_))
    refine reg0 mix (by kernel_rfl) ?_
    refine run_ret (ret_of (.v (vI (-1))) (by kernel_rfl) ?_)
    rw [h2, show l.length - i.toNat = 0 by omega, firstI]
theorem f32 (l : List Int) (g : FuncId) (p : Int → Bool) (hl : l.length ≤ 1000000) (hg : ∀ x, FCall Try.prog g [vI x] (.v (vB (p x)))) : FCall Try.prog 32 [lI l, .c (.clo g [])] (.v (vB (l.any p))) := by
  refine fcall_of Try.func32 rfl (by kernel_rfl) (fun B hB => ?_)
  refine reg0 mix (by kernel_rfl) ?_
  refine regC mix [(2, con (f40 l g p hl hg))] (by kernel_rfl) ?_
  refine run_ret (ret_of (.v (vB (decide (firstI (fun i => p (l.getD i 0)) 0 l.length ≥ 0)))) (by kernel_rfl) ?_)
  rw [firstI_ge, range'_any 0 p l]
theorem f30 (l : List Ca) (g : FuncId) (p : Ca → Bool) (hl : l.length ≤ 1000000) (hg : ∀ x, FCall Try.prog g [.agg (encCa x)] (.v (vB (p x)))) : FCall Try.prog 30 [lCa l, .c (.clo g [])] (.v (vI (firstI (fun i => p (l.getD i zCa)) 0 l.length))) := by
  refine fcall_of Try.func30 rfl (by kernel_rfl) (fun B hB => ?_)
  refine reg0 mix (by kernel_rfl) ?_
  refine reg0 mix (by kernel_rfl) ?_
  refine rBlock ?_
  refine rLoop (ixS 19 (lCa l) (.c (.clo g [])) l.length) (fun i => 0 ≤ i ∧ i ≤ l.length ∧ firstI (fun i => p (l.getD i zCa)) 0 l.length = firstI (fun i => p (l.getD i zCa)) i.toNat (l.length - i.toNat)) (fun i => (l.length - i).toNat) 0 (wkTo [0, 1, 6, 7, 8] [] (by kernel_rfl)) ⟨by omega, by omega, rfl⟩ ?_
  intro i ⟨h0, h1, h2⟩
  refine reg0 mix (by kernel_rfl) ?_
  refine rCond (decide (i < (l.length : Int))) (by kernel_rfl) (fun hc => ?_) (fun hc => ?_)
  · have hc : i < l.length := of_decide_eq_true hc
    have e : IntKind.i64.wrap (i + 1) = i + 1 := w64 _ (by omega) (by omega)
    refine rBlock ?_
    refine reg0 mix (by kernel_rfl) ?_
    refine reg mix [(5, hcon (hg (l.getD i.toNat zCa)))] [pf (⟨h0, hc⟩ : 0 ≤ i ∧ i < (l.length : Int)), pf (hg (l.getD i.toNat zCa))] (by kernel_rfl) ?_
    rw [show l.length - i.toNat = (l.length - (i.toNat + 1)) + 1 by omega, firstI] at h2
    refine rCond (p (l.getD i.toNat zCa)) (by kernel_rfl) (fun h => ?_) (fun h => ?_)
    · refine reg0 mix (by kernel_rfl) ?_
      refine run_ret (blockR_ret (loopR_ret (blockR_ret (ret_of (.v (vI i)) (by kernel_rfl) ?_))))
      rw [h2, if_pos h, Int.toNat_of_nonneg h0]
    · refine run_nil (blockR_normal ?_)
      refine reg0 mix (by kernel_rfl) ?_
      refine run_nil (loopR_next (IntKind.i64.wrap (i + 1)) (wkTo [0, 1, 6, 7, 8] [] (by kernel_rfl)) ?_ ?_)
      · rw [e]
        refine ⟨by omega, by omega, ?_⟩
        rw [h2, if_neg (by rw [h]; exact Bool.false_ne_true), show (i + 1).toNat = i.toNat + 1 by omega]
      · rw [e]; omega
  · have hc : ¬ i < l.length := of_decide_eq_false hc
    refine run_exit (loopR_exit (blockR_exit ?_))
    refine reg0 mix (by kernel_rfl) ?_
    refine run_ret (ret_of (.v (vI (-1))) (by kernel_rfl) ?_)
    rw [h2, show l.length - i.toNat = 0 by omega, firstI]
theorem f19 (l : List Ca) (g : FuncId) (p : Ca → Bool) (hl : l.length ≤ 1000000) (hg : ∀ x, FCall Try.prog g [.agg (encCa x)] (.v (vB (p x)))) : FCall Try.prog 19 [lCa l, .c (.clo g [])] (.v (vB (l.any p))) := by
  refine fcall_of Try.func19 rfl (by kernel_rfl) (fun B hB => ?_)
  refine reg0 mix (by kernel_rfl) ?_
  refine regC mix [(2, con (f30 l g p hl hg))] (by kernel_rfl) ?_
  refine run_ret (ret_of (.v (vB (decide (firstI (fun i => p (l.getD i zCa)) 0 l.length ≥ 0)))) (by kernel_rfl) ?_)
  rw [firstI_ge, range'_any zCa p l]

end Go.Proofs.Ytmdgbejfdcfhpaa
