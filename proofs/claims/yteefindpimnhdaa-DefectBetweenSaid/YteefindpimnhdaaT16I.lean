import Derived.Test.YteefindpimnhdaaT16H
namespace Go.Proofs.Yteefindpimnhdaa
open Go.Sym
set_option linter.unusedVariables false
set_option linter.unusedSimpArgs false

def maskV (l : List Df) (t v k : Int) : M4 := if askOk l t v k then mask l t v k else zM
def askE (l : List Df) (t v k : Int) : Int := if askOk l t v k then 0 else 1
def spansV (l : List Df) (t one two : Int) : List Sp := if askOk l t one two then chgs l t one two else []
theorem maskR_eq (l : List Df) (t v k : Int) : maskR l t v k = .tup [.agg (encM (maskV l t v k)), vI (askE l t v k)] := by
  unfold maskR maskV askE; split <;> rfl
theorem chgR_eq (l : List Df) (t v k : Int) : chgR l t v k = .tup [lSp (spansV l t v k), vI (askE l t v k)] := by
  unfold chgR spansV askE; split <;> rfl
theorem askOk_valid {l : List Df} {t v k : Int} (h : askOk l t v k = true) : valid l = true := by simp [askOk] at h; exact h.1.1.1
theorem spansV_len (l : List Df) (t v k : Int) : (spansV l t v k).length ≤ 1000 := by
  unfold spansV
  split
  · rename_i h
    have h1 := valid_len (askOk_valid h)
    have h2 := chgF_len l t v k (bs l) ((bs l).length - 1)
    have h3 := bs_len l
    unfold chgs
    omega
  · simp
theorem g11 (l : List Df) (t v k : Int) (hl : l.length ≤ 1000000) : FCall Try.prog 11 [lDf l, vI t, vI v, vI k] (.tup [.agg (encM (maskV l t v k)), vI (askE l t v k)]) := by have := f11 l t v k hl; rwa [maskR_eq] at this
theorem g12 (l : List Df) (t v k : Int) : FCall Try.prog 12 [lDf l, vI t, vI v, vI k] (.tup [.agg (encM (maskV l t v k)), vI (askE l t v k)]) := by have := f12 l t v k; rwa [maskR_eq] at this
theorem g13 (l : List Df) (t v k : Int) (hl : l.length ≤ 1000000) : FCall Try.prog 13 [lDf l, vI t, vI v, vI k] (.tup [lSp (spansV l t v k), vI (askE l t v k)]) := by have := f13 l t v k hl; rwa [chgR_eq] at this
theorem g14 (l : List Df) (t v k : Int) : FCall Try.prog 14 [lDf l, vI t, vI v, vI k] (.tup [lSp (spansV l t v k), vI (askE l t v k)]) := by have := f14 l t v k; rwa [chgR_eq] at this
abbrev mEq (x y : M4) : Bool := x.a == y.a && (x.b == y.b && (x.c == y.c && (x.d == y.d && true)))
theorem m4_eq (x y : M4) : mEq x y = decide (x = y) := by
  have := m4_ne x y
  simp only [Bool.not_eq_eq_eq_not, Bool.not_not] at this
  exact this

theorem f3 (l : List Df) (t v k one two : Int) : FCall Try.prog 3 [lDf l, vI t, vI v, vI k, vI one, vI two] (.v (vB true)) := by
  refine fcall_of Try.func3 rfl (by kernel_rfl) (fun B hB => ?_)
  refine reg0 mix (by kernel_rfl) ?_
  refine regC mix [(0, con f9)] (by kernel_rfl) ?_
  refine regC mix [(1, con (f10 l))] (by kernel_rfl) ?_
  refine rCond (!few l.length) (by kernel_rfl) (fun h => ?_) (fun h => ?_)
  · refine reg0 mix (by kernel_rfl) ?_
    exact run_ret (ret_of (.v (vB true)) (by kernel_rfl) rfl)
  have hl : l.length ≤ 1000000 := by
    have : few l.length = true := by simpa using h
    simp [few] at this; omega
  refine regC mix [(4, con (g11 l t v k hl))] (by kernel_rfl) ?_
  refine regC mix [(4, con (g12 l t v k))] (by kernel_rfl) ?_
  refine regC mix [(4, con (g13 l t one two hl))] (by kernel_rfl) ?_
  refine regC mix [(4, con (g14 l t one two))] (by kernel_rfl) ?_
  have hs := spansV_len l t one two
  refine reg mix [(3, hcon (f15 l hl)), (5, hcon (f16 l)), (21, hcon (f17 (spansV l t one two) (spansV l t one two) (by omega)))]
    [pf (f15 l hl), pf (f16 l), pf eq26, pf (f17 (spansV l t one two) (spansV l t one two) (by omega))] (by kernel_rfl) ?_
  refine run_ret (ret_of (.v (vB (((((true && (valid l == valid l)) && mEq (maskV l t v k) (maskV l t v k)) && (askE l t v k == askE l t v k)) && decide (spansV l t one two = spansV l t one two)) && (askE l t one two == askE l t one two)))) (by kernel_rfl) ?_)
  simp

end Go.Proofs.Yteefindpimnhdaa
