import Derived.Test.YtaaplpbjjnechaaSymZ
import Derived.Test.YtaaplpbjjnechaaSymS2
import Derived.Test.YtaaplpbjjnechaaSymT
import Derived.Test.YtaaplpbjjnechaaSymAA
import Derived.Test.YtaaplpbjjnechaaSymCC
import Derived.Test.YtaaplpbjjnechaaChecked
namespace Go.Proofs.Ytaaplpbjjnechaa
open Go.Sym
set_option linter.unusedVariables false
set_option linter.unusedSimpArgs false

theorem mix : Try.prog.follows .mixedOrders = true := by kernel_rfl

/-- A place, a detection, a tally. -/
structure Pc where
  t : Int
  c : Int
  f : Int
deriving DecidableEq
structure De where
  t : Int
  c : Int
  f : Int
  v : Int
  a : Int
deriving DecidableEq
structure Ta where
  t : Int
  c : Int
  f : Int
  n : Int
deriving DecidableEq
def encPc (p : Pc) : List C := [cI p.t, cI p.c, cI p.f]
def encDe (d : De) : List C := [cI d.t, cI d.c, cI d.f, cI d.v, cI d.a]
def encTa (x : Ta) : List C := [cI x.t, cI x.c, cI x.f, cI x.n]
def zPc : Pc := ⟨0, 0, 0⟩
def zDe : De := ⟨0, 0, 0, 0, 0⟩
def zTa : Ta := ⟨0, 0, 0, 0⟩
def elI (l : List Int) (i : Nat) : List C := [cI (l.getD i 0)]
def elPc (l : List Pc) (i : Nat) : List C := encPc (l.getD i zPc)
def elDe (l : List De) (i : Nat) : List C := encDe (l.getD i zDe)
def elTa (l : List Ta) (i : Nat) : List C := encTa (l.getD i zTa)
def lI (l : List Int) : CV := .c (.lst 1 l.length (elI l))
def lPc (l : List Pc) : CV := .c (.lst 3 l.length (elPc l))
def lDe (l : List De) : CV := .c (.lst 5 l.length (elDe l))
def lTa (l : List Ta) : CV := .c (.lst 4 l.length (elTa l))
def De.pl (d : De) : Pc := ⟨d.t, d.c, d.f⟩
def Ta.pl (x : Ta) : Pc := ⟨x.t, x.c, x.f⟩

theorem f24 (d : De) : FCall Try.prog 24 [.agg (encDe d)] (.v (.agg (encPc d.pl))) := by
  refine fcall_of Try.func24 rfl (by kernel_rfl) (fun B hB => ?_)
  refine reg mix [(0, .imm)] [] (by kernel_rfl) ?_
  refine reg0 mix (by kernel_rfl) ?_
  exact run_ret (ret_of _ (by kernel_rfl) rfl)
theorem f34 (x : Ta) : FCall Try.prog 34 [.agg (encTa x)] (.v (.agg (encPc x.pl))) := by
  refine fcall_of Try.func34 rfl (by kernel_rfl) (fun B hB => ?_)
  refine reg mix [(0, .imm)] [] (by kernel_rfl) ?_
  refine reg0 mix (by kernel_rfl) ?_
  exact run_ret (ret_of _ (by kernel_rfl) rfl)
def exB (p : Pc) : Bool := ((((decide (p.t ≥ 0) && decide (p.t < 512)) && decide (p.c ≥ 0)) && decide (p.c < 4)) && decide (p.f ≥ 0)) && decide (p.f < 8)
theorem ex_iff {p : Pc} : exB p = true ↔ (0 ≤ p.t ∧ p.t < 512) ∧ (0 ≤ p.c ∧ p.c < 4) ∧ 0 ≤ p.f ∧ p.f < 8 := by
  simp only [exB, Bool.and_eq_true, decide_eq_true_eq]; omega
theorem f39 (p : Pc) : FCall Try.prog 39 [.agg (encPc p)] (.v (vB (exB p))) := by
  refine fcall_of Try.func39 rfl (by kernel_rfl) (fun B hB => ?_)
  refine reg mix [(0, .imm)] [] (by kernel_rfl) ?_
  refine reg0 mix (by kernel_rfl) ?_
  exact run_ret (ret_of (.v (vB (exB p))) (by kernel_rfl) rfl)
def cellB (t c f : Int) : Bool := ((((decide (t ≥ 0) && decide (t ≤ 511)) && decide (c ≥ 0)) && decide (c ≤ 3)) && decide (f ≥ 0)) && decide (f ≤ 7)
theorem cell_ex (p : Pc) : cellB p.t p.c p.f = exB p := by
  rw [Bool.eq_iff_iff, ex_iff]
  simp only [cellB, Bool.and_eq_true, decide_eq_true_eq]; omega
theorem f44 (t c f : Int) : FCall Try.prog 44 [vI t, vI c, vI f] (.v (vB (cellB t c f))) := by
  refine fcall_of Try.func44 rfl (by kernel_rfl) (fun B hB => ?_)
  refine reg0 mix (by kernel_rfl) ?_
  refine reg0 mix (by kernel_rfl) ?_
  exact run_ret (ret_of (.v (vB (cellB t c f))) (by kernel_rfl) rfl)
def okDe (d : De) : Bool := (((exB d.pl && decide (d.v ≥ 0)) && decide (d.v ≤ 1000000)) && decide (d.a ≥ 0)) && decide (d.a ≤ 38399)
theorem ok_iff {d : De} : okDe d = true ↔ exB d.pl = true ∧ (0 ≤ d.v ∧ d.v ≤ 1000000) ∧ 0 ≤ d.a ∧ d.a ≤ 38399 := by
  simp only [okDe, Bool.and_eq_true, decide_eq_true_eq]
  constructor
  · rintro ⟨⟨⟨⟨h1, h2⟩, h3⟩, h4⟩, h5⟩; exact ⟨h1, ⟨h2, h3⟩, h4, h5⟩
  · rintro ⟨h1, ⟨h2, h3⟩, h4, h5⟩; exact ⟨⟨⟨⟨h1, h2⟩, h3⟩, h4⟩, h5⟩
theorem f23 (d : De) : FCall Try.prog 23 [.agg (encDe d)] (.v (vB (okDe d))) := by
  refine fcall_of Try.func23 rfl (by kernel_rfl) (fun B hB => ?_)
  refine reg mix [(0, .imm)] [] (by kernel_rfl) ?_
  refine regC mix [(1, con (f24 d)), (2, con (f39 d.pl))] (by kernel_rfl) ?_
  exact run_ret (ret_of (.v (vB (okDe d))) (by kernel_rfl) rfl)
theorem f28 (d : De) : FCall Try.prog 28 [.agg (encDe d)] (.v (vB (okDe d))) := by
  refine fcall_of Try.func28 rfl (by kernel_rfl) (fun B hB => ?_)
  refine reg mix [(0, .imm)] [] (by kernel_rfl) ?_
  refine regC mix [(6, con (f44 d.t d.c d.f))] (by kernel_rfl) ?_
  refine run_ret (ret_of (.v (vB ((((cellB d.t d.c d.f && decide (d.v ≥ 0)) && decide (d.v ≤ 1000000)) && decide (d.a ≥ 0)) && decide (d.a ≤ 38399)))) (by kernel_rfl) ?_)
  have : cellB d.t d.c d.f = exB d.pl := cell_ex d.pl
  rw [this]; rfl

/-! ### Less, compare -/
def ltP (p q : Pc) : Bool := if p.t ≠ q.t then decide (p.t < q.t) else if p.c ≠ q.c then decide (p.c < q.c) else decide (p.f < q.f)
theorem lt_iff {p q : Pc} : ltP p q = true ↔ p.t < q.t ∨ (p.t = q.t ∧ (p.c < q.c ∨ (p.c = q.c ∧ p.f < q.f))) := by
  unfold ltP
  split
  · simp only [decide_eq_true_eq]; omega
  · split
    · simp only [decide_eq_true_eq]; omega
    · simp only [decide_eq_true_eq]; omega
theorem f13 (x y : Ta) : FCall Try.prog 13 [.agg (encTa x), .agg (encTa y)] (.v (vB (ltP x.pl y.pl))) := by
  refine fcall_of Try.func13 rfl (by kernel_rfl) (fun B hB => ?_)
  refine reg mix [(0, .imm), (1, .imm)] [] (by kernel_rfl) ?_
  refine reg0 mix (by kernel_rfl) ?_
  refine rCond (x.t != y.t) (by kernel_rfl) (fun h => ?_) (fun h => ?_)
  · refine reg0 mix (by kernel_rfl) ?_
    refine run_ret (ret_of (.v (vB (decide (x.t < y.t)))) (by kernel_rfl) ?_)
    rw [ltP, if_pos (show x.pl.t ≠ y.pl.t from (by simpa using h : x.t ≠ y.t))]; rfl
  refine reg0 mix (by kernel_rfl) ?_
  refine rCond (x.c != y.c) (by kernel_rfl) (fun h2 => ?_) (fun h2 => ?_)
  · refine reg0 mix (by kernel_rfl) ?_
    refine run_ret (ret_of (.v (vB (decide (x.c < y.c)))) (by kernel_rfl) ?_)
    rw [ltP, if_neg (show ¬ x.pl.t ≠ y.pl.t from fun hh => hh (by simpa using h : x.t = y.t)), if_pos (show x.pl.c ≠ y.pl.c from (by simpa using h2 : x.c ≠ y.c))]; rfl
  refine reg0 mix (by kernel_rfl) ?_
  refine run_ret (ret_of (.v (vB (decide (x.f < y.f)))) (by kernel_rfl) ?_)
  rw [ltP, if_neg (show ¬ x.pl.t ≠ y.pl.t from fun hh => hh (by simpa using h : x.t = y.t)), if_neg (show ¬ x.pl.c ≠ y.pl.c from fun hh => hh (by simpa using h2 : x.c = y.c))]; rfl
/-- The first that is not zero. -/
def firstNZ : List Int → Int
  | [] => 0
  | x :: l => if x ≠ 0 then x else firstNZ l
def or1 (l : List Int) (x : Int × Int) : S := mkS 18 [(0, .b (.v (lI l))), (2, .b (.v (vI 0))), (3, .b (.v (vI 0))), (5, .b (.v (vI x.2))), (6, .b (.v (lI l))), (7, .b (.v (vI l.length))), (8, .b (.v (vI x.1)))] []
theorem drop_at {l : List Int} {i : Nat} (h : i < l.length) : l.drop i = l.getD i 0 :: l.drop (i + 1) := by
  rw [List.drop_eq_getElem_cons h]; simp [List.getD_eq_getElem?_getD, h]
theorem f43 (l : List Int) (hl : l.length ≤ 1000000) : FCall Try.prog 43 [lI l] (.v (vI (firstNZ l))) := by
  refine fcall_of Try.func43 rfl (by kernel_rfl) (fun B hB => ?_)
  refine reg0 mix (by kernel_rfl) ?_
  refine reg0 mix (by kernel_rfl) ?_
  refine reg0 mix (by kernel_rfl) ?_
  refine rBlock ?_
  refine rLoop (fun i : Int => mkS 18 [(0, .b (.v (lI l))), (3, .b (.v (vI 0))), (6, .b (.v (lI l))), (7, .b (.v (vI l.length))), (8, .b (.v (vI i)))] []) (fun i => 0 ≤ i ∧ i ≤ l.length ∧ firstNZ l = firstNZ (l.drop i.toNat)) (fun i => (l.length - i).toNat) 0 (wkTo [0, 3, 6, 7, 8] [] (by kernel_rfl)) ⟨by omega, by omega, rfl⟩ ?_
  rintro i ⟨h0, h1, h2⟩
  refine reg0 mix (by kernel_rfl) ?_
  refine rCond (decide (i < (l.length : Int))) (by kernel_rfl) (fun hc => ?_) (fun hc => ?_)
  · have hc : i < l.length := of_decide_eq_true hc
    have e : IntKind.i64.wrap (i + 1) = i + 1 := w64 _ (by omega) (by omega)
    rw [drop_at (by omega), firstNZ] at h2
    refine rBlock ?_
    refine reg mix [] [pf (⟨h0, hc⟩ : 0 ≤ i ∧ i < (l.length : Int))] (by kernel_rfl) ?_
    refine reg0 mix (by kernel_rfl) ?_
    refine rCond (l.getD i.toNat 0 != 0) (by kernel_rfl) (fun h => ?_) (fun h => ?_)
    · refine reg0 mix (by kernel_rfl) ?_
      refine run_ret (blockR_ret (loopR_ret (blockR_ret (ret_of (.v (vI (l.getD i.toNat 0))) (by kernel_rfl) ?_))))
      rw [h2, if_pos (by simpa using h)]
    · refine run_nil (blockR_normal ?_)
      refine reg0 mix (by kernel_rfl) ?_
      refine run_nil (loopR_next (IntKind.i64.wrap (i + 1)) (wkTo [0, 3, 6, 7, 8] [] (by kernel_rfl)) ?_ ?_)
      · rw [e]
        refine ⟨by omega, by omega, ?_⟩
        rw [h2, if_neg (by simpa using h), show (i + 1).toNat = i.toNat + 1 by omega]
      · rw [e]; omega
  have hc : ¬ i < l.length := of_decide_eq_false hc
  refine run_exit (loopR_exit (blockR_exit ?_))
  refine reg0 mix (by kernel_rfl) ?_
  refine run_ret (ret_of (.v (vI 0)) (by kernel_rfl) ?_)
  rw [h2, List.drop_of_length_le (by omega)]; rfl
def cmpP (p q : Pc) : Int := firstNZ [IntKind.i64.wrap (p.t - q.t), IntKind.i64.wrap (p.c - q.c), IntKind.i64.wrap (p.f - q.f)]
theorem cmp_lt {p q : Pc} (hp : exB p = true) (hq : exB q = true) : (cmpP p q < 0 ↔ ltP p q = true) ∧ (cmpP p q = 0 ↔ p = q) := by
  rw [ex_iff] at hp hq
  rw [cmpP, w64 _ (by omega) (by omega), w64 _ (by omega) (by omega), w64 _ (by omega) (by omega), lt_iff]
  have e : p = q ↔ p.t = q.t ∧ p.c = q.c ∧ p.f = q.f := by cases p; cases q; simp
  rw [e]
  simp only [firstNZ]
  repeat' split
  all_goals omega
theorem f27 (p q : Pc) : FCall Try.prog 27 [.agg (encPc p), .agg (encPc q)] (.v (vI (cmpP p q))) := by
  have c43 := f43 [IntKind.i64.wrap (p.t - q.t), IntKind.i64.wrap (p.c - q.c), IntKind.i64.wrap (p.f - q.f)] (by simp)
  refine fcall_of Try.func27 rfl (by kernel_rfl) (fun B hB => ?_)
  refine reg mix [(0, .imm), (1, .imm)] [] (by kernel_rfl) ?_
  refine reg mix [(15, .frz 3 (elI [IntKind.i64.wrap (p.t - q.t), IntKind.i64.wrap (p.c - q.c), IntKind.i64.wrap (p.f - q.f)])), (16, hcon c43)] [pf ((⟨rfl, fun i hi => by
    match i, hi with
    | 0, _ => rfl
    | 1, _ => rfl
    | 2, _ => rfl⟩) : 3 = 3 ∧ ∀ i, i < 3 → elI [IntKind.i64.wrap (p.t - q.t), IntKind.i64.wrap (p.c - q.c), IntKind.i64.wrap (p.f - q.f)] i = [[cI (IntKind.i64.wrap (p.t - q.t))], [cI (IntKind.i64.wrap (p.c - q.c))], [cI (IntKind.i64.wrap (p.f - q.f))]].getD i []), pf c43] (by kernel_rfl) ?_
  exact run_ret (ret_of (.v (vI (cmpP p q))) (by kernel_rfl) rfl)
end Go.Proofs.Ytaaplpbjjnechaa
