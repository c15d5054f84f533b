import Derived.Test.YtaaplpbjjnechaaT35R
import Derived.Test.YtaaplpbjjnechaaT35N
namespace Go.Proofs.Ytaaplpbjjnechaa
open Go.Sym
set_option linter.unusedVariables false
set_option linter.unusedSimpArgs false

/-! ### detect.Add -/
theorem ins_found {l : List Ta} {p : Pc} (h : fndT l p = true) : posT l p < l.length ∧ insT l p = l.set (posT l p) (upT (taAt l (posT l p))) := by
  simp only [fndT, Bool.and_eq_true, decide_eq_true_eq] at h
  exact ⟨h.1, by rw [insT, if_pos ⟨h.1, by rw [h.2]; exact ltP_irrefl⟩]⟩
theorem ins_absent {l : List Ta} {p : Pc} (h : fndT l p = false) : insT l p = insAt l (posT l p) (oneT p) := by
  rw [insT, if_neg, insAt]
  rintro ⟨h1, h2⟩
  have := ltP_tri (posT_ge h1) h2
  simp [fndT, h1, this] at h
def ad17 (d : De) (n : Nat) (css : List (List C)) : S := mkS 50 [(3, .b (.v (.c (.kptr (encDe d) 0)))), (6, .b (.v (.c (.row 5 n))))] [(5, .row 37 4 css)]
theorem f17 (l : List Ta) (d : De) (hl : l.length ≤ 1000000) : FCall Try.prog 17 [lTa l, .agg (encDe d)] (.tup [lTa (addR l d).1, vI (addR l d).2]) := by
  have c30 := f30 l hl
  have c23 := f23 d
  refine fcall_of Try.func17 rfl (by kernel_rfl) (fun B hB => ?_)
  refine reg mix [(0, .imm)] [] (by kernel_rfl) ?_
  refine regI mix [(1, hcon c30), (5, hcon c23)] [pf (fun _ : true = true => c30), pf (fun _ : (!(!okTs l)) = true => c23)] (by kernel_rfl) ?_
  refine rCond (!okTs l || !okDe d) (by kernel_rfl) (fun h => ?_) (fun h => ?_)
  · refine reg0 mix (by kernel_rfl) ?_
    refine run_weaken (wk_nilLst 4 4 (elTa []) (by kernel_rfl)) ?_ (List.cons_ne_nil _ _)
    refine run_ret (ret_of (.tup [lTa [], vI 1]) (by kernel_rfl) ?_)
    rw [addR, if_neg (by rintro ⟨a, b⟩; rw [a, b] at h; cases h)]
  have hv : okTs l = true ∧ okDe d = true := by simpa using h
  have hO := okTs_iff.1 hv.1
  have hlen := hO.len
  have ha : addR l d = if okTs (insT l d.pl) = true then (insT l d.pl, 0) else ([], 2) := by rw [addR, if_pos hv]
  have hil := insT_len l d.pl
  rw [ha]
  have c31 := f31 l hl
  have c24 := f24 d
  have c32 := (f32 l d.pl hO (ok_iff.1 hv.2).1).ren (fun _ => 5) ⟨by kernel_rfl, by kernel_rfl, by kernel_rfl, by kernel_rfl, by kernel_rfl, by kernel_rfl, by kernel_rfl⟩
  have c35 := (f35 l (posT l d.pl) (oneT d.pl) (by omega) (posT_le l d.pl)).ren (fun n => bif Nat.beq n 0 then 5 else 44) ⟨by kernel_rfl, by kernel_rfl, by kernel_rfl, by kernel_rfl, by kernel_rfl, by kernel_rfl, by kernel_rfl⟩
  have hrl := (rowTa_len l).symm
  have hfo := @ins_found l d.pl
  have hab := @ins_absent l d.pl
  have hpl := posT_le l d.pl
  have c36 := f30 (insT l d.pl) (by omega)
  generalize insT l d.pl = r at *
  generalize hpos : posT l d.pl = p at *
  generalize fndT l d.pl = f at *
  refine run_weaken (wk_mkRow 5 37 4 (by kernel_rfl) (by omega)) ?_ (List.cons_ne_nil _ _)
  refine reg mix [(1, .own [5] [5] (.v (.c (.row 5 l.length))) [(5, .row 37 4 (rowTa l))])] [pf c31] (by kernel_rfl) ?_
  refine reg mix [(2, hcon c24), (3, .own [5] [] (.tup [vI p, vB f]) [(5, .row 37 4 (rowTa l))])] [pf c24, pf c32] (by kernel_rfl) ?_
  refine reg0 mix (by kernel_rfl) ?_
  refine rJoin (fun _ : Unit => ad17 d r.length (rowTa r)) (fun _ => True) (List.cons_ne_nil _ _) ?_ ?_
  · refine rCond f (by kernel_rfl) (fun hf => ?_) (fun hf => ?_)
    · obtain ⟨h1, h2⟩ := hfo hf
      have qa : QAt (p : Int) l.length (rowTa l) := ⟨⟨by omega, by omega⟩, hrl⟩
      have qe : QEl l.length (Int.toNat (p : Int)) (rowTa l) (encTa (taAt l p)) := ⟨⟨hrl, h1⟩, rowTa_at h1⟩
      refine reg mix [(4, .frz 0 (fun _ => encTa (taAt l p))), (8, .frz 0 (fun _ => encTa (taAt l p)))] [pf qa, pf hrl, pf qe, pf qa, pf hrl, pf qe] (by kernel_rfl) ?_
      refine run_nil (joined () trivial ?_)
      rw [h2, List.length_set, ← rowTa_set]
      exact wkTo [3, 6] [] (by kernel_rfl)
    · have h2 := hab hf
      refine reg mix [(10, .own [5, 44] [5] (.v (.c (.row 5 (l.length + 1)))) [(5, .row 37 4 (rowTa (insAt l p (oneT d.pl)))), (44, .row 37 4 [encTa (oneT d.pl)])])] [pf c35] (by kernel_rfl) ?_
      refine run_nil (joined () trivial ?_)
      rw [h2, insAt_len hpl]
      exact wkTo [3, 6] [44] (by kernel_rfl)
  rintro _ _
  refine frzRow hB 6 5 r.length 37 4 (rowTa r) (elTa r) [] [] (by kernel_rfl) (by kernel_rfl) (rowTa_len _).symm (fun j hj => by simp [rowTa, elTa, List.getD_eq_getElem?_getD, hj]) (by kernel_rfl) ?_ (List.cons_ne_nil _ _)
  refine regC mix [(1, con c36)] (by kernel_rfl) ?_
  refine rCond (!okTs r) (by kernel_rfl) (fun h => ?_) (fun h => ?_)
  · refine reg0 mix (by kernel_rfl) ?_
    refine run_weaken (wk_nilLst 4 4 (elTa []) (by kernel_rfl)) ?_ (List.cons_ne_nil _ _)
    refine run_ret (ret_of (.tup [lTa [], vI 2]) (by kernel_rfl) ?_)
    rw [if_neg (by simpa using h)]
  · refine reg0 mix (by kernel_rfl) ?_
    refine run_ret (ret_of (.tup [lTa r, vI 0]) (by kernel_rfl) ?_)
    rw [if_pos (by simpa using h)]
end Go.Proofs.Ytaaplpbjjnechaa
