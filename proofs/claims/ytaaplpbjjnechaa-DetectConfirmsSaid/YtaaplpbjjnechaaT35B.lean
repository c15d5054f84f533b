import Derived.Test.YtaaplpbjjnechaaT35A
import Derived.Test.YtaaplpbjjnechaaSymDD
import Derived.Test.YtaaplpbjjnechaaSymX
import Derived.Test.YtaaplpbjjnechaaSymY
namespace Go.Proofs.Ytaaplpbjjnechaa
open Go.Sym
set_option linter.unusedVariables false
set_option linter.unusedSimpArgs false

/-! ### The keys of a map -/
abbrev Ens := List (Pc × Int)
def encEn (x : Pc × Int) : List C × List C := (encPc x.1, [cI x.2])
def mEn (D : Ens) : List (List C × List C) := D.map encEn
theorem mEn_len (D : Ens) : (mEn D).length = D.length := by simp [mEn]
theorem mEn_at {D : Ens} {i : Nat} (h : i < D.length) : (mEn D).getD i ([], []) = encEn (D.getD i (zPc, 0)) := by simp [mEn, List.getD_eq_getElem?_getD, h]
theorem keyPc : KeyTy Try.prog 55 true [.int .i64, .int .i64, .int .i64] := keyTy_of 3 (by kernel_rfl) (by omega) (by kernel_rfl)
theorem f42 (D : Ens) : NIter Try.prog 42 [.kptr [.kmap true false (mEn D)] 0] ((mEn D).map fun e => [entCV true e.1]) :=
  niter_keys (mt := 53) (kt := 55) (et := 3) (z := .agg #[.int .i64 0, .int .i64 0, .int .i64 0]) Try.func42 (by kernel_rfl) rfl rfl rfl (by kernel_rfl) ⟨rfl, rfl⟩ ⟨rfl, rfl⟩ ⟨rfl, rfl⟩ ⟨rfl, rfl⟩ ⟨rfl, rfl⟩ ⟨rfl, rfl⟩ ⟨rfl, rfl⟩ ⟨rfl, rfl⟩ ⟨rfl, rfl⟩ ⟨rfl, rfl⟩ ⟨_, rfl, rfl⟩ ⟨_, rfl, rfl⟩
    (by kernel_rfl) (by kernel_rfl) (by kernel_rfl) (by kernel_rfl) (by kernel_rfl) (by kernel_rfl) (by kernel_rfl) (by kernel_rfl) fun j hj => by
      rw [mEn_len] at hj
      rw [mEn_at hj]; kernel_rfl
theorem f26 (D : Ens) : FCall Try.prog 26 [.c (.kmap true false (mEn D))] (.v (.c (.clo 42 [.kptr [.kmap true false (mEn D)] 0]))) := by
  refine fcall_of Try.func26 rfl (by kernel_rfl) (fun B hB => ?_)
  refine reg mix [(0, .imm)] [] (by kernel_rfl) ?_
  refine reg0 mix (by kernel_rfl) ?_
  exact run_ret (ret_of _ (by kernel_rfl) rfl)

/-! ### Collect -/
def kcs : List CV → List C
  | [.agg cs] => cs
  | _ => []
def rowPc (l : List Pc) : List (List C) := l.map encPc
theorem rowPc_len (l : List Pc) : (rowPc l).length = l.length := by simp [rowPc]
def kz (D : Ens) : List (List CV) := (mEn D).map fun e => [entCV true e.1]
theorem kz_len (D : Ens) : (kz D).length = D.length := by simp [kz, mEn]
theorem kz_row (D : Ens) : (kz D).map kcs = rowPc (D.map (·.1)) := by simp [kz, mEn, rowPc, encEn, entCV, kcs]
theorem kz_mem {D : Ens} {x : List CV} (h : x ∈ kz D) : ∃ p : Pc, x = [.agg (encPc p)] := by
  simp only [kz, mEn, List.map_map, List.mem_map] at h
  obtain ⟨y, _, rfl⟩ := h
  exact ⟨y.1, rfl⟩
def coK (n : Nat) (css : List (List C)) : S := mkO 13 14 [(2, .b (.v (.c (.ptr 2 0))))] [(2, .pcells [.row 0 n]), (0, .row 55 3 css)]
def coQ (n : Nat) (css : List (List C)) : S := mkO 13 14 [(2, .pin 2 (.v (.c (.ptr 2 0))))] [(2, .pcells [.row 0 n]), (0, .row 55 3 css)]
theorem f47 (D : Ens) (g : FuncId) (caps : List C) (hg : NIter Try.prog g caps (kz D)) (hl : D.length ≤ 1000000) :
    FOwn Try.prog 47 [0] [.c .nil, .c (.clo g caps)] [(0, .row 55 3 [])] (.v (.c (.row 0 D.length))) [(0, .bag 55 3 (rowPc (D.map (·.1))))] := by
  refine fown_of 14 Try.func47 rfl (by kernel_rfl) ⟨by kernel_rfl, by kernel_rfl, by kernel_rfl, by kernel_rfl, by kernel_rfl, by kernel_rfl, by kernel_rfl⟩ (fun n o hh h => ?_) (by kernel_rfl) (fun B hB hBf => ?_)
  · simp only [List.mem_singleton, Prod.mk.injEq] at h
    rw [h.2]; rfl
  refine run_weaken (wkSlim [0, 1] [0] (by kernel_rfl)) ?_ (List.cons_ne_nil _ _)
  refine reg0 mix (by kernel_rfl) ?_
  refine reg0 mix (by kernel_rfl) ?_
  refine run_weaken (wk_nilCell 2 0 0 55 3 [.nil] (by kernel_rfl) (by kernel_rfl) (by kernel_rfl) (by omega)) ?_ (List.cons_ne_nil _ _)
  refine rBlock ?_
  refine rRangeN hB hBf (by kernel_rfl) hg (fun x hx => by obtain ⟨p, rfl⟩ := kz_mem hx; rfl) (fun pre => coK pre.length (pre.map kcs)) (wkTo [2] [] (by kernel_rfl)) (fun _ => by kernel_rfl) ?_ ?_
  · intro pre x hx B1
    obtain ⟨p, rfl⟩ : ∃ p : Pc, x = [.agg (encPc p)] := by
      obtain ⟨rest, hr⟩ := hx
      exact kz_mem (hr.mem_iff.1 (by simp))
    have hpl : pre.length ≤ 1000000 := by
      obtain ⟨rest, hr⟩ := hx
      have := hr.length_eq
      rw [kz_len] at this
      simp at this; omega
    refine reg0 mix (by kernel_rfl) ?_
    refine run_nil ⟨rfl, by kernel_rfl, fun B2 => ?_⟩
    refine rBlock ?_
    refine reg mix [] [pf ((by simp) : pre.length = (pre.map kcs).length), pf ((by omega) : (pre.length + 1) * 25 ≤ 140737488355328), pf (rfl : 1 = [encPc p].length)] (by kernel_rfl) ?_
    refine run_nil (blockR_normal (run_nil ⟨coQ (pre.length + 1) (pre.map kcs ++ [encPc p]), wkTo [2] [5, 10] (by kernel_rfl), by kernel_rfl, ?_⟩))
    have e : coK (pre ++ ([[CV.agg (encPc p)]] : List (List CV))).length ((pre ++ ([[CV.agg (encPc p)]] : List (List CV))).map kcs) = coK (pre.length + 1) (pre.map kcs ++ [encPc p]) := by simp [kcs]
    show Wk Try.prog _ (coK (pre ++ ([[CV.agg (encPc p)]] : List (List CV))).length ((pre ++ ([[CV.agg (encPc p)]] : List (List CV))).map kcs))
    rw [e]
    exact Wk.refl _
  · intro pre hp
    have e1 : pre.length = D.length := by rw [hp.length_eq, kz_len]
    have e2 : (pre.map kcs).Perm (rowPc (D.map (·.1))) := by rw [← kz_row]; exact hp.map kcs
    rw [e1]
    generalize pre.map kcs = css at e2
    refine run_nil (blockR_normal ?_)
    refine reg0 mix (by kernel_rfl) ?_
    refine run_weaken (wk_bag 0 55 3 (rowPc (D.map (·.1))) css (by kernel_rfl) e2) ?_ (List.cons_ne_nil _ _)
    exact run_ret (ownEndsO 4 _ (.inl rfl) (by kernel_rfl) (by kernel_rfl) ⟨by kernel_rfl, .inl rfl, trivial⟩)
theorem f40 (D : Ens) (g : FuncId) (caps : List C) (hg : NIter Try.prog g caps (kz D)) (hl : D.length ≤ 1000000) :
    FOwn Try.prog 40 [0] [.c (.clo g caps)] [(0, .row 55 3 [])] (.v (.c (.row 0 D.length))) [(0, .bag 55 3 (rowPc (D.map (·.1))))] := by
  refine fown_of 8 Try.func40 rfl (by kernel_rfl) ⟨by kernel_rfl, by kernel_rfl, by kernel_rfl, by kernel_rfl, by kernel_rfl, by kernel_rfl, by kernel_rfl⟩ (fun n o hh h => ?_) (by kernel_rfl) (fun B hB hBf => ?_)
  · simp only [List.mem_singleton, Prod.mk.injEq] at h
    rw [h.2]; rfl
  refine reg0 mix (by kernel_rfl) ?_
  refine reg mix [(1, .own [0] [0] (.v (.c (.row 0 D.length))) [(0, .bag 55 3 (rowPc (D.map (·.1))))])] [pf (f47 D g caps hg hl)] (by kernel_rfl) ?_
  exact run_ret (ownEndsO 2 _ (.inl rfl) (by kernel_rfl) (by kernel_rfl) ⟨by kernel_rfl, .inl rfl, trivial⟩)
end Go.Proofs.Ytaaplpbjjnechaa
