import Derived.Test.YteefindpimnhdaaT16C
import Derived.Test.YteefindpimnhdaaShl
import Derived.Test.YteefindpimnhdaaSymX
namespace Go.Proofs.Yteefindpimnhdaa
open Go.Sym
set_option linter.unusedVariables false
set_option linter.unusedSimpArgs false

theorem f26 (zs : List Int) (h : zs.length ≤ 1000000) : FOwn Try.prog 26 [] [.c (.row 0 zs.length)] [(0, .row 3 1 (rowI zs))] (.tup []) [(0, .row 3 1 (rowI (sortI zs)))] :=
  fown_sortI ⟨_, Try.func26, by kernel_rfl, by kernel_rfl⟩ (by omega) (fun blk off cap w h1 h2 => Try.slices_Sort_int blk off cap zs w h1 h2 (by omega)) (fun p cap w => Try.slices_Sort_int_none p cap w)
theorem f27 (zs : List Int) (h : zs.length ≤ 1000000) : FOwn Try.prog 27 [0] [.c (.row 0 zs.length)] [(0, .row 3 1 (rowI (sortI zs)))] (.v (.c (.row 0 (srt zs).length))) [(0, .row 3 1 (rowI (srt zs)))] := by
  have := fown_compactI (P := Try.prog) (f := 27) (r := 0) (e := 3) (zs := sortI zs) ⟨_, Try.func27, by kernel_rfl, by kernel_rfl⟩ (by rw [sortI_len]; omega)
    (fun blk off cap w h1 h2 => Try.slices_Compact_int blk off cap (sortI zs) w h1 (by rw [sortI_len]; omega) h2) (fun p cap w => Try.slices_Compact_int_empty p cap w) (Lib.compact_length_le _)
  rw [sortI_len] at this
  exact this
theorem f24 (zs : List Int) (h : zs.length ≤ 1000000) : FOwn Try.prog 24 [0] [.c (.row 0 zs.length)] [(0, .row 3 1 (rowI zs))] (.v (.c (.row 0 (srt zs).length))) [(0, .row 3 1 (rowI (srt zs)))] := by
  refine fown_of 8 Try.func24 rfl (by kernel_rfl) ⟨by kernel_rfl, by kernel_rfl, by kernel_rfl, by kernel_rfl, by kernel_rfl, by kernel_rfl, by kernel_rfl⟩ (fun n o _ h => ?_) (by kernel_rfl) (fun B hB hBf => ?_)
  · simp only [List.mem_singleton, Prod.mk.injEq] at h
    rw [h.2]; rfl
  refine reg0 mix (by kernel_rfl) ?_
  refine reg mix [(1, .own [0] [] (.tup []) [(0, .row 3 1 (rowI (sortI zs)))])] [pf (f26 zs h)] (by kernel_rfl) ?_
  refine reg mix [(1, .own [0] [0] (.v (.c (.row 0 (srt zs).length))) [(0, .row 3 1 (rowI (srt zs)))])] [pf (f27 zs h)] (by kernel_rfl) ?_
  exact run_ret (ownEndsO 2 _ (.inl rfl) (by kernel_rfl) (by kernel_rfl) ⟨by kernel_rfl, .inl rfl, trivial⟩)

/-! ### add -/
def rowSp (l : List Sp) : List (List C) := l.map encSp
theorem rowSp_len (l : List Sp) : (rowSp l).length = l.length := by simp [rowSp]
theorem rowSp_get {l : List Sp} {i : Nat} (h : i < l.length) : (rowSp l).getD i [] = encSp (l.getD i zSp) := by
  simp [rowSp, List.getD_eq_getElem?_getD, h]
def lastSp (l : List Sp) : Sp := l.getD (l.length - 1) zSp
def joins (l : List Sp) (s : Sp) : Bool := decide ((l.length : Int) > 0) && (IntKind.i64.wrap ((lastSp l).til + 1) == s.frm)
def addSp (l : List Sp) (s : Sp) : List Sp := if joins l s then l.set (l.length - 1) ⟨(lastSp l).frm, s.til⟩ else l ++ [s]
theorem addSp_hit {l : List Sp} {s : Sp} (h : joins l s = true) : (addSp l s).length = l.length ∧ (rowSp l).set (l.length - 1) [cI (lastSp l).frm, cI s.til] = rowSp (addSp l s) := by
  rw [addSp, if_pos h]
  exact ⟨by simp, by rw [rowSp, rowSp, List.map_set]; rfl⟩
theorem addSp_miss {l : List Sp} {s : Sp} (h : joins l s = false) : (addSp l s).length = l.length + 1 ∧ rowSp l ++ [encSp s] = rowSp (addSp l s) := by
  rw [addSp, if_neg (by simp [h])]
  exact ⟨by simp, by simp [rowSp]⟩

theorem f25 (l : List Sp) (s : Sp) (hl : l.length ≤ 1000000) : FOwn Try.prog 25 [32] [.agg (encSp s), .c (.ptr 31 0)] [(31, .pcells [.row 32 l.length]), (32, .row 39 2 (rowSp l))] (.tup []) [(31, .pcells [.row 32 (addSp l s).length]), (32, .row 39 2 (rowSp (addSp l s)))] := by
  refine fown_of 33 Try.func25 rfl (by kernel_rfl) ⟨by kernel_rfl, by kernel_rfl, by kernel_rfl, by kernel_rfl, by kernel_rfl, by kernel_rfl, by kernel_rfl⟩ (fun n o hh h => ?_) (by kernel_rfl) (fun B hB hBf => ?_)
  · simp only [List.mem_cons, Prod.mk.injEq, List.not_mem_nil, or_false] at h
    rcases h with ⟨rfl, rfl⟩ | ⟨rfl, rfl⟩
    · cases hh
    · rfl
  refine reg0 mix (by kernel_rfl) ?_
  refine reg mix [] [pf (rowSp_len l).symm] (by kernel_rfl) ?_
  have ew : (l.length : Int) > 0 → IntKind.i64.wrap ((l.length : Int) - 1) = (l.length : Int) - 1 := fun h => w64 _ (by omega) (by omega)
  have en : (l.length : Int) > 0 → (IntKind.i64.wrap ((l.length : Int) - 1)).toNat = l.length - 1 := fun h => by rw [ew h]; omega
  have g0 : (l.length : Int) > 0 → (0 ≤ IntKind.i64.wrap ((l.length : Int) - 1) ∧ IntKind.i64.wrap ((l.length : Int) - 1) < (l.length : Int)) ∧ l.length = (rowSp l).length := fun h => ⟨by rw [ew h]; omega, (rowSp_len l).symm⟩
  have g1 : (l.length : Int) > 0 → (l.length = (rowSp l).length ∧ (IntKind.i64.wrap ((l.length : Int) - 1)).toNat < l.length) ∧ (rowSp l).getD (IntKind.i64.wrap ((l.length : Int) - 1)).toNat [] = encSp (lastSp l) := fun h => by
    rw [en h]
    exact ⟨⟨(rowSp_len l).symm, by omega⟩, rowSp_get (by omega)⟩
  refine regI mix [(8, .frz 0 (fun _ => encSp (lastSp l)))] [pf (fun h : decide ((l.length : Int) > 0) = true => g0 (of_decide_eq_true h)), pf (fun _ : decide ((l.length : Int) > 0) = true => (rowSp_len l).symm), pf (fun h : decide ((l.length : Int) > 0) = true => g1 (of_decide_eq_true h))] (by kernel_rfl) ?_
  refine rCond (joins l s) (by kernel_rfl) (fun h => ?_) (fun h => ?_)
  · have hp : (l.length : Int) > 0 := by simp [joins] at h; omega
    obtain ⟨a1, a2⟩ := addSp_hit h
    rw [← en hp] at a2
    refine reg mix [(7, .frz 0 (fun _ => encSp (lastSp l)))] [pf (g0 hp), pf (rowSp_len l).symm, pf (g1 hp)] (by kernel_rfl) ?_
    rw [a1, ← a2]
    exact run_nil (ownEnds (.inr rfl) (by kernel_rfl) ⟨by kernel_rfl, .inr ⟨1, wit_box 1 0 0 (by kernel_rfl) (by kernel_rfl) rfl⟩, by kernel_rfl, .inl rfl, trivial⟩)
  · obtain ⟨a1, a2⟩ := addSp_miss h
    refine reg mix [] [pf (rowSp_len l).symm, pf (by omega : (l.length + 1) * 17 ≤ 140737488355328), pf (rfl : 1 = [encSp s].length)] (by kernel_rfl) ?_
    rw [a1, ← a2]
    exact run_nil (ownEnds (.inr rfl) (by kernel_rfl) ⟨by kernel_rfl, .inr ⟨1, wit_box 1 0 0 (by kernel_rfl) (by kernel_rfl) rfl⟩, by kernel_rfl, .inl rfl, trivial⟩)

end Go.Proofs.Yteefindpimnhdaa
