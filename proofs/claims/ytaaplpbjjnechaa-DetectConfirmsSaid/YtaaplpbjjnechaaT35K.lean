import Derived.Test.YtaaplpbjjnechaaT35L
import Derived.Test.YtaaplpbjjnechaaSrtPc
namespace Go.Proofs.Ytaaplpbjjnechaa
open Go.Sym
set_option linter.unusedVariables false
set_option linter.unusedSimpArgs false

/-! ### SortedFunc of a map's keys -/
theorem f25 (D : Ens) (hl : D.length ≤ 1000000) (hok : ∀ e, e ∈ D → exB e.1 = true) : ∃ S : List Pc, S.Perm (D.map (·.1)) ∧ (S.Pairwise fun a b => ltP b a = false) ∧
    FCall Try.prog 25 [.c (.clo 42 [.kptr [.kmap true false (mEn D)] 0]), .c (.clo 27 [])] (.v (lPc S)) := by
  have hk : ∀ s, s ∈ D.map (·.1) → exB s = true := fun s hs => by
    obtain ⟨e, he, rfl⟩ := List.mem_map.1 hs
    exact hok e he
  obtain ⟨S, hS⟩ : ∃ S, S = SrtPc.sortS (D.map (·.1)) hk := ⟨_, rfl⟩
  have hp : S.Perm (D.map (·.1)) := by rw [hS]; exact SrtPc.sortS_perm _ hk
  have hs : S.Pairwise fun a b => ltP b a = false := by rw [hS]; exact SrtPc.sortS_sorted _ hk
  have hlS : S.length = D.length := by rw [hp.length_eq, List.length_map]
  have c41 : FOwn Try.prog 41 [] [.c (.row 0 D.length), .c (.clo 27 [])] [(0, .bag 55 3 (rowPc (D.map (·.1))))] (.tup []) [(0, .row 55 3 (rowPc S))] := by
    refine fown_bag fun css hc => ?_
    obtain ⟨ks, hks, rfl⟩ := perm_rowPc hc
    have hk' : ∀ s, s ∈ ks → exB s = true := fun s h => hk s (hks.mem_iff.1 h)
    have e : SrtPc.sortS ks hk' = S := sorted_perm_eq (((SrtPc.sortS_perm _ hk').trans hks).trans hp.symm) (SrtPc.sortS_sorted _ hk') hs
    have hlk : ks.length = D.length := by rw [hks.length_eq, List.length_map]
    have := SrtPc.sort ks 55 hk' (by omega)
    rw [e, hlk] at this
    exact this
  have c40 := f40 D 42 [.kptr [.kmap true false (mEn D)] 0] (f42 D) hl
  clear hS
  refine ⟨S, hp, hs, ?_⟩
  refine fcall_of Try.func25 rfl (by kernel_rfl) (fun B hB => ?_)
  refine reg0 mix (by kernel_rfl) ?_
  refine run_weaken (wk_mkRow 0 55 3 (by kernel_rfl) (by omega)) ?_ (List.cons_ne_nil _ _)
  refine reg mix [(1, .own [0] [0] (.v (.c (.row 0 D.length))) [(0, .bag 55 3 (rowPc (D.map (·.1))))])] [pf c40] (by kernel_rfl) ?_
  refine reg mix [(2, .own [0] [] (.tup []) [(0, .row 55 3 (rowPc S))])] [pf c41] (by kernel_rfl) ?_
  refine reg0 mix (by kernel_rfl) ?_
  refine frzRow hB 4 0 D.length 55 3 (rowPc S) (elPc S) [] [] (by kernel_rfl) (by kernel_rfl) (by rw [rowPc_len, hlS]) (fun j hj => ?_) (by kernel_rfl) ?_ (List.cons_ne_nil _ _)
  · have : j < S.length := by omega
    simp [rowPc, elPc, List.getD_eq_getElem?_getD, this]
  · refine run_ret (ret_of (.v (.c (.lst 3 D.length (elPc S)))) (by kernel_rfl) ?_)
    rw [lPc, hlS]
end Go.Proofs.Ytaaplpbjjnechaa
