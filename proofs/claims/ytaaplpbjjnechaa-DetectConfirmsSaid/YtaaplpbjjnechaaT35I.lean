import Derived.Test.YtaaplpbjjnechaaT35A
import Derived.WalkKit
import Derived.Deep.LoopGhost
import Derived.Sort.Grow
namespace Go.Proofs.Ytaaplpbjjnechaa
open Go.Sym Go.RowKit Go.Sort
set_option linter.unusedVariables false
set_option linter.unusedSimpArgs false

theorem walk43 (b : Nat) (x y z : Int) (W : World) (hx : W.cell? ⟨b, 0, none⟩ = some (.int .i64 x)) (hy : W.cell? ⟨b, 1, none⟩ = some (.int .i64 y)) (hz : W.cell? ⟨b, 2, none⟩ = some (.int .i64 z)) :
    Calls Try.prog 43 #[.slice (some ⟨b, 0, none⟩) 3 3] W fun e w' => e = .returned (.int .i64 (firstNZ [x, y, z])) ∧ w' = W := by
  go_enter Try.func43, Try.ntmps43
  go_wp2
  go_loopg [5, 8] 3 (fun gg _ s8 wr => ∃ kk : Nat, kk ≤ 3 ∧ 3 - kk ≤ gg ∧ s8 = .int .i64 kk ∧ wr = W ∧ Aside ((0 < kk → x = 0) ∧ (1 < kk → y = 0) ∧ (2 < kk → z = 0)))
  case atStart => exact ⟨0, by omega, by omega, rfl, rfl, by intro h; omega, by intro h; omega, by intro h; omega⟩
  case round =>
    obtain ⟨kk, hkk, hg, rfl, rfl, A⟩ := hrel
    rcases (by omega : kk = 0 ∨ kk = 1 ∨ kk = 2 ∨ kk = 3) with rfl | rfl | rfl | rfl
    · go_wp2
      · go_ret
        rename_i hh
        have hh : x ≠ 0 := by simpa using hh
        simp [firstNZ, hh]
      · go_roundg 2
        case measure => omega
        case rel => exact ⟨1, by omega, by omega, by go_num, rfl, (show Aside _ from ⟨fun _ => by simp_all, fun h => by omega, fun h => by omega⟩)⟩
    · have h0 := A.out.1 (by omega)
      go_wp2
      · go_ret
        rename_i hh
        have hh : y ≠ 0 := by simpa using hh
        simp [firstNZ, h0, hh]
      · go_roundg 1
        case measure => omega
        case rel => exact ⟨2, by omega, by omega, by go_num, rfl, (show Aside _ from ⟨fun _ => h0, fun _ => by simp_all, fun h => by omega⟩)⟩
    · have h0 := A.out.1 (by omega)
      have h1 := A.out.2.1 (by omega)
      go_wp2
      · go_ret
        simp [firstNZ, *]
      · go_roundg 0
        case measure => omega
        case rel => exact ⟨3, by omega, by omega, by go_num, rfl, (show Aside _ from ⟨fun _ => h0, fun _ => h1, fun _ => by simp_all⟩)⟩
    · have h0 := A.out.1 (by omega)
      have h1 := A.out.2.1 (by omega)
      have h2 := A.out.2.2 (by omega)
      go_wp2
      go_ret
      simp [firstNZ, *]
theorem walk27 (p q : Pc) (W : World) : Calls Try.prog 27 #[.agg #[.int .i64 p.t, .int .i64 p.c, .int .i64 p.f], .agg #[.int .i64 q.t, .int .i64 q.c, .int .i64 q.f]] W fun e w' => e = .returned (.int .i64 (cmpP p q)) ∧ ∃ n os', w' = grow (W.drewN n) os' := by
  go_enter Try.func27, Try.ntmps27
  go_wp2_with (go_at_call 43; refine (walk43 _ (IntKind.i64.wrap (p.t - q.t)) (IntKind.i64.wrap (p.c - q.c)) (IntKind.i64.wrap (p.f - q.f)) _ ?_ ?_ ?_).mono ?_)
  case refine_4 =>
    rintro e w' ⟨rfl, rfl⟩
    go_wp2
    go_ret
    exact ⟨rfl, 0, _, by rw [alloc_eq_grow, alloc_eq_grow, alloc_eq_grow, grow_grow, grow_grow]; rfl⟩
  all_goals (rw [World.cell?_alloc_at _ _ _ _ (by simp)]; simp [IntKind.wrap_i64, wrap64])
end Go.Proofs.Ytaaplpbjjnechaa
