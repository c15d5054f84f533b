import Derived.Test.YtaaplpbjjnechaaT35G
import Derived.WalkKit
import Derived.Deep.RegionLaw
import Derived.Shelf.Spec.SlicesInsertGrow
import Derived.Laws.CopyRow
import Derived.Test.YtaaplpbjjnechaaSymFF
namespace Go.Proofs.Ytaaplpbjjnechaa
set_option linter.unusedVariables false
set_option linter.unusedSimpArgs false
section
open Go.Sym Go.RowKit Go.Lib

/-! ### slices.Insert of one element -/
theorem run_copy_rowk {P : Program} (k : Nat) (w : World) (dT sT ty elem : TypeId) (g o dLen dCap : Nat) (a : Addr) (sLen sCap : Nat) (cur : Array Value) (t : TypeId) (cs : List Value)
    (hu : P.underlying dT = some (.slice elem)) (hs : (P.info? elem).map (·.size) = some k)
    (hg : w.heap[g]? = some (.cells cur t (0, 0))) (hn : cs.length = Nat.min sLen dLen * k)
    (hsrc : ∀ j v, cs[j]? = some v → w.cell? (a.add j) = some v) (hfit : o + cs.length ≤ cur.size) (h1 : ∀ v ∈ cs, v.oneCell' = true) :
    (Builtin.copy_ #[dT, sT] ty #[.slice (some ⟨g, o, none⟩) dLen dCap, .slice (some a) sLen sCap]).run P w =
      .ok (goInt (Nat.min sLen dLen)) (w.setRow g (cur.toList.take o ++ cs ++ cur.toList.drop (o + cs.length)).toArray) := by
  have hl := run_loadCells_list (P := P) w a cs hsrc
  have hst := run_storeCells_at P g o t cs 0 cur w hg (by simpa using hfit) h1
  rw [hn] at hl
  cases hq : P.info? elem with
  | none => simp [hq] at hs
  | some i =>
    have hi : i.size = k := by simpa [hq] using hs
    simp [Builtin.copy_, run_underlying hu, Builtin.lenOf, Builtin.firstCells, sizeOf, typeInfo, hq, hi, hl, hst]
theorem hsz37 : (Try.prog.info? 37).map (·.size) = some 4 := by kernel_rfl
set_option maxHeartbeats 4000000 in
set_option maxRecDepth 100000 in
theorem ins_shift (g n c i vb vc : Nat) (cur : Array Value) (xs vs : List Value) (w : World) (hi : i < n) (hroom : n + 1 ≤ c) (hc63 : c ≤ 9223372036854775807) (hvb : vb ≠ g)
    (hg : w.heap[g]? = some (.cells cur 37 (0, 0))) (hcs : cur.size = c * 4) (hvl : vs.length = 4) (hxl : xs.length = n * 4) (htk : cur.toList.take (n * 4) = xs)
    (curv : Array Value) (hgv : w.heap[vb]? = some (.cells curv 37 (0, 0))) (htv : curv.toList.take 4 = vs)
    (h1c : ∀ v ∈ xs, v.oneCell' = true) (h1v : ∀ v ∈ vs, v.oneCell' = true)
    (cur1 cur2 : Array Value) (hcur1 : cur1 = (cur.toList.take ((i + 1) * 4) ++ xs.drop (i * 4) ++ cur.toList.drop ((i + 1) * 4 + (xs.drop (i * 4)).length)).toArray) (hcur2 : cur2 = (cur1.toList.take (i * 4) ++ vs ++ cur1.toList.drop (i * 4 + vs.length)).toArray) :
    Calls Try.prog 35 #[.slice (some ⟨g, 0, none⟩) n c, .int .i64 i, .slice (some ⟨vb, 0, none⟩) 1 vc] w fun e w' =>
      e = .returned (.slice (some ⟨g, 0, none⟩) (n + 1) c) ∧ (w'.os = w.os ∧ w'.tape = w.tape ∧ w'.output = w.output) ∧
      w'.heap = ((w.setRow g cur1).setRow g cur2).heap := by
  have hz2 : ¬ ((i : Int) = (n : Int)) := by omega
  have hdl : (xs.drop (i * 4)).length = (n - i) * 4 := by rw [List.length_drop, hxl]; omega
  have hc1s : cur1.size = c * 4 := by rw [hcur1]; simp; omega
  have hov : ∀ lb cb, (callFunc 45 #[.slice (some ⟨vb, 0, none⟩) 1 vc, .slice (some ⟨g, (i + 1) * 4, none⟩) lb cb]).run Try.prog w = .ok (.value (.bool false)) w := fun lb cb => by
    rw [run_callFunc_extern Try.func45 (by kernel_rfl) (by kernel_rfl) (by kernel_rfl) (e := Extern.SlicesOverlaps.overlaps #[33, 33] #[4]) (by kernel_rfl),
      Lib.run_overlaps_apart w 33 4 37 Try.underlying33 4 Try.sizeOf37 ⟨vb, 0, none⟩ ⟨g, (i + 1) * 4, none⟩ 1 vc lb cb hvb 37 37 curv.size cur.size (by simp [World.shape?, hgv]) (by simp [World.shape?, hg]) (by omega) (by simp [World.frozen?, hgv]) (by simp [World.frozen?, hgv])]
    rfl
  have hm1 : Nat.min (n + 1 - i) (n - i) = n - i := by simp only [Nat.min_def]; split <;> omega
  have hm2 : Nat.min 1 (n + 1 - i) = 1 := by simp only [Nat.min_def]; split <;> omega
  have hcp1 : ∀ W : World, W.heap = w.heap → ∀ ty dc sc, (Builtin.copy_ #[33, 33] ty #[.slice (some ⟨g, (i + 1) * 4, none⟩) (n - i) dc, .slice (some ⟨g, i * 4, none⟩) (n + 1 - i) sc]).run Try.prog W = .ok (goInt ((n - i : Nat) : Int)) (W.setRow g cur1) := fun W hW ty dc sc => by
    have h := run_copy_rowk (P := Try.prog) 4 W 33 33 ty 37 g ((i + 1) * 4) (n - i) dc ⟨g, i * 4, none⟩ (n + 1 - i) sc cur 37 (xs.drop (i * 4)) Try.underlying33 hsz37 (by rw [hW]; exact hg)
      (by rw [hdl, hm1])
      (fun j v hj => by
        rw [Addr.add_lit]
        simp only [World.cell?, hW, hg, Option.isSome_none, Bool.false_eq_true, if_false]
        rw [List.getElem?_drop, ← htk, List.getElem?_take] at hj
        split at hj
        · rw [← Array.getElem?_toList]; exact hj
        · cases hj) (by rw [hdl]; omega) (fun v hv => h1c v (List.mem_of_mem_drop hv))
    rw [hm1, ← hcur1] at h
    exact h
  have hcp2 : ∀ W : World, W.heap = (w.setRow g cur1).heap → ∀ ty dc, (Builtin.copy_ #[33, 33] ty #[.slice (some ⟨g, i * 4, none⟩) (n + 1 - i) dc, .slice (some ⟨vb, 0, none⟩) 1 vc]).run Try.prog W = .ok (goInt 1) (W.setRow g cur2) := fun W hW ty dc => by
    have h := run_copy_rowk (P := Try.prog) 4 W 33 33 ty 37 g (i * 4) (n + 1 - i) dc ⟨vb, 0, none⟩ 1 vc cur1 37 vs Try.underlying33 hsz37 (by rw [hW]; exact setRow_heap w g cur cur1 37 _ hg)
      (by rw [hvl, hm2])
      (fun j v hj => by
        rw [Addr.add_lit]
        have hb : W.heap[vb]? = some (.cells curv 37 (0, 0)) := by
          rw [hW, World.setRow, Array.getElem?_modify, if_neg (fun e => hvb e.symm)]; exact hgv
        simp only [World.cell?, hb, Option.isSome_none, Bool.false_eq_true, if_false, Nat.zero_add]
        rw [← htv, List.getElem?_take] at hj
        split at hj
        · rw [← Array.getElem?_toList]; exact hj
        · cases hj) (by rw [hvl]; omega) h1v
    rw [hm2, ← hcur2] at h
    exact h
  have hw1 : IntKind.i64.wrap ((i : Int) + 1) = (i : Int) + 1 := w64 _ (by omega) (by omega)
  have hb1 : (0 : Int) ≤ (i : Int) + 1 := by omega
  have hin : i ≤ n := by omega
  have htn : ((i : Int) + 1).toNat = i + 1 := by omega
  have hb2 : ¬ (c = i + 1) := by omega
  have hb3 : (i : Int) ≤ (n : Int) + 1 := by omega
  have hb4 : ¬ (c = i) := by omega
  clear hg hgv htk htv hcs hdl hc1s hcur1 hcur2 hm1 hm2 hvl hxl
  have mixed := mix
  go_enter Try.func35, Try.ntmps35
  go_wp2_with (simp only [hov])
  have hr1 := hcp1 w.drew rfl 3 (c - (i + 1)) (c - i)
  go_region
  have hr2 := hcp2 (w.drew.setRow g cur1) rfl 3 (c - i)
  go_wp2_with (at_builtin; refine wpList_copy_runI _ rfl _ _ 33 33 rfl _ _ rfl rfl hr2 ?_)
  go_ret
  exact ⟨rfl, ⟨rfl, rfl, rfl⟩, rfl⟩
theorem info37 : ∃ i : TypeInfo, Try.prog.info? 37 = some i ∧ i.zero = some (.agg #[.int .i64 0, .int .i64 0, .int .i64 0, .int .i64 0]) ∧ i.size = 4 ∧ i.bytes = 32 := by
  obtain ⟨i, h1, h2, h3, h4⟩ := info_of (P := Try.prog) (e := 37) (z := .agg #[.int .i64 0, .int .i64 0, .int .i64 0, .int .i64 0]) (by kernel_rfl)
  exact ⟨i, h1, h2, by rw [h3]; kernel_rfl, by rw [h4]; kernel_rfl⟩
set_option maxHeartbeats 4000000 in
set_option maxRecDepth 100000 in
theorem ins_end (hd : Value) (n vb vc : Nat) (xs vs : List Value) (w : World) (hn : n ≤ 1000000) (hown : w.ownsRow 0 37 4 hd n xs) (hvl : vs.length = 4)
    (curv : Array Value) (hgv : w.heap[vb]? = some (.cells curv 37 (0, 0))) (htv : curv.toList.take 4 = vs) (h1v : ∀ v ∈ vs, v.oneCell' = true) :
    Calls Try.prog 35 #[hd, .int .i64 n, .slice (some ⟨vb, 0, none⟩) 1 vc] w fun e w' =>
      ∃ v', e = .returned v' ∧ w'.ownsRow 0 37 4 v' (n + 1) (xs ++ vs) ∧ w.grownBy w' hd.ownBlock ∧ (v'.ownBlock = hd.ownBlock ∨ v'.ownBlock = some w.heap.size) := by
  obtain ⟨i0, hi0, hz0, hs0, hb0⟩ := info37
  have hcells : ∀ j u, vs[j]? = some u → w.cell? ((⟨vb, 0, none⟩ : Addr).add j) = some u := fun j u hj => by
    rw [Addr.add_lit]
    simp only [World.cell?, hgv, Option.isSome_none, Bool.false_eq_true, if_false, Nat.zero_add]
    rw [← htv, List.getElem?_take] at hj
    split at hj
    · rw [← Array.getElem?_toList]; exact hj
    · cases hj
  obtain ⟨v', w', hr, h2, h3, _⟩ := run_append_own (P := Try.prog) w 0 33 33 37 i0 _ 4 32 Try.underlying33 hi0 hz0 hs0 hb0 rfl (by omega) hd n xs hown ⟨vb, 0, none⟩ 1 vc vs (by rw [hvl]) hcells h1v (by unfold maxLen; omega) (by omega) (Nat.zero_le _)
  have h5 := append_block Try.underlying33 hi0 hz0 hs0 hb0 hown (a := ⟨vb, 0, none⟩) (k := 1) (c := vc) (news := vs) (by rw [hvl]) hcells h1v (by unfold maxLen; omega) (by omega) hr
  have H : Hid (w'.ownsRow 0 37 4 v' (n + 1) (xs ++ vs) ∧ w.grownBy w' hd.ownBlock ∧ (v'.ownBlock = hd.ownBlock ∨ v'.ownBlock = some w.heap.size)) := ⟨h2, h3, h5⟩
  rcases hown.2 with ⟨rfl, rfl⟩ | ⟨g, cap, cur, rfl, _, _, hnc, hm, _, _⟩
  · clear h2 h3 h5 hown hgv htv hcells
    have mixed := mix
    go_enter Try.func35, Try.ntmps35
    go_wp2_with (at_builtin; refine Lib.wpList_append_run _ rfl _ _ _ _ rfl _ _ rfl rfl _ _ hr ?_)
    all_goals (go_ret; exact ⟨v', rfl, H⟩)
  · have hc63 : cap ≤ 9223372036854775807 := by unfold maxLen at hm; omega
    clear h2 h3 h5 hown hgv htv hcells hm
    have mixed := mix
    go_enter Try.func35, Try.ntmps35
    go_wp2_with (at_builtin; refine Lib.wpList_append_run _ rfl _ _ _ _ rfl _ _ rfl rfl _ _ hr ?_)
    all_goals (go_ret; exact ⟨v', rfl, H⟩)
theorem zero4_size (n : Nat) : (Builtin.zeroCells (Value.agg #[.int .i64 0, .int .i64 0, .int .i64 0, .int .i64 0]).cells n).size = n * 4 := by
  simp [Builtin.zeroCells, Value.cells]
set_option maxHeartbeats 4000000 in
set_option maxRecDepth 100000 in
theorem ins_grow (g n c i vb vc : Nat) (cur : Array Value) (xs vs : List Value) (w : World) (hi : i < n) (hnc : n ≤ c) (hroom : c < n + 1) (hn : n ≤ 1000000)
    (hg : w.heap[g]? = some (.cells cur 37 (0, 0))) (hcs : cur.size = c * 4) (hvl : vs.length = 4) (hxl : xs.length = n * 4) (htk : cur.toList.take (n * 4) = xs)
    (curv : Array Value) (hgv : w.heap[vb]? = some (.cells curv 37 (0, 0))) (htv : curv.toList.take 4 = vs)
    (h1c : ∀ v ∈ xs, v.oneCell' = true) (h1v : ∀ v ∈ vs, v.oneCell' = true) (G : Nat) (hG : G = grownCap w (n + 1) c 37) (ROW cur1 cur2 : Array Value)
    (hROW : ROW = (xs.take (i * 4)).toArray ++ Builtin.zeroCells (Value.agg #[.int .i64 0, .int .i64 0, .int .i64 0, .int .i64 0]).cells (n + 1 - i) ++ Builtin.zeroCells (Value.agg #[.int .i64 0, .int .i64 0, .int .i64 0, .int .i64 0]).cells (G - (n + 1)))
    (hcur1 : cur1 = (ROW.toList.take (i * 4) ++ vs ++ ROW.toList.drop (i * 4 + vs.length)).toArray)
    (hcur2 : cur2 = (cur1.toList.take ((i + 1) * 4) ++ xs.drop (i * 4) ++ cur1.toList.drop ((i + 1) * 4 + (xs.drop (i * 4)).length)).toArray) :
    Calls Try.prog 35 #[.slice (some ⟨g, 0, none⟩) n c, .int .i64 i, .slice (some ⟨vb, 0, none⟩) 1 vc] w fun e w' =>
      e = .returned (.slice (some ⟨w.heap.size, 0, none⟩) (n + 1) G) ∧ (w'.os = w.os ∧ w'.tape = w.tape ∧ w'.output = w.output) ∧
      w'.heap = (((w.alloc (.cells ROW 37)).setRow w.heap.size cur1).setRow w.heap.size cur2).heap := by
  obtain ⟨i0, hi0, hz0, hs0, hb0⟩ := info37
  have hgw : g < w.heap.size := (Array.getElem?_eq_some_iff.1 hg).1
  have hvw : vb < w.heap.size := (Array.getElem?_eq_some_iff.1 hgv).1
  have hGn : n + 1 ≤ G := by rw [hG]; exact grownCap_ge w _ _ _
  have hG63 : G ≤ 9223372036854775807 := by
    have := grownCap_le_maxLen w (n + 1) c 37 (by unfold maxLen; omega)
    rw [← hG] at this
    unfold maxLen at this
    omega
  have hRs : ROW.size = G * 4 := by
    rw [hROW, Array.size_append, Array.size_append, zero4_size, zero4_size]; simp; omega
  have hc1s : cur1.size = G * 4 := by rw [hcur1]; simp; omega
  have hdl : (xs.drop (i * 4)).length = (n - i) * 4 := by rw [List.length_drop, hxl]; omega
  have hz2 : ¬ ((i : Int) = (n : Int)) := by omega
  have hz3 : (c : Int) < (n : Int) + 1 := by omega
  have hkk : (n : Int) + 1 - (i : Int) = ((n + 1 - i : Nat) : Int) := by omega
  have hik : i + (n + 1 - i) = n + 1 := by omega
  have hold : (Builtin.firstCells i0.size i (.slice (some ⟨g, 0, none⟩) i c)).run Try.prog w.drew = .ok (xs.take (i * 4)).toArray w.drew := by
    rw [hs0]
    exact run_firstCells_some w.drew 4 i ⟨g, 0, none⟩ i c (xs.take (i * 4)) (by rw [List.length_take, hxl]; omega) (fun j v hj => by
      rw [Addr.add_lit]
      have hg' : w.drew.heap[g]? = some (.cells cur 37 (0, 0)) := hg
      simp only [World.cell?, hg', Option.isSome_none, Bool.false_eq_true, if_false, Nat.zero_add]
      rw [← htk, List.take_take, List.getElem?_take] at hj
      split at hj
      · rw [← Array.getElem?_toList]; exact hj
      · cases hj)
  have hrz : ∀ ty, (Builtin.append_ #[33, 3] ty #[.slice (some ⟨g, 0, none⟩) i c, .int .i64 ((n : Int) + 1 - (i : Int))]).run Try.prog w =
      .ok (.slice (some ⟨w.heap.size, 0, none⟩) (n + 1) G) (w.drew.alloc (.cells ROW 37)) := fun ty => by
    have h := Lib.run_append_grow_zeros (P := Try.prog) w 33 3 ty 37 i0 _ .i64 .i64 Try.underlying33 Try.underlying3 hi0 hz0 (some ⟨g, 0, none⟩) i c (xs.take (i * 4)) hold (n + 1 - i) (by omega) (by omega) (by omega) (by omega) (by rw [hb0]; omega) (by rw [hb0, hik]; exact growslice_fits hroom (by omega))
    rw [hik, ← hG, ← hROW] at h
    rw [hkk]
    exact h
  have hm1 : Nat.min (n - i) (n - i) = n - i := by simp only [Nat.min_def]; split <;> omega
  have hm2 : Nat.min 1 (n + 1 - i) = 1 := by simp only [Nat.min_def]; split <;> omega
  have hgN : g ≠ w.heap.size := by omega
  have hvN : vb ≠ w.heap.size := by omega
  have hnew : (w.alloc (.cells ROW 37)).drew.heap[w.heap.size]? = some (.cells ROW 37 (0, 0)) := heap_alloc_new w _
  have hcpA : (Builtin.copy_ #[33, 33] 3 #[.slice (some ⟨w.heap.size, i * 4, none⟩) (n + 1 - i) (G - i), .slice (some ⟨vb, 0, none⟩) 1 vc]).run Try.prog (w.alloc (.cells ROW 37)).drew = .ok (goInt 1) ((w.alloc (.cells ROW 37)).drew.setRow w.heap.size cur1) := by
    have h := run_copy_rowk (P := Try.prog) 4 (w.alloc (.cells ROW 37)).drew 33 33 3 37 w.heap.size (i * 4) (n + 1 - i) (G - i) ⟨vb, 0, none⟩ 1 vc ROW 37 vs Try.underlying33 hsz37 hnew (by rw [hvl, hm2])
      (fun j v hj => by
        rw [Addr.add_lit]
        have hb : (w.alloc (.cells ROW 37)).drew.heap[vb]? = some (.cells curv 37 (0, 0)) := (heap_alloc_old w _ vb hvw).trans hgv
        simp only [World.cell?, hb, Option.isSome_none, Bool.false_eq_true, if_false, Nat.zero_add]
        rw [← htv, List.getElem?_take] at hj
        split at hj
        · rw [← Array.getElem?_toList]; exact hj
        · cases hj) (by rw [hvl]; omega) h1v
    rw [hm2, ← hcur1] at h
    exact h
  have hcpB : (Builtin.copy_ #[33, 33] 3 #[.slice (some ⟨w.heap.size, (i + 1) * 4, none⟩) (n - i) (G - (i + 1)), .slice (some ⟨g, i * 4, none⟩) (n - i) (c - i)]).run Try.prog ((w.alloc (.cells ROW 37)).drew.setRow w.heap.size cur1).drew = .ok (goInt ((n - i : Nat) : Int)) ((((w.alloc (.cells ROW 37)).drew.setRow w.heap.size cur1).drew).setRow w.heap.size cur2) := by
    have hN1 : (((w.alloc (.cells ROW 37)).drew.setRow w.heap.size cur1).drew).heap[w.heap.size]? = some (.cells cur1 37 (0, 0)) := setRow_heap _ w.heap.size ROW cur1 37 _ hnew
    have h := run_copy_rowk (P := Try.prog) 4 ((w.alloc (.cells ROW 37)).drew.setRow w.heap.size cur1).drew 33 33 3 37 w.heap.size ((i + 1) * 4) (n - i) (G - (i + 1)) ⟨g, i * 4, none⟩ (n - i) (c - i) cur1 37 (xs.drop (i * 4)) Try.underlying33 hsz37 hN1 (by rw [hdl, hm1])
      (fun j v hj => by
        rw [Addr.add_lit]
        have hb : (((w.alloc (.cells ROW 37)).drew.setRow w.heap.size cur1).drew).heap[g]? = some (.cells cur 37 (0, 0)) := by
          show ((w.alloc (.cells ROW 37)).drew.setRow w.heap.size cur1).heap[g]? = _
          rw [World.setRow, Array.getElem?_modify, if_neg (fun e => hgN e.symm)]
          exact (heap_alloc_old w _ g hgw).trans hg
        simp only [World.cell?, hb, Option.isSome_none, Bool.false_eq_true, if_false]
        rw [List.getElem?_drop, ← htk, List.getElem?_take] at hj
        split at hj
        · rw [← Array.getElem?_toList]; exact hj
        · cases hj) (by rw [hdl]; omega) (fun v hv => h1c v (List.mem_of_mem_drop hv))
    rw [hm1, ← hcur2] at h
    exact h
  have hrz := hrz 33
  have hw1 : IntKind.i64.wrap ((i : Int) + 1) = (i : Int) + 1 := w64 _ (by omega) (by omega)
  have hb1 : (0 : Int) ≤ (i : Int) + 1 := by omega
  have hin : i ≤ n := by omega
  have htn : ((i : Int) + 1).toNat = i + 1 := by omega
  have hb3 : (i : Int) ≤ (n : Int) := by omega
  have hGi : ¬ (G = i) := by omega
  have hGim : ¬ (G = i + 1) := by omega
  have hci : ¬ (c = i) := by omega
  clear hkk hik hold hROW hG hcur1 hcur2 hm1 hm2 hnew hgv htv hg htk hcs hdl hc1s hRs hvl hxl hs0 hb0 hz0 hi0 hgw hvw
  have mixed := mix
  go_enter Try.func35, Try.ntmps35
  go_wp2_with (first
    | (at_builtin; refine Lib.wpList_append_run _ rfl _ _ _ _ rfl _ _ rfl rfl _ _ hrz ?_)
    | (at_builtin; refine wpList_copy_runI _ rfl _ _ 33 33 rfl _ _ rfl rfl hcpA ?_))
  go_region
  go_wp2
  go_ret
  exact ⟨rfl, ⟨rfl, rfl, rfl⟩, rfl⟩
end
section
open Go.Sym Go.RowKit

/-! ### slices.Insert, in the layer's words -/
theorem setRow_at {w : World} {g : Nat} {old cs : Array Value} {t : TypeId} (h : w.heap[g]? = some (.cells old t (0, 0))) : (w.setRow g cs).heap[g]? = some (.cells cs t (0, 0)) := setRow_heap w g old cs t _ h
theorem setRow_ne {w : World} {g k : Nat} {cs : Array Value} (h : g ≠ k) : (w.setRow g cs).heap[k]? = w.heap[k]? := by rw [World.setRow, Array.getElem?_modify, if_neg h]
theorem setRow_sz {w : World} {g : Nat} {cs : Array Value} : (w.setRow g cs).heap.size = w.heap.size := by simp [World.setRow]
theorem take_ins {cur : List Value} {xs vs : List Value} {i n : Nat} (hi : i < n) (hx : cur.take (n * 4) = xs) (hxl : xs.length = n * 4) (hv : vs.length = 4) (hc : (n + 1) * 4 ≤ cur.length) :
    ((cur.take ((i + 1) * 4) ++ xs.drop (i * 4) ++ cur.drop ((i + 1) * 4 + (xs.drop (i * 4)).length)).take (i * 4) ++ vs ++ (cur.take ((i + 1) * 4) ++ xs.drop (i * 4) ++ cur.drop ((i + 1) * 4 + (xs.drop (i * 4)).length)).drop (i * 4 + vs.length)).take ((n + 1) * 4) = xs.take (i * 4) ++ vs ++ xs.drop (i * 4) := by
  have hd : (xs.drop (i * 4)).length = (n - i) * 4 := by rw [List.length_drop, hxl]; omega
  have ht : (cur.take ((i + 1) * 4)).length = (i + 1) * 4 := by rw [List.length_take]; omega
  have e1 : (cur.take ((i + 1) * 4) ++ xs.drop (i * 4) ++ cur.drop ((i + 1) * 4 + (xs.drop (i * 4)).length)).take (i * 4) = xs.take (i * 4) := by
    rw [List.append_assoc, List.take_append_of_le_length (by omega), List.take_take, Nat.min_eq_left (by omega), ← hx, List.take_take, Nat.min_eq_left (by omega)]
  have e2 : (cur.take ((i + 1) * 4) ++ xs.drop (i * 4) ++ cur.drop ((i + 1) * 4 + (xs.drop (i * 4)).length)).drop (i * 4 + vs.length) = xs.drop (i * 4) ++ cur.drop ((i + 1) * 4 + (xs.drop (i * 4)).length) := by
    rw [List.append_assoc, List.drop_append, List.drop_of_length_le (by omega), ht, show i * 4 + vs.length - (i + 1) * 4 = 0 by omega, List.drop_zero, List.nil_append]
  rw [e1, e2, ← List.append_assoc, List.take_append_of_le_length (by simp; omega), List.take_of_length_le (by simp; omega)]
theorem take_ins2 {R xs vs : List Value} {i n : Nat} (hi : i < n) (hx : R.take (i * 4) = xs.take (i * 4)) (hxl : xs.length = n * 4) (hv : vs.length = 4) (hc : (n + 1) * 4 ≤ R.length) :
    ((R.take (i * 4) ++ vs ++ R.drop (i * 4 + vs.length)).take ((i + 1) * 4) ++ xs.drop (i * 4) ++ (R.take (i * 4) ++ vs ++ R.drop (i * 4 + vs.length)).drop ((i + 1) * 4 + (xs.drop (i * 4)).length)).take ((n + 1) * 4) = xs.take (i * 4) ++ vs ++ xs.drop (i * 4) := by
  have hd : (xs.drop (i * 4)).length = (n - i) * 4 := by rw [List.length_drop, hxl]; omega
  have ht : (xs.take (i * 4)).length = i * 4 := by rw [List.length_take]; omega
  have e1 : (R.take (i * 4) ++ vs ++ R.drop (i * 4 + vs.length)).take ((i + 1) * 4) = xs.take (i * 4) ++ vs := by
    rw [hx, List.take_append_of_le_length (by rw [List.length_append]; omega), List.take_of_length_le (by rw [List.length_append]; omega)]
  rw [e1, List.take_append_of_le_length (by simp; omega), List.take_of_length_le (by simp; omega)]
def insAt (l : List Ta) (i : Nat) (x : Ta) : List Ta := l.take i ++ x :: l.drop i
theorem insAt_row (l : List Ta) (i : Nat) (x : Ta) : rowTa (insAt l i x) = (rowTa l).take i ++ encTa x :: (rowTa l).drop i := by
  simp [insAt, rowTa, List.map_take, List.map_drop]
theorem insAt_len {l : List Ta} {i : Nat} {x : Ta} (h : i ≤ l.length) : (insAt l i x).length = l.length + 1 := by simp [insAt]; omega
theorem rowTa_mem {l : List Ta} : ∀ c, c ∈ rowTa l → c.length = 4 := by
  intro c hc
  obtain ⟨x, _, rfl⟩ := List.mem_map.1 hc
  rfl
theorem f35 (l : List Ta) (i : Nat) (x : Ta) (hl : l.length ≤ 999999) (hi : i ≤ l.length) :
    FOwn Try.prog 35 [0] [.c (.row 0 l.length), vI i, .c (.row 1 1)] [(0, .row 37 4 (rowTa l)), (1, .row 37 4 [encTa x])] (.v (.c (.row 0 (l.length + 1)))) [(0, .row 37 4 (rowTa (insAt l i x))), (1, .row 37 4 [encTa x])] := by
  refine ⟨⟨_, Try.func35, by kernel_rfl, by kernel_rfl⟩, fun E w vs hK hat hsz hrel => ?_⟩
  have hu : Rel E (.row 0 l.length) (vs.getD 0 undef) := (hrel 0 (by simp)).1
  have hi' : RelK E.K (cI i) (vs.getD 1 undef) := (hrel 1 (by simp)).1
  have hv : Rel E (.row 1 1) (vs.getD 2 undef) := (hrel 2 (by simp)).1
  obtain ⟨u, k, v, rfl⟩ : ∃ u k v, vs = #[u, k, v] := by
    have : vs.size = 3 := by simpa using hsz
    exact ⟨vs[0], vs[1], vs[2], by
      apply Array.ext
      · simp [this]
      · intro i hi _
        match i, (by omega : i < 3) with
        | 0, _ => rfl
        | 1, _ => rfl
        | 2, _ => rfl⟩
  have hk : k = .int .i64 i := by
    have h : RelK E.K (cI i) k := hi'
    cases h; rfl
  subst hk
  have hu : Rel E (.row 0 (rowTa l).length) u := by rw [rowTa_len]; exact hu
  have hv : Rel E (.row 1 [encTa x].length) v := hv
  obtain ⟨hs1, hl1, hrw, xs, hown, hrl⟩ := own_row_in2 List.mem_cons_self hat hu
  obtain ⟨hs2, hl2, hrw2, ys, hown2, hrl2⟩ := own_row_in2 (List.mem_cons_of_mem _ List.mem_cons_self) hat hv
  have h1c : ∀ v ∈ xs, v.oneCell' = true := by simpa using oneCells_of hrl
  have h1v : ∀ v ∈ ys, v.oneCell' = true := by simpa using oneCells_of hrl2
  have hyl : ys.length = 4 := hown2.1
  have hxl : xs.length = l.length * 4 := by have := hown.1; rwa [rowTa_len] at this
  have hrn : RelLK E.K (rowTa (insAt l i x)).flatten (xs.take (i * 4) ++ ys ++ xs.drop (i * 4)).toArray := by
    rw [insAt_row]
    exact rel_ins rowTa_mem hrl (by simpa using hrl2)
  rcases hown2.2 with ⟨_, h0⟩ | ⟨vb, vc, curv, rfl, _, hgv, _, _, hcvs, htv⟩
  · cases h0
  have htv : curv.toList.take 4 = ys := htv
  have hlen : (rowTa (insAt l i x)).length = l.length + 1 := by rw [rowTa_len, insAt_len hi]
  have fin : ∀ (u' : Value) (w' : World), w'.ownsRow 0 37 4 u' (l.length + 1) (xs.take (i * 4) ++ ys ++ xs.drop (i * 4)) → w.grownBy w' u.ownBlock → (∀ b, u'.ownBlock = some b → u.ownBlock = some b ∨ (w.heap.size ≤ b ∧ b < w'.heap.size)) →
      ∃ K' rw' v, Ending.returned u' = .returned v ∧ OwnOut [0] E [(0, .row 37 4 (rowTa (insAt l i x))), (1, .row 37 4 [encTa x])] w K' rw' w' ∧ RelSB (E.upd K' rw') (.v (.c (.row 0 (l.length + 1)))) v := fun u' w' h1 h2 h3 =>
    ⟨E.K, _, u', rfl, own_row_out2 hK hat (by omega) hrw hs1 rowTa_mem h2 (by rw [hlen]; exact h1) hrn h3 rfl, ⟨⟨u', (rowTa (insAt l i x)).length, by simp [Env.upd], by rw [hlen]; exact Nat.le_refl _, fun _ => rfl⟩, by
      rcases h1.2 with ⟨rfl, _⟩ | ⟨_, _, _, rfl, _⟩ <;> rfl⟩⟩
  rw [rowTa_len] at hown hrw
  by_cases hin : i = l.length
  · subst hin
    refine (ins_end u l.length vb vc xs ys w (by omega) hown hyl curv hgv htv h1v).mono ?_
    rintro e w' ⟨u', rfl, g1, g2, g3⟩
    have ex : xs.take (l.length * 4) ++ ys ++ xs.drop (l.length * 4) = xs ++ ys := by
      rw [List.take_of_length_le (by omega), List.drop_of_length_le (by omega), List.append_nil]
    refine fin u' w' (by rw [ex]; exact g1) g2 fun b hb => ?_
    rcases g3 with h | h
    · exact .inl (by rw [← h]; exact hb)
    · rw [h] at hb
      cases hb
      refine .inr ⟨Nat.le_refl _, ?_⟩
      have := g1.lt w.heap.size h
      omega
  have hin : i < l.length := by omega
  rcases hown.2 with ⟨_, h0⟩ | ⟨g, c, cur, rfl, _, hg, hnc, hm, hcs, htk⟩
  · omega
  have hgw : g < w.heap.size := (Array.getElem?_eq_some_iff.1 hg).1
  have hvg : vb ≠ g := fun e => by
    subst e
    exact absurd (hat.inj 0 1 vb (.inr (.inr ⟨_, _, hrw, rfl⟩)) (.inr (.inr ⟨_, _, hrw2, rfl⟩))) (by omega)
  have hc63 : c ≤ 9223372036854775807 := by unfold maxLen at hm; omega
  by_cases hroom : l.length + 1 ≤ c
  · refine (ins_shift g l.length c i vb vc cur xs ys w hin hroom hc63 hvg hg hcs hyl hxl htk curv hgv htv h1c h1v _ _ rfl rfl).mono ?_
    rintro e w' ⟨rfl, ⟨ho, htp, hou⟩, hh⟩
    obtain ⟨c1, hc1⟩ : ∃ c1, c1 = (cur.toList.take ((i + 1) * 4) ++ xs.drop (i * 4) ++ cur.toList.drop ((i + 1) * 4 + (xs.drop (i * 4)).length)) := ⟨_, rfl⟩
    have htake := take_ins (cur := cur.toList) hin htk hxl hyl (by rw [show cur.toList.length = c * 4 by simp [hcs]]; exact Nat.mul_le_mul_right _ hroom)
    have hdl : (xs.drop (i * 4)).length = (l.length - i) * 4 := by rw [List.length_drop, hxl]; omega
    refine fin _ w' ?_ ⟨ho, htp, hou, by rw [hh, setRow_sz, setRow_sz]; exact Nat.le_refl _, fun k hk hne => ?_⟩ fun b hb => .inl hb
    · refine ⟨by simp; omega, .inr ⟨g, c, _, rfl, Nat.zero_le _, by rw [hh]; exact setRow_at (setRow_at hg), hroom, hm, ?_, htake⟩⟩
      simp; omega
    · have hne' : g ≠ k := fun e => hne (by rw [← e]; rfl)
      rw [hh, setRow_ne hne', setRow_ne hne']
  · obtain ⟨G, hG⟩ : ∃ G, G = grownCap w (l.length + 1) c 37 := ⟨_, rfl⟩
    have hGn : l.length + 1 ≤ G := by rw [hG]; exact grownCap_ge w _ _ _
    have hGm : G ≤ maxLen := by rw [hG]; exact grownCap_le_maxLen w (l.length + 1) c 37 (by unfold maxLen; omega)
    refine (ins_grow g l.length c i vb vc cur xs ys w hin hnc (by omega) (by omega) hg hcs hyl hxl htk curv hgv htv h1c h1v G hG _ _ _ rfl rfl rfl).mono ?_
    rintro e w' ⟨rfl, ⟨ho, htp, hou⟩, hh⟩
    obtain ⟨R, hR⟩ : ∃ R, R = (xs.take (i * 4)).toArray ++ Builtin.zeroCells (Value.agg #[.int .i64 0, .int .i64 0, .int .i64 0, .int .i64 0]).cells (l.length + 1 - i) ++ Builtin.zeroCells (Value.agg #[.int .i64 0, .int .i64 0, .int .i64 0, .int .i64 0]).cells (G - (l.length + 1)) := ⟨_, rfl⟩
    rw [← hR] at hh
    have hRs : R.size = G * 4 := by
      rw [hR, Array.size_append, Array.size_append, zero4_size, zero4_size]; simp; omega
    have hRt : R.toList.take (i * 4) = xs.take (i * 4) := by
      have hl4 : (xs.take (i * 4)).length = i * 4 := by rw [List.length_take]; omega
      rw [hR, Array.toList_append, Array.toList_append, List.append_assoc, List.take_append_of_le_length (by simp; omega), List.take_of_length_le (by simp; omega)]
    have htake := take_ins2 (R := R.toList) hin hRt hxl hyl (by rw [show R.toList.length = G * 4 by simp [hRs]]; exact Nat.mul_le_mul_right _ hGn)
    have hdl : (xs.drop (i * 4)).length = (l.length - i) * 4 := by rw [List.length_drop, hxl]; omega
    refine fin _ w' ?_ ⟨ho, htp, hou, by rw [hh, setRow_sz, setRow_sz]; simp, fun k hk hne => ?_⟩ fun b hb => .inr ?_
    · refine ⟨by simp; omega, .inr ⟨w.heap.size, G, _, rfl, Nat.zero_le _, by rw [hh]; exact setRow_at (setRow_at (heap_alloc_new w _)), hGn, hGm, ?_, htake⟩⟩
      simp; omega
    · have hne' : w.heap.size ≠ k := by omega
      rw [hh, setRow_ne hne', setRow_ne hne', heap_alloc_old w _ k hk]
    · cases hb
      refine ⟨Nat.le_refl _, ?_⟩
      rw [hh, setRow_sz, setRow_sz]; simp
end
end Go.Proofs.Ytaaplpbjjnechaa
