import Derived.Test.YtakaeaekeeoicaaT19B
import Derived.Test.YtakaeaekeeoicaaShl
import Derived.WalkKit
namespace Go.Proofs.Ytakaeaekeeoicaa
open Go.Sym Go.Sort Go.RowKit Go.Shelf
set_option linter.unusedVariables false
set_option linter.unusedSimpArgs false

/-! ### slices.SortFunc at spans: the shelf's contract in the layer's words -/
structure OkS where
  val : Sp
  property : wrong val = false
instance : Inhabited OkS := ⟨⟨zSp, by decide⟩⟩
theorem OkS.bounds (x : OkS) : -39399 ≤ x.val.frm ∧ x.val.til ≤ 39399 ∧ x.val.frm ≤ x.val.til := by
  have := x.property
  simp only [wrong, Bool.or_eq_false_iff, decide_eq_false_iff_not] at this
  omega
def vSp (x : OkS) : List Value := [.int .i64 x.val.frm, .int .i64 x.val.til]
def cfS (x y : OkS) : Int := x.val.til - y.val.til
theorem ltS_true {x y : OkS} : ltOf cfS x y = true ↔ x.val.til < y.val.til := by
  unfold ltOf cfS
  rw [decide_eq_true_eq]; omega
theorem ltS_false {x y : OkS} : ltOf cfS x y = false ↔ y.val.til ≤ x.val.til := by
  unfold ltOf cfS
  rw [decide_eq_false_iff_not]; omega
theorem swoS : SWO (ltOf cfS) where
  irrefl := fun x => ltS_false.2 (Int.le_refl _)
  trans := fun x y z h1 h2 => ltS_true.2 (Int.lt_trans (ltS_true.1 h1) (ltS_true.1 h2))
  ntrans := fun x y z h1 h2 => ltS_false.2 (Int.le_trans (ltS_false.1 h2) (ltS_false.1 h1))
theorem walk24 (a b c d : Int) (W : World) : Calls Try.prog 24 #[.agg #[.int .i64 a, .int .i64 b], .agg #[.int .i64 c, .int .i64 d]] W fun e w' => e = .returned (.int .i64 (IntKind.i64.wrap (b - d))) ∧ ∃ q os', w' = grow (W.drewN q) os' := by
  go_enter Try.func24, Try.ntmps24
  go_wp2
  go_ret
  exact ⟨by simp [IntKind.wrap_i64, wrap64], 0, _, by rw [alloc_eq_grow, alloc_eq_grow, grow_grow]; rfl⟩
theorem cmp24 (blk off size : Nat) (w : World) : CmpLays Try.prog 24 #[] vSp 2 cfS blk off size w := fun _ _ _ _ x y => by
  have h := walk24 x.val.frm x.val.til y.val.frm y.val.til
  have e : IntKind.i64.wrap (x.val.til - y.val.til) = cfS x y := by
    have h1 := x.bounds
    have h2 := y.bounds
    rw [cfS, w64 _ (by omega) (by omega)]
  rw [e] at h
  exact h _
def okArr (cs : List Sp) (h : ∀ s, s ∈ cs → wrong s = false) : Array OkS := (cs.pmap OkS.mk h).toArray
theorem okArr_size {cs : List Sp} {h : ∀ s, s ∈ cs → wrong s = false} : (okArr cs h).size = cs.length := by rw [okArr, List.size_toArray, List.length_pmap]
theorem pmap_val : ∀ (cs : List Sp) (h : ∀ s, s ∈ cs → wrong s = false), (cs.pmap OkS.mk h).map (fun x : OkS => x.val) = cs
  | [], _ => rfl
  | s :: cs, h => by rw [List.pmap_cons, List.map_cons, pmap_val cs]
theorem okArr_val {cs : List Sp} {h : ∀ s, s ∈ cs → wrong s = false} : (okArr cs h).toList.map (fun x : OkS => x.val) = cs := pmap_val cs h
def pdS (d : Array OkS) : Array OkS := pdq (ltOf cfS) d 0 d.size (Lib.bitLen d.size) true true
def rowSp (l : List Sp) : List (List C) := l.map encSp
theorem rowSp_len (l : List Sp) : (rowSp l).length = l.length := by simp [rowSp]
theorem rowSp_mem {l : List Sp} : ∀ c, c ∈ rowSp l → c.length = 2 := by
  intro c hc
  simp only [rowSp, List.mem_map] at hc
  obtain ⟨s, _, rfl⟩ := hc
  rfl
theorem rowSp_at {l : List Sp} {i : Nat} (h : i < l.length) : (rowSp l).getD i [] = encSp (l.getD i zSp) := by
  simp [rowSp, List.getD_eq_getElem?_getD, h]
/-- The spans of a list, sorted by their ends as the library sorts them. -/
def sortSp (cs : List Sp) (h : ∀ s, s ∈ cs → wrong s = false) : List Sp := (pdS (okArr cs h)).toList.map (fun x : OkS => x.val)
theorem pdS_facts (d : Array OkS) : PermIn 0 d.size d (pdS d) ∧ SortedIn (ltOf cfS) 0 d.size (pdS d) :=
  pdq_sorts (ltOf cfS) swoS d 0 d.size (Lib.bitLen d.size) true true (Nat.zero_le _) (Nat.le_refl _) (Or.inl rfl)
theorem pdS_size (d : Array OkS) : (pdS d).size = d.size := (pdS_facts d).1.1
theorem sortSp_len (cs : List Sp) (h : ∀ s, s ∈ cs → wrong s = false) : (sortSp cs h).length = cs.length := by
  rw [sortSp, List.length_map, Array.length_toList, pdS_size, okArr_size]
theorem sortSp_perm (cs : List Sp) (h : ∀ s, s ∈ cs → wrong s = false) : (sortSp cs h).Perm cs := by
  have h1 := (pdS_facts (okArr cs h)).1.2.2
  have e1 : ((okArr cs h).extract 0 (okArr cs h).size).toList = (okArr cs h).toList := by simp
  have e2 : ((pdS (okArr cs h)).extract 0 (okArr cs h).size).toList = (pdS (okArr cs h)).toList := by rw [← pdS_size]; simp
  rw [e1, e2] at h1
  have h2 := h1.map (fun x : OkS => x.val)
  rw [okArr_val] at h2
  exact h2
theorem sortSp_sorted (cs : List Sp) (h : ∀ s, s ∈ cs → wrong s = false) : (sortSp cs h).Pairwise fun a b => a.til ≤ b.til := by
  rw [List.pairwise_iff_getElem]
  intro i j hi hj hij
  rw [sortSp_len] at hi hj
  have h1 := (pdS_facts (okArr cs h)).2 i j (Nat.zero_le _) hij (by rw [okArr_size]; exact hj)
  have h2 := ltS_false.1 h1
  have hs := pdS_size (okArr cs h)
  rw [okArr_size] at hs
  simp only [sortSp, List.getElem_map, Array.getElem_toList]
  rw [getElem!_pos _ i (by omega), getElem!_pos _ j (by omega)] at h2
  exact h2
theorem flat_at (d : Array OkS) {i j : Nat} (hi : i < d.size) (hj : j < 2) : (flatK vSp 2 d).getD (i * 2 + j) undef = (vSp d[i]!)[j]! := by
  have lt : i * 2 + j < d.size * 2 := by omega
  have h := get_flatK vSp 2 d (i * 2 + j) lt
  rw [show (i * 2 + j) / 2 = i by omega, show (i * 2 + j) % 2 = j by omega] at h
  rw [← h]
  have : i * 2 + j < (flatK vSp 2 d).size := by rw [size_flatK]; exact lt
  rw [getElem!_pos (flatK vSp 2 d) (i * 2 + j) this]
  unfold Array.getD
  rw [dif_pos this]; rfl
theorem val_at {d : Array OkS} {i : Nat} (hi : i < d.size) : (d.toList.map (fun x : OkS => x.val)).getD i zSp = (d[i]!).val := by
  rw [getElem!_pos _ i hi]
  simp [List.getD_eq_getElem?_getD, hi]
theorem flat_rel (K : Know) (d : Array OkS) : RelLK K (rowSp (d.toList.map (fun x : OkS => x.val))).flatten (flatK vSp 2 d) := by
  refine rel_flat (sz := 2) (by omega) rowSp_mem (by rw [size_flatK, rowSp_len]; simp) (fun i j hi hj => ?_)
  rw [rowSp_len] at hi
  have hi' : i < d.size := by simpa using hi
  rw [flat_at d hi' hj, rowSp_at hi, val_at hi']
  match j, hj with
  | 0, _ => exact ⟨RelK.int _ _, rfl⟩
  | 1, _ => exact ⟨RelK.int _ _, rfl⟩
theorem vals_flat {K : Know} {d : Array OkS} {xs : List Value} (h : RelLK K (rowSp (d.toList.map (fun x : OkS => x.val))).flatten xs.toArray) : xs = (flatK vSp 2 d).toList := by
  have hl : (rowSp (d.toList.map (fun x : OkS => x.val))).flatten.length = d.size * 2 := by rw [flatten_length _ 2 rowSp_mem, rowSp_len]; simp
  have hx : xs.length = d.size * 2 := by have := h.1; rw [hl] at this; simpa using this
  refine List.ext_getElem (by rw [hx]; simp) fun t h1 h2 => ?_
  obtain ⟨i, j, hj, rfl⟩ : ∃ i j, j < 2 ∧ t = i * 2 + j := ⟨t / 2, t % 2, by omega, by omega⟩
  have hi : i < d.size := by omega
  have hr := (h.2 (i * 2 + j) (by rw [hl]; omega)).1
  rw [flatten_getD _ 2 rowSp_mem i j (by rw [rowSp_len]; simpa using hi) hj, rowSp_at (by simpa using hi), val_at hi] at hr
  have e1 : xs.toArray.getD (i * 2 + j) undef = xs[i * 2 + j] := by simp [h1]
  have e2 : (flatK vSp 2 d).toList[i * 2 + j] = (vSp d[i]!)[j]! := by
    rw [← flat_at d hi hj]
    have : i * 2 + j < (flatK vSp 2 d).size := by rw [size_flatK]; omega
    unfold Array.getD
    rw [dif_pos this]; rfl
  rw [e1] at hr
  rw [e2]
  generalize xs[i * 2 + j] = u at hr
  match j, hj with
  | 0, _ => cases hr; rfl
  | 1, _ => cases hr; rfl

/-! Rows of values, as the kit has them for integers. -/
theorem holds_of_blockV {w : World} {g : Nat} {cur : Array Value} {e : TypeId} {vs : Array Value} (hb : w.heap[g]? = some (.cells cur e (0, 0))) (ht : cur.toList.take vs.size = vs.toList) : Holds (id : Value → Value) w g 0 vs := by
  intro j hj
  refine ⟨?_, by simp [World.frozen?, hb]⟩
  have h1 : (cur.toList.take vs.size)[j]? = vs.toList[j]? := by rw [ht]
  rw [List.getElem?_take_of_lt hj] at h1
  simp only [World.cell?, hb, Nat.zero_add]
  simp only [Option.isSome_none, Bool.false_eq_true, if_false]
  rw [← Array.getElem?_toList, h1, id, getElem!_pos _ j hj]
  simp [hj]
theorem heap_sortedV {w : World} {g n : Nat} {os : Array Obj} {cur : Array Value} {e : TypeId} {fr : Nat × Nat} (d : Array Value) (hb : w.heap[g]? = some (.cells cur e fr)) :
    (grow (putRow id (Sort.ahead w n) g 0 d) os).heap[g]? = some (.cells (putCells id 0 d cur) e fr) := by
  have hg : g < w.heap.size := (Array.getElem?_eq_some_iff.1 hb).1
  rw [heap_grow_old _ _ (by simpa using hg)]
  simp [putRow, mapBlock, Sort.ahead, Array.getElem?_modify, hb, onCells]
theorem grownBy_sortedV {w : World} {g n : Nat} {os : Array Obj} (d : Array Value) : w.grownBy (grow (putRow id (Sort.ahead w n) g 0 d) os) (some g) := by
  refine ⟨rfl, rfl, rfl, by simp, fun k hk hne => ?_⟩
  rw [heap_grow_old _ _ (by simpa using hk)]
  have : g ≠ k := fun e => hne (by rw [e])
  simp [putRow, mapBlock, Sort.ahead, Array.getElem?_modify, this]
theorem take_putCellsV (cur : Array Value) (d : Array Value) (h : d.size ≤ cur.size) : (putCells id 0 d cur).toList.take d.size = d.toList := by
  apply List.ext_getElem?
  intro j
  by_cases hj : j < d.size
  · rw [List.getElem?_take_of_lt hj, Array.getElem?_toList]
    simp [putCells, hj, show j < cur.size by omega]
  · rw [List.getElem?_take_eq_none (by omega), List.getElem?_eq_none (by simp; omega)]

theorem f23 (cs : List Sp) (e : Nat) (h : ∀ s, s ∈ cs → wrong s = false) (hn : cs.length ≤ 1000000) :
    FOwn Try.prog 23 [] [.c (.row 0 cs.length), .c (.clo 24 [])] [(0, .row e 2 (rowSp cs))] (.tup []) [(0, .row e 2 (rowSp (sortSp cs h)))] := by
  refine ⟨⟨_, Try.func23, by kernel_rfl, by kernel_rfl⟩, fun E w vs hK hat hsz hrel => ?_⟩
  have hu : Rel E (.row 0 cs.length) (vs.getD 0 undef) := (hrel 0 (by simp)).1
  have hf : RelK E.K (.clo 24 []) (vs.getD 1 undef) := (hrel 1 (by simp)).1
  obtain ⟨u, v, rfl⟩ : ∃ u v, vs = #[u, v] := by
    have : vs.size = 2 := by simpa using hsz
    exact ⟨vs[0], vs[1], by
      apply Array.ext
      · simp [this]
      · intro i hi _
        match i, (by omega : i < 2) with
        | 0, _ => rfl
        | 1, _ => rfl⟩
  have hv : v = .func (.func 24) #[] #[] := by
    have hf' : RelK E.K (.clo 24 []) v := hf
    cases hf' with
    | clo _ _ cvs h1 h2 h3 =>
      have : cvs = #[] := Array.eq_empty_of_size_eq_zero (by simpa using h1)
      rw [this]
  subst hv
  have hu : Rel E (.row 0 (rowSp cs).length) u := by rw [rowSp_len]; exact hu
  obtain ⟨hs1, hl, hrw, xs, hown, hrl⟩ := own_row_in hat hu
  have tupR : ∀ (K' : Know) (rw' : Nat → Option (Value × Nat)), RelSB (E.upd K' rw') (.tup []) (.tuple #[]) := fun _ _ => ⟨#[], rfl, rfl, fun j hj => by simp at hj⟩
  have hl' : (rowSp (sortSp cs h)).length = (rowSp cs).length := by rw [rowSp_len, rowSp_len, sortSp_len]
  rcases hown.2 with ⟨hnil, hz⟩ | ⟨g, cap, cur, hv, hb, hg, hnc, hm, hs, ht⟩
  · subst hnil
    have hz0 : cs = [] := by rw [rowSp_len] at hz; exact List.eq_nil_of_length_eq_zero hz
    subst hz0
    refine (AnyF.slices_SortFunc_none Try.sortSp none 0 (.func (.func 24) #[] #[]) w).mono ?_
    rintro en w' ⟨rfl, rfl⟩
    have e0 : sortSp [] h = [] := List.eq_nil_of_length_eq_zero (by rw [sortSp_len]; rfl)
    refine ⟨E.K, _, _, rfl, own_row_out (hid := []) (css' := rowSp (sortSp [] h)) (u' := .slice none 0 0) hK hat hrw hs1 rowSp_mem (World.grownBy_refl _ _) (xs' := []) ?_ (by rw [e0]; exact ⟨rfl, fun j hj => by simp [rowSp] at hj⟩) rfl (.inr (by rw [hl'])), tupR _ _⟩
    rw [e0]; exact World.ownsRow_nil _ 0 e 2
  · subst hv
    have hlt : g < w.heap.size := (Array.getElem?_eq_some_iff.1 hg).1
    have hcs := okArr_val (cs := cs) (h := h)
    have hds : (okArr cs h).size = cs.length := okArr_size
    have hxs : xs = (flatK vSp 2 (okArr cs h)).toList := vals_flat (K := E.K) (by rw [hcs]; exact hrl)
    rw [rowSp_len] at hnc ht
    have hfs : (flatK vSp 2 (okArr cs h)).size = cs.length * 2 := by rw [size_flatK, hds]
    have hH : HoldsK vSp 2 w g 0 (okArr cs h) := holds_of_blockV hg (by rw [hfs, ht, hxs])
    rw [rowSp_len]
    have hcall := AnyQ.slices_SortFunc_eq Try.sortSp 2 Try.isAgg34 Try.sizeOf34 vSp (fun _ => rfl) (fun x v hv => by
      simp only [vSp, List.mem_cons, List.not_mem_nil, or_false] at hv
      rcases hv with rfl | rfl <;> rfl) cfS swoS 24 #[] g 0 cap (okArr cs h) w (enters_of Try.func24 (by kernel_rfl) rfl) (cmp24 g 0 _ w) hH hlt (by rw [hds]; omega)
    rw [hds] at hcall
    refine hcall.mono ?_
    rintro en w' ⟨rfl, n, os, rfl⟩
    have hpd : pdq (ltOf cfS) (okArr cs h) 0 cs.length (Lib.bitLen cs.length) true true = pdS (okArr cs h) := by rw [pdS, hds]
    rw [hpd]
    have hps : (pdS (okArr cs h)).size = cs.length := by rw [pdS_size, hds]
    have hfp : (flatK vSp 2 (pdS (okArr cs h))).size = cs.length * 2 := by rw [size_flatK, hps]
    refine ⟨E.K, _, _, rfl, own_row_out (hid := []) (css' := rowSp (sortSp cs h)) (u' := .slice (some ⟨g, 0, none⟩) (rowSp cs).length cap) (xs' := (flatK vSp 2 (pdS (okArr cs h))).toList) hK hat hrw hs1 rowSp_mem (grownBy_sortedV _) ?_ (flat_rel _ _) rfl (.inr (by rw [hl'])), tupR _ _⟩
    rw [hl', rowSp_len]
    have hmul : cs.length * 2 ≤ cap * 2 := Nat.mul_le_mul_right _ hnc
    refine ⟨by rw [Array.length_toList, hfp], .inr ⟨g, cap, _, rfl, hb, heap_sortedV _ hg, hnc, hm, by simp [putCells, hs], ?_⟩⟩
    rw [← hfp]
    exact take_putCellsV cur _ (by rw [hfp, hs]; exact hmul)
end Go.Proofs.Ytakaeaekeeoicaa
