import Derived.Test.YtaaplpbjjnechaaT35J
import Derived.Test.YtaaplpbjjnechaaSymW
import Derived.Test.YtaaplpbjjnechaaShl
import Derived.WalkKit
namespace Go.Proofs.Ytaaplpbjjnechaa.SrtPc
open Go.Sym Go.Sort Go.RowKit Go.Shelf Go.Proofs.Ytaaplpbjjnechaa
set_option linter.unusedVariables false
set_option linter.unusedSimpArgs false

/-! slices.SortFunc at Pc (cells are integers, a comparison that asks 'exB'): printed from wip/tmpl/sortf.lean. The base gives: walk27, ltcmp, ltP_irrefl, ltP_trans, ltP_ntr. -/
structure OkS where
  val : Pc
  property : exB val = true
instance : Inhabited OkS := ⟨⟨zPc, by decide⟩⟩
def vSp (x : Pc) : List Value := [.int .i64 x.t, .int .i64 x.c, .int .i64 x.f]
def vS (x : OkS) : List Value := vSp x.val
def cfS (x y : OkS) : Int := cmpP x.val y.val
theorem ltS_true {x y : OkS} : ltOf cfS x y = true ↔ ltP x.val y.val = true := by
  unfold ltOf cfS
  rw [decide_eq_true_eq]
  exact ltcmp x.property y.property
theorem ltS_false {x y : OkS} : ltOf cfS x y = false ↔ ltP x.val y.val = false := by
  rw [← Bool.not_eq_true, ← Bool.not_eq_true, ltS_true]
theorem swoS : SWO (ltOf cfS) where
  irrefl := fun x => ltS_false.2 ltP_irrefl
  trans := fun x y z h1 h2 => ltS_true.2 (ltP_trans (ltS_true.1 h1) (ltS_true.1 h2))
  ntrans := fun x y z h1 h2 => ltS_false.2 (ltP_ntr (ltS_false.1 h1) (ltS_false.1 h2))
theorem cmpS (blk off size : Nat) (w : World) : CmpLays Try.prog 27 #[] vS 3 cfS blk off size w := fun _ _ _ _ x y => walk27 x.val y.val _
def okArr (cs : List Pc) (h : ∀ s, s ∈ cs → exB s = true) : Array OkS := (cs.pmap OkS.mk h).toArray
theorem okArr_size {cs : List Pc} {h : ∀ s, s ∈ cs → exB s = true} : (okArr cs h).size = cs.length := by rw [okArr, List.size_toArray, List.length_pmap]
theorem pmap_val : ∀ (cs : List Pc) (h : ∀ s, s ∈ cs → exB s = true), (cs.pmap OkS.mk h).map (fun x : OkS => x.val) = cs
  | [], _ => rfl
  | s :: cs, h => by rw [List.pmap_cons, List.map_cons, pmap_val cs]
theorem okArr_val {cs : List Pc} {h : ∀ s, s ∈ cs → exB s = true} : (okArr cs h).toList.map (fun x : OkS => x.val) = cs := pmap_val cs h
def pdS (d : Array OkS) : Array OkS := pdq (ltOf cfS) d 0 d.size (Lib.bitLen d.size) true true
def rowS (l : List Pc) : List (List C) := l.map encPc
theorem rowS_len (l : List Pc) : (rowS l).length = l.length := by simp [rowS]
theorem rowS_mem {l : List Pc} : ∀ c, c ∈ rowS l → c.length = 3 := by
  intro c hc
  simp only [rowS, List.mem_map] at hc
  obtain ⟨s, _, rfl⟩ := hc
  rfl
theorem rowS_at {l : List Pc} {i : Nat} (h : i < l.length) : (rowS l).getD i [] = encPc (l.getD i zPc) := by
  simp [rowS, List.getD_eq_getElem?_getD, h]
/-- The spans of a list, sorted by their ends as the library sorts them. -/
def sortS (cs : List Pc) (h : ∀ s, s ∈ cs → exB s = true) : List Pc := (pdS (okArr cs h)).toList.map (fun x : OkS => x.val)
theorem pdS_facts (d : Array OkS) : PermIn 0 d.size d (pdS d) ∧ SortedIn (ltOf cfS) 0 d.size (pdS d) :=
  pdq_sorts (ltOf cfS) swoS d 0 d.size (Lib.bitLen d.size) true true (Nat.zero_le _) (Nat.le_refl _) (Or.inl rfl)
theorem pdS_size (d : Array OkS) : (pdS d).size = d.size := (pdS_facts d).1.1
theorem sortS_len (cs : List Pc) (h : ∀ s, s ∈ cs → exB s = true) : (sortS cs h).length = cs.length := by
  rw [sortS, List.length_map, Array.length_toList, pdS_size, okArr_size]
theorem sortS_perm (cs : List Pc) (h : ∀ s, s ∈ cs → exB s = true) : (sortS cs h).Perm cs := by
  have h1 := (pdS_facts (okArr cs h)).1.2.2
  have e1 : ((okArr cs h).extract 0 (okArr cs h).size).toList = (okArr cs h).toList := by simp
  have e2 : ((pdS (okArr cs h)).extract 0 (okArr cs h).size).toList = (pdS (okArr cs h)).toList := by rw [← pdS_size]; simp
  rw [e1, e2] at h1
  have h2 := h1.map (fun x : OkS => x.val)
  rw [okArr_val] at h2
  exact h2
theorem sortS_sorted (cs : List Pc) (h : ∀ s, s ∈ cs → exB s = true) : (sortS cs h).Pairwise fun a b => ltP b a = false := by
  rw [List.pairwise_iff_getElem]
  intro i j hi hj hij
  rw [sortS_len] at hi hj
  have h1 := (pdS_facts (okArr cs h)).2 i j (Nat.zero_le _) hij (by rw [okArr_size]; exact hj)
  have h2 := ltS_false.1 h1
  have hs := pdS_size (okArr cs h)
  rw [okArr_size] at hs
  simp only [sortS, List.getElem_map, Array.getElem_toList]
  rw [getElem!_pos _ i (by omega), getElem!_pos _ j (by omega)] at h2
  exact h2
theorem flat_at (d : Array OkS) {i j : Nat} (hi : i < d.size) (hj : j < 3) : (flatK vS 3 d).getD (i * 3 + j) undef = (vS d[i]!)[j]! := by
  have lt : i * 3 + j < d.size * 3 := by omega
  have h := get_flatK vS 3 d (i * 3 + j) lt
  rw [show (i * 3 + j) / 3 = i by omega, show (i * 3 + j) % 3 = j by omega] at h
  rw [← h]
  have : i * 3 + j < (flatK vS 3 d).size := by rw [size_flatK]; exact lt
  rw [getElem!_pos (flatK vS 3 d) (i * 3 + j) this]
  unfold Array.getD
  rw [dif_pos this]; rfl
theorem val_at {d : Array OkS} {i : Nat} (hi : i < d.size) : (d.toList.map (fun x : OkS => x.val)).getD i zPc = (d[i]!).val := by
  rw [getElem!_pos _ i hi]
  simp [List.getD_eq_getElem?_getD, hi]
theorem flat_rel (K : Know) (d : Array OkS) : RelLK K (rowS (d.toList.map (fun x : OkS => x.val))).flatten (flatK vS 3 d) := by
  refine rel_flat (sz := 3) (by omega) rowS_mem (by rw [size_flatK, rowS_len]; simp) (fun i j hi hj => ?_)
  rw [rowS_len] at hi
  have hi' : i < d.size := by simpa using hi
  rw [flat_at d hi' hj, rowS_at hi, val_at hi']
  match j, hj with
  | 0, _ => exact ⟨RelK.int _ _, rfl⟩
  | 1, _ => exact ⟨RelK.int _ _, rfl⟩
  | 2, _ => exact ⟨RelK.int _ _, rfl⟩
theorem vals_flat {K : Know} {d : Array OkS} {xs : List Value} (h : RelLK K (rowS (d.toList.map (fun x : OkS => x.val))).flatten xs.toArray) : xs = (flatK vS 3 d).toList := by
  have hl : (rowS (d.toList.map (fun x : OkS => x.val))).flatten.length = d.size * 3 := by rw [flatten_length _ 3 rowS_mem, rowS_len]; simp
  have hx : xs.length = d.size * 3 := by have := h.1; rw [hl] at this; simpa using this
  refine List.ext_getElem (by rw [hx]; simp) fun t h1 h2 => ?_
  obtain ⟨i, j, hj, rfl⟩ : ∃ i j, j < 3 ∧ t = i * 3 + j := ⟨t / 3, t % 3, by omega, by omega⟩
  have hi : i < d.size := by omega
  have hr := (h.2 (i * 3 + j) (by rw [hl]; omega)).1
  rw [flatten_getD _ 3 rowS_mem i j (by rw [rowS_len]; simpa using hi) hj, rowS_at (by simpa using hi), val_at hi] at hr
  have e1 : xs.toArray.getD (i * 3 + j) undef = xs[i * 3 + j] := by simp [h1]
  have e2 : (flatK vS 3 d).toList[i * 3 + j] = (vS d[i]!)[j]! := by
    rw [← flat_at d hi hj]
    have : i * 3 + j < (flatK vS 3 d).size := by rw [size_flatK]; omega
    unfold Array.getD
    rw [dif_pos this]; rfl
  rw [e1] at hr
  rw [e2]
  generalize xs[i * 3 + j] = u at hr
  match j, hj with
  | 0, _ => cases hr; rfl
  | 1, _ => cases hr; rfl
  | 2, _ => cases hr; rfl

/-! Rows of values, as the kit has them for integers. -/
theorem holds_of_blockV {w : World} {g : Nat} {cur : Array Value} {e : TypeId} {vs : Array Value} (hb : w.heap[g]? = some (.cells cur e (0, 0))) (ht : cur.toList.take vs.size = vs.toList) : Holds (id : Value → Value) w g 0 vs := by
  intro j hj
  refine ⟨?_, by simp [World.frozen?, hb]⟩
  have h1 : (cur.toList.take vs.size)[j]? = vs.toList[j]? := by rw [ht]
  rw [List.getElem?_take_of_lt hj] at h1
  simp only [World.cell?, hb, Nat.zero_add]
  simp only [Option.isSome_none, Bool.false_eq_true, if_false]
  rw [← Array.getElem?_toList, h1, id, getElem!_pos _ j hj]
  simp [hj]
theorem heap_sortedV {w : World} {g n : Nat} {os : Array Obj} {cur : Array Value} {e : TypeId} {fr : Nat × Nat} (d : Array Value) (hb : w.heap[g]? = some (.cells cur e fr)) :
    (grow (putRow id (Sort.ahead w n) g 0 d) os).heap[g]? = some (.cells (putCells id 0 d cur) e fr) := by
  have hg : g < w.heap.size := (Array.getElem?_eq_some_iff.1 hb).1
  rw [heap_grow_old _ _ (by simpa using hg)]
  simp [putRow, mapBlock, Sort.ahead, Array.getElem?_modify, hb, onCells]
theorem grownBy_sortedV {w : World} {g n : Nat} {os : Array Obj} (d : Array Value) : w.grownBy (grow (putRow id (Sort.ahead w n) g 0 d) os) (some g) := by
  refine ⟨rfl, rfl, rfl, by simp, fun k hk hne => ?_⟩
  rw [heap_grow_old _ _ (by simpa using hk)]
  have : g ≠ k := fun e => hne (by rw [e])
  simp [putRow, mapBlock, Sort.ahead, Array.getElem?_modify, this]
theorem take_putCellsV (cur : Array Value) (d : Array Value) (h : d.size ≤ cur.size) : (putCells id 0 d cur).toList.take d.size = d.toList := by
  apply List.ext_getElem?
  intro j
  by_cases hj : j < d.size
  · rw [List.getElem?_take_of_lt hj, Array.getElem?_toList]
    simp [putCells, hj, show j < cur.size by omega]
  · rw [List.getElem?_take_eq_none (by omega), List.getElem?_eq_none (by simp; omega)]

theorem sort (cs : List Pc) (e : Nat) (h : ∀ s, s ∈ cs → exB s = true) (hn : cs.length ≤ 1000000) :
    FOwn Try.prog 41 [] [.c (.row 0 cs.length), .c (.clo 27 [])] [(0, .row e 3 (rowS cs))] (.tup []) [(0, .row e 3 (rowS (sortS cs h)))] := by
  refine ⟨⟨_, Try.func41, by kernel_rfl, by kernel_rfl⟩, fun E w vs hK hat hsz hrel => ?_⟩
  have hu : Rel E (.row 0 cs.length) (vs.getD 0 undef) := (hrel 0 (by simp)).1
  have hf : RelK E.K (.clo 27 []) (vs.getD 1 undef) := (hrel 1 (by simp)).1
  obtain ⟨u, v, rfl⟩ : ∃ u v, vs = #[u, v] := by
    have : vs.size = 2 := by simpa using hsz
    exact ⟨vs[0], vs[1], by
      apply Array.ext
      · simp [this]
      · intro i hi _
        match i, (by omega : i < 2) with
        | 0, _ => rfl
        | 1, _ => rfl⟩
  have hv : v = .func (.func 27) #[] #[] := by
    have hf' : RelK E.K (.clo 27 []) v := hf
    cases hf' with
    | clo _ _ cvs h1 h2 h3 =>
      have : cvs = #[] := Array.eq_empty_of_size_eq_zero (by simpa using h1)
      rw [this]
  subst hv
  have hu : Rel E (.row 0 (rowS cs).length) u := by rw [rowS_len]; exact hu
  obtain ⟨hs1, hl, hrw, xs, hown, hrl⟩ := own_row_in hat hu
  have tupR : ∀ (K' : Know) (rw' : Nat → Option (Value × Nat)), RelSB (E.upd K' rw') (.tup []) (.tuple #[]) := fun _ _ => ⟨#[], rfl, rfl, fun j hj => by simp at hj⟩
  have hl' : (rowS (sortS cs h)).length = (rowS cs).length := by rw [rowS_len, rowS_len, sortS_len]
  rcases hown.2 with ⟨hnil, hz⟩ | ⟨g, cap, cur, hv, hb, hg, hnc, hm, hs, ht⟩
  · subst hnil
    have hz0 : cs = [] := by rw [rowS_len] at hz; exact List.eq_nil_of_length_eq_zero hz
    subst hz0
    refine (AnyF.slices_SortFunc_none Try.sortPc none 0 (.func (.func 27) #[] #[]) w).mono ?_
    rintro en w' ⟨rfl, rfl⟩
    have e0 : sortS [] h = [] := List.eq_nil_of_length_eq_zero (by rw [sortS_len]; rfl)
    refine ⟨E.K, _, _, rfl, own_row_out (hid := []) (css' := rowS (sortS [] h)) (u' := .slice none 0 0) hK hat hrw hs1 rowS_mem (World.grownBy_refl _ _) (xs' := []) ?_ (by rw [e0]; exact ⟨rfl, fun j hj => by simp [rowS] at hj⟩) rfl (.inr (by rw [hl'])), tupR _ _⟩
    rw [e0]; exact World.ownsRow_nil _ 0 e 3
  · subst hv
    have hlt : g < w.heap.size := (Array.getElem?_eq_some_iff.1 hg).1
    have hcs := okArr_val (cs := cs) (h := h)
    have hds : (okArr cs h).size = cs.length := okArr_size
    have hxs : xs = (flatK vS 3 (okArr cs h)).toList := vals_flat (K := E.K) (by rw [hcs]; exact hrl)
    rw [rowS_len] at hnc ht
    have hfs : (flatK vS 3 (okArr cs h)).size = cs.length * 3 := by rw [size_flatK, hds]
    have hH : HoldsK vS 3 w g 0 (okArr cs h) := holds_of_blockV hg (by rw [hfs, ht, hxs])
    rw [rowS_len]
    have hcall := AnyQ.slices_SortFunc_eq Try.sortPc 3 Try.isAgg55 Try.sizeOf55 vS (fun _ => rfl) (fun x v hv => by
      simp only [vS, vSp, List.mem_cons, List.not_mem_nil, or_false] at hv
      rcases hv with rfl | rfl | rfl <;> rfl) cfS swoS 27 #[] g 0 cap (okArr cs h) w (enters_of Try.func27 (by kernel_rfl) rfl) (cmpS g 0 _ w) hH hlt (by rw [hds]; omega)
    rw [hds] at hcall
    refine hcall.mono ?_
    rintro en w' ⟨rfl, n, os, rfl⟩
    have hpd : pdq (ltOf cfS) (okArr cs h) 0 cs.length (Lib.bitLen cs.length) true true = pdS (okArr cs h) := by rw [pdS, hds]
    rw [hpd]
    have hps : (pdS (okArr cs h)).size = cs.length := by rw [pdS_size, hds]
    have hfp : (flatK vS 3 (pdS (okArr cs h))).size = cs.length * 3 := by rw [size_flatK, hps]
    refine ⟨E.K, _, _, rfl, own_row_out (hid := []) (css' := rowS (sortS cs h)) (u' := .slice (some ⟨g, 0, none⟩) (rowS cs).length cap) (xs' := (flatK vS 3 (pdS (okArr cs h))).toList) hK hat hrw hs1 rowS_mem (grownBy_sortedV _) ?_ (flat_rel _ _) rfl (.inr (by rw [hl'])), tupR _ _⟩
    rw [hl', rowS_len]
    have hmul : cs.length * 3 ≤ cap * 3 := Nat.mul_le_mul_right _ hnc
    refine ⟨by rw [Array.length_toList, hfp], .inr ⟨g, cap, _, rfl, hb, heap_sortedV _ hg, hnc, hm, by simp [putCells, hs], ?_⟩⟩
    rw [← hfp]
    exact take_putCellsV cur _ (by rw [hfp, hs]; exact hmul)
end Go.Proofs.Ytaaplpbjjnechaa.SrtPc
