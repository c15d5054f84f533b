/-
  THE SYMBOLIC LAYER, PART CC: the function that maps.Keys hands back, over a known map.
-/
import Derived.Test.YtaaplpbjjnechaaSymBB
import Derived.Maps.RangeRun
import Derived.TacticsIn
namespace Go.Sym
open Go.RowKit Go.ChangeMaps

variable {P : Program} {w : World}

/-- Operations without guards, one after the other. -/
def wpL (P : Program) (Q : Exit → Act → World → Prop) : List Oper → Act → World → Prop
  | [], a, w => Q .normal a w
  | o :: r, a, w => o.wpIn (FB none) 0 P a w (wpL P Q r) Q

theorem wpL_eq {ops : Array Oper} {Q : Exit → Act → World → Prop} : ∀ l : List Oper, (∀ o, o ∈ l → o.guard = none) → wpListIn (FB none) 0 P ops Q l = wpL P Q l
  | [], _ => by funext a w; simp [wpListIn, wpL]
  | o :: r, h => by
    funext a w
    have hg := h o (List.mem_cons_self ..)
    have hw : ∀ y, Region.wanted o y = true := fun y => by simp [Region.wanted, hg]
    simp only [wpListIn, wpL, hw, if_true]
    rw [wpL_eq r fun o' h' => h o' (List.mem_cons_of_mem _ h')]

theorem wpIn_list {id : Nat} {ops : List Oper} {Q : Exit → Act → World → Prop} {a : Act} (hg : ∀ o, o ∈ ops → o.guard = none) (h : wpL P Q ops a w) : (Code.region id ops.toArray false).wpIn (FB none) 0 P Q a w := by
  refine wpIn_region ?_
  have e := wpOpsIn_eq_wpListIn (F := FB none) (n := 0) (P := P) (ops := ops.toArray) (Q := Q) ops 0 (fun j => by simp)
  rw [List.range_eq_range', show ops.toArray.size = ops.length by simp, e, wpL_eq ops hg]
  exact h

theorem op_value {o : Oper} {a : Act} {w' : World} {v : Value} {next : Act → World → Prop} {Q : Exit → Act → World → Prop} (hnd : ∀ c, o.op ≠ .defer c) (hrun : (execOp a.eval o).run P w = .ok (.value v) w') (h : next (a.put o.dst v) w') : o.wpIn (FB none) 0 P a w next Q :=
  wpIn_of hnd (by rw [hrun]; exact h)
theorem op_skip {o : Oper} {a : Act} {w' : World} {next : Act → World → Prop} {Q : Exit → Act → World → Prop} (hnd : ∀ c, o.op ≠ .defer c) (hrun : (execOp a.eval o).run P w = .ok .skip w') (h : next (a.put o.dst undef) w') : o.wpIn (FB none) 0 P a w next Q :=
  wpIn_of hnd (by rw [hrun]; exact h)

theorem eval_put_eq {a : Act} {d : Nat} {v : Value} (h : d < a.tmps.size) : (a.put (some d) v).eval (.tmp d) = v := by
  show (a.tmps.setIfInBounds d v).getD d undef = v
  simp [Array.getD_eq_getD_getElem?, h]
theorem eval_put_ne {a : Act} {d k : Nat} {v : Value} (h : k ≠ d) : (a.put (some d) v).eval (.tmp k) = a.eval (.tmp k) := by
  show (a.tmps.setIfInBounds d v).getD k undef = a.tmps.getD k undef
  simp [Array.getD_eq_getD_getElem?, Array.getElem?_setIfInBounds_ne (Ne.symm h)]
theorem size_put {a : Act} {d : Nat} {v : Value} : (a.put (some d) v).tmps.size = a.tmps.size := by
  show (a.tmps.setIfInBounds d v).size = a.tmps.size
  simp
theorem defers_put {a : Act} {d : Nat} {v : Value} : (a.put (some d) v).defers = a.defers := rfl

/-- What is handed out of the entry i. -/
def keyE (kagg : Bool) (ents : List (List C × List C)) (i : Nat) : List CV := [entCV kagg (ents.getD i ([], [])).1]

theorem keys_all (kagg : Bool) (ents : List (List C × List C)) : (List.range ents.length).map (keyE kagg ents) = ents.map fun e => [entCV kagg e.1] := by
  refine List.ext_getElem (by simp) fun i h1 h2 => ?_
  simp at h1
  simp [keyE, List.getD_eq_getElem?_getD, h1]

theorem perm_seen {n : Nat} {l : List Nat} (hn : l.Nodup) (hlt : ∀ x, x ∈ l → x < n) (hall : ∀ x, x < n → x ∈ l) : l.Perm (List.range n) :=
  (List.perm_ext_iff_of_nodup hn List.nodup_range).2 fun x => by rw [List.mem_range]; exact ⟨hlt x, hall x⟩
theorem perm_rest {n i : Nat} {l : List Nat} (hn : l.Nodup) (hlt : ∀ x, x ∈ l → x < n) (hi : i < n) (hil : i ∉ l) : ∃ rest, (l ++ i :: rest).Perm (List.range n) := by
  refine ⟨(List.range n).filter fun x => !(l ++ [i]).contains x, ?_⟩
  refine (List.perm_ext_iff_of_nodup ?_ List.nodup_range).2 fun x => ?_
  · refine List.nodup_append.2 ⟨hn, List.nodup_cons.2 ⟨?_, List.Pairwise.filter _ List.nodup_range⟩, ?_⟩
    · simp
    · intro x hx y hy e
      subst e
      rcases List.mem_cons.1 hy with rfl | hy
      · exact hil hx
      · simp [hx] at hy
  · simp only [List.mem_append, List.mem_cons, List.mem_filter, List.mem_range, List.contains_eq_mem, List.not_mem_nil, or_false, Bool.not_eq_true', decide_eq_false_iff_not]
    constructor
    · rintro (h | rfl | ⟨h, _⟩)
      · exact hlt x h
      · exact hi
      · exact h
    · intro h
      by_cases h1 : x ∈ l
      · exact .inl h1
      by_cases h2 : x = i
      · exact .inr (.inl h2)
      · refine .inr (.inr ⟨h, ?_⟩)
        rintro (h | h)
        · exact h1 h
        · exact h2 h

/-- What is true where the loop begins. -/
structure KeyLoop (kagg : Bool) (ents : List (List C × List C)) (l z b : Nat) (es : Array MapEntry) (K : Know) (J : List (List CV) → Know → World → Prop) (a : Act) (W : World) (seen : Array Nat) : Prop where
  size : a.tmps.size = 14
  defers : a.defers = []
  y : a.eval (.tmp 0) = .func (.yield l) #[] #[]
  it : a.eval (.tmp 5) = .pointer (some ⟨z, 0, none⟩)
  at' : W.heap[z]? = some (.mapIter (some b) es.size seen es.size)
  nd : seen.toList.Nodup
  lt : ∀ x, x ∈ seen.toList → x < es.size
  since : ∃ K1 w1 Kc, J (seen.toList.map (keyE kagg ents)) K1 w1 ∧ Walk z K1 w1 ∧ SinceZ z K1 w1 Kc W ∧ Kc z = none ∧ Kc b = some (.map es es.size) ∧ K.le Kc

/-- **maps.Keys's function**: 'for k := range m { if !yield(k) { return } }'. -/
theorem niter_keys {f mt kt et r0 r1 r2 r3 id0 id1 : Nat} {fn : Func} {a0 a1 b0 b1 c0 c1 c2 c3 d0 d1 d2 d3 : Oper} {z : Value} {kagg agg : Bool} {ents : List (List C × List C)}
    (hf : P.funcs[f]? = some fn) (hname : (fn.name == "runtime.NumGoroutine") = false)
    (hb : fn.body = some ((Code.region r0 #[a0, a1] false).seq (Code.block id0 (((Code.region r1 #[b0, b1] false).seq ((Code.cond (.tmp 7) .skip (.exit id0)).seq (Code.block id1 ((Code.region r2 #[c0, c1, c2, c3] false).seq ((Code.region r3 #[d0, d1, d2, d3] false).seq (Code.cond (.tmp 13) .ret .skip)))))).loop))))
    (hn : fn.ntmps = 14) (hres : fn.results.toList = []) (hg : [a0, a1, b0, b1, c0, c1, c2, c3, d0, d1, d2, d3].all (fun o => o.guard.isNone) = true)
    (ha0 : a0.op = .load mt (.tmp 1) ∧ a0.dst = some 4) (ha1 : a1.op = .range mt (.tmp 4) ∧ a1.dst = some 5)
    (hb0 : b0.op = .next (.tmp 5) false ∧ b0.dst = some 6) (hb1 : b1.op = .extract (.tmp 6) 0 ∧ b1.dst = some 7)
    (hc0 : c0.op = .entry (.tmp 5) ∧ c0.dst = some 8) (hc1 : c1.op = .extract (.tmp 8) 0 ∧ c1.dst = some 9) (hc2 : c2.op = .alloc kt ∧ c2.dst = some 3) (hc3 : c3.op = .store kt (.tmp 3) (.tmp 9) ∧ c3.dst = none)
    (hd0 : d0.op = .move (.tmp 0) ∧ d0.dst = some 10) (hd1 : d1.op = .load kt (.tmp 3) ∧ d1.dst = some 11) (hd2 : ∃ ts, d2.op = .call { callee := .value (.tmp 10), args := #[.tmp 11], argTypes := ts } ∧ d2.dst = some 12) (hd3 : ∃ t, d3.op = .unOp .not t (.tmp 12) ∧ d3.dst = some 13)
    (hu : P.underlying mt = some (.map kt et)) (hmt : tyOk P mt = true) (hms : sizeT P mt = 1) (hma : isAggT P mt = false)
    (hkt : tyOk P kt = true) (hka : isAggT P kt = kagg) (hz : zeroT P kt = some z) (hzs : z.cells.size = sizeT P kt)
    (hlen : ∀ j, j < ents.length → (ents.getD j ([], [])).1.length = sizeT P kt) : NIter P f [.kptr [.kmap kagg agg ents] 0] (ents.map fun e => [entCV kagg e.1]) := by
  have hg' : ∀ o, o ∈ [a0, a1, b0, b1, c0, c1, c2, c3, d0, d1, d2, d3] → o.guard = none := fun o ho => by
    have := List.all_eq_true.1 hg o ho
    simpa using this
  refine ⟨⟨fn, hf, by rw [hb]; rfl, hname⟩, ?_⟩
  intro l J K w cvs hY hJ hK hsz hrel
  obtain ⟨v0, rfl⟩ : ∃ v0, cvs = #[v0] := by
    have : cvs.size = 1 := hsz
    exact ⟨cvs[0], Array.ext (by simp [this]) fun i h1 h2 => by
      have : i = 0 := by omega
      subst this; rfl⟩
  have hv0 := (hrel 0 (by simp)).1
  simp at hv0
  generalize hez : w.heap.size = zz at hY ⊢
  obtain ⟨bm, arr, T, fz, hKb, has, harr, hone, rfl⟩ : ∃ bm arr T fz, K bm = some (.cells arr T fz) ∧ arr.size = 1 ∧ RelK K (.kmap kagg agg ents) (arr.getD 0 undef) ∧ (arr.getD 0 undef).oneCell' = true ∧ v0 = .pointer (some ⟨bm, 0, none⟩) := by
    cases hv0 with
    | kptr _ _ b arr T fz hK hs hr ho => exact ⟨b, arr, T, fz, hK, hs, hr 0 (by simp), ho 0 (by simp), rfl⟩
  obtain ⟨b, es, hmv, hKm, hmr⟩ := kmap_rel harr
  have hbm := hK _ _ hKb
  have hborn : ∀ j (h : j < es.size), es[j].born = j := fun j h => (hmr.2 j es[j] (by simp [h])).2.2
  have hnd : (es.toList.map (·.born)).Nodup := by
    have : es.toList.map (·.born) = List.range es.size := by
      refine List.ext_getElem (by simp) fun i h1 h2 => ?_
      simp at h1
      simp [hborn i h1]
    rw [this]; exact List.nodup_range
  refine callsIn_of_wp hf hb trivial ?_ rfl
  refine wpIn_seq (wpIn_list (ops := [a0, a1]) (fun o ho => hg' o (by simp at ho ⊢; rcases ho with rfl | rfl <;> simp)) ?_)
  have hts : ∀ u : Array Value, u = (#[Value.func (.yield l) #[] #[]] ++ #[Value.pointer (some ⟨bm, 0, none⟩)]) ++ Array.replicate (fn.ntmps - (#[Value.func (.yield l) #[] #[]] ++ #[Value.pointer (some ⟨bm, 0, none⟩)]).size) undef →
      u.size = 14 ∧ u.getD 0 undef = .func (.yield l) #[] #[] ∧ u.getD 1 undef = .pointer (some ⟨bm, 0, none⟩) := by
    rintro u rfl
    refine ⟨by simp [hn], ?_, ?_⟩
    · rw [Array.getD_eq_getD_getElem?, Array.getElem?_append_left (by simp)]; rfl
    · rw [Array.getD_eq_getD_getElem?, Array.getElem?_append_left (by simp)]; rfl
  obtain ⟨t1, t2, t3⟩ := hts _ rfl
  generalize (#[Value.func (.yield l) #[] #[]] ++ #[Value.pointer (some ⟨bm, 0, none⟩)]) ++ Array.replicate (fn.ntmps - (#[Value.func (.yield l) #[] #[]] ++ #[Value.pointer (some ⟨bm, 0, none⟩)]).size) undef = u at t1 t2 t3
  -- load, range
  refine op_value (by simp [ha0.1]) (run_load_at (P := P) ha0.1 (show u.getD 1 undef = _ from t3) hmt hbm (by rw [hms, has]; omega)) ?_
  rw [ha0.2, hma]
  simp only [Bool.false_eq_true, if_false]
  rw [hmv]
  have s4 : (({ tmps := u, defers := [] } : Act).put (some 4) (.map (some b))).tmps.size = 14 := by rw [size_put]; exact t1
  refine op_value (w' := w.alloc (.mapIter (some b) es.size #[] es.size)) (v := .pointer (some ⟨zz, 0, none⟩)) (by simp [ha1.1]) ?_ ?_
  · simp only [execOp, ha1.1, eval_put_eq (a := { tmps := u, defers := [] }) (d := 4) (v := .map (some b)) (by rw [t1]; omega), Sem.run_bind, run_range_map w mt kt et b es es.size hu (hK _ _ hKm), Result.andThen_ok, Sem.run_pure, hez]
  rw [ha1.2]
  generalize hA : (({ tmps := u, defers := [] } : Act).put (some 4) (.map (some b))).put (some 5) (.pointer (some ⟨zz, 0, none⟩)) = A
  have A1 : A.tmps.size = 14 := by rw [← hA, size_put]; exact s4
  have A2 : A.defers = [] := by rw [← hA]; rfl
  have A3 : A.eval (.tmp 0) = .func (.yield l) #[] #[] := by
    rw [← hA, eval_put_ne (by omega), eval_put_ne (by omega)]; exact t2
  have A4 : A.eval (.tmp 5) = .pointer (some ⟨zz, 0, none⟩) := by rw [← hA, eval_put_eq (by rw [s4]; omega)]
  have hzz : K zz = none := by
    cases h : K zz with
    | none => rfl
    | some x => have := (Array.getElem?_eq_some_iff.1 (hK _ _ h)).1; omega
  have hstart : KeyLoop kagg ents l zz b es K J A (w.alloc (.mapIter (some b) es.size #[] es.size)) #[] := by
    refine ⟨A1, A2, A3, A4, by rw [← hez]; exact World.alloc_heap_new w _, List.nodup_nil, fun x hx => by simp at hx, K, w, K, hJ, ⟨hzz, fun h => by omega⟩, ?_, hzz, hKm, Know.le_refl _⟩
    refine ⟨Know.le_refl _, fun _ _ h => h, fun c x hc => ?_, rfl, rfl, rfl, by simp, fun c hc _ => Below.heap_alloc _ _ _ hc⟩
    rw [Below.heap_alloc _ _ _ (Array.getElem?_eq_some_iff.1 (hK _ _ hc)).1]
    exact hK _ _ hc
  show (Code.block id0 _).wpIn (FB none) 0 P _ A (w.alloc (.mapIter (some b) es.size #[] es.size))
  generalize w.alloc (.mapIter (some b) es.size #[] es.size) = W0 at hstart
  refine wpIn_block (wpIn_loop (fun a W => ∃ seen, KeyLoop kagg ents l zz b es K J a W seen) (fun _ W => match W.heap[zz]? with | some (.mapIter _ _ s _) => es.size - s.size | _ => 0) ⟨_, hstart⟩ ?_)
  clear hstart
  rintro a W ⟨seen, h⟩
  obtain ⟨K1, w1, Kc, hJ1, hwk, hsi, hKz, hKb', hle⟩ := h.since
  have hWb : W.heap[b]? = some (.map es es.size) := hsi.know _ _ hKb'
  have hold : ∀ x ∈ es.toList, x.born < es.size := fun x hx => by
    obtain ⟨j, hj, rfl⟩ := List.getElem_of_mem hx
    simp at hj
    simp [hborn j hj, hj]
  refine wpIn_seq (wpIn_list (ops := [b0, b1]) (fun o ho => hg' o (by simp at ho ⊢; rcases ho with rfl | rfl <;> simp)) ?_)
  rcases run_next_at (P := P) W b0.type zz b es.size es.size seen es es.size h.at' hWb hold (Nat.le_refl _) with ⟨hl0, hrun⟩ | ⟨e, he, w2, hw2, hrun⟩
  · -- nothing is left
    refine op_value (v := .tuple #[.bool false]) (w' := W) (by simp [hb0.1]) (by simp only [execOp, hb0.1, h.it, Sem.run_bind, hrun, Result.andThen_ok, Sem.run_pure]) ?_
    rw [hb0.2]
    refine op_value (v := .bool false) (w' := W) (by simp [hb1.1]) (by simp [execOp, hb1.1, eval_put_eq (a := a) (d := 6) (v := .tuple #[.bool false]) (by rw [h.size]; omega), Instr.extract]) ?_
    rw [hb1.2]
    refine wpIn_seq (wpIn_cond_false (by rw [eval_put_eq (by rw [size_put, h.size]; omega)]) (wpIn_exit ?_))
    simp only [Exit.then, Exit.inBlock, if_true]
    have hr0 : fn.results = #[] := Array.toList_inj.1 hres
    refine ⟨h.defers, .tuple #[], by simp [results, hr0], ⟨⟨_, rfl⟩, _, K1, w1, Kc, ?_, hJ1, hwk, hsi⟩⟩
    rw [← keys_all]
    refine List.Perm.map _ (perm_seen h.nd (fun x hx => by rw [← hmr.1]; exact h.lt x hx) fun x hx => ?_)
    have hxe : x < es.size := by rw [hmr.1]; exact hx
    have h1 : leftOf es seen = #[] := Array.eq_empty_of_size_eq_zero hl0
    rw [leftOf, Array.filter_eq_empty_iff] at h1
    have h2 := h1 es[x] (by simp)
    rw [hborn x hxe] at h2
    simpa using h2
  · -- an entry
    obtain ⟨hee, hes⟩ : e ∈ es.toList ∧ e.born ∉ seen.toList := by
      simp [leftOf] at he
      exact ⟨by simpa using he.1, by simpa using he.2⟩
    obtain ⟨i, hi', hie⟩ := List.getElem_of_mem hee
    have hi : i < es.size := by simpa using hi'
    have heq : es[i] = e := by simpa using hie
    have hbi : e.born = i := by rw [← heq]; exact hborn i hi
    rw [hbi] at hes hrun
    have hw2h : w2.heap = W.heap ∧ w2.os = W.os ∧ w2.tape = W.tape ∧ w2.output = W.output := by rcases hw2 with rfl | rfl <;> exact ⟨rfl, rfl, rfl, rfl⟩
    obtain ⟨hwh, hwo, hwt, hwp⟩ := hw2h
    have hzW : zz < W.heap.size := (Array.getElem?_eq_some_iff.1 h.at').1
    generalize hW2 : setBlock w2 zz (.mapIter (some b) es.size (seen.push i) es.size) = W2 at hrun
    have g1 : W2.heap[zz]? = some (.mapIter (some b) es.size (seen.push i) es.size) := by rw [← hW2]; simp [setBlock, hwh, hzW]
    have g2 : ∀ c, c ≠ zz → W2.heap[c]? = W.heap[c]? := fun c hc => by rw [← hW2]; simp [setBlock, hwh, Array.getElem?_setIfInBounds_ne (Ne.symm hc)]
    have g3 : W2.heap.size = W.heap.size := by rw [← hW2]; simp [setBlock, hwh]
    have g4 : W2.os = W.os ∧ W2.tape = W.tape ∧ W2.output = W.output := by rw [← hW2]; exact ⟨hwo, hwt, hwp⟩
    have hbz : b ≠ zz := fun e => by rw [e, hKz] at hKb'; cases hKb'
    have g5 : W2.heap[b]? = some (.map es es.size) := (g2 b hbz).trans hWb
    obtain ⟨⟨hkr, hko⟩, _, _⟩ := hmr.2 i e (by rw [← heq]; simp [hi])
    have hil : i < ents.length := by rw [← hmr.1]; exact hi
    have hks : e.key.cells.size = sizeT P kt := by rw [hkr.1]; exact hlen i hil
    have hpos : 0 < sizeT P kt := by
      simp only [tyOk, Bool.and_eq_true] at hkt
      exact Nat.le_of_ble_eq_true hkt.1.1
    -- next, extract
    refine op_value (v := .tuple #[.bool true, e.key, e.val]) (w' := W2) (by simp [hb0.1]) (by simp only [execOp, hb0.1, h.it, Sem.run_bind, hrun, Result.andThen_ok, Sem.run_pure]) ?_
    rw [hb0.2]
    refine op_value (v := .bool true) (w' := W2) (by simp [hb1.1]) (by simp [execOp, hb1.1, eval_put_eq (a := a) (d := 6) (v := .tuple #[.bool true, e.key, e.val]) (by rw [h.size]; omega), Instr.extract]) ?_
    rw [hb1.2]
    refine wpIn_seq (wpIn_cond_true (by rw [eval_put_eq (by rw [size_put, h.size]; omega)]) (wpIn_skip ?_))
    have p1 : ((a.put (some 6) (.tuple #[.bool true, e.key, e.val])).put (some 7) (.bool true)).tmps.size = 14 := by rw [size_put, size_put, h.size]
    have p2 : ((a.put (some 6) (.tuple #[.bool true, e.key, e.val])).put (some 7) (.bool true)).eval (.tmp 0) = .func (.yield l) #[] #[] := by rw [eval_put_ne (by omega), eval_put_ne (by omega), h.y]
    have p3 : ((a.put (some 6) (.tuple #[.bool true, e.key, e.val])).put (some 7) (.bool true)).eval (.tmp 5) = .pointer (some ⟨zz, 0, none⟩) := by rw [eval_put_ne (by omega), eval_put_ne (by omega), h.it]
    have p4 : ((a.put (some 6) (.tuple #[.bool true, e.key, e.val])).put (some 7) (.bool true)).defers = [] := h.defers
    generalize (a.put (some 6) (.tuple #[.bool true, e.key, e.val])).put (some 7) (.bool true) = A1 at p1 p2 p3 p4
    show (Code.block id1 _).wpIn (FB none) 0 P _ A1 W2
    refine wpIn_block (wpIn_seq (wpIn_list (ops := [c0, c1, c2, c3]) (fun o ho => hg' o (by simp at ho ⊢; rcases ho with rfl | rfl | rfl | rfl <;> simp)) ?_))
    have hent := run_entry_at (P := P) W2 zz b es.size seen es es.size e (by rw [hbi]; exact g1) g5 hee hnd
    refine op_value (v := .tuple #[e.key, e.val]) (w' := W2) (by simp [hc0.1]) (by simp only [execOp, hc0.1, p3, Sem.run_bind, hent, Result.andThen_ok, Sem.run_pure]) ?_
    rw [hc0.2]
    refine op_value (v := e.key) (w' := W2) (by simp [hc1.1]) (by simp [execOp, hc1.1, eval_put_eq (a := A1) (d := 8) (v := .tuple #[e.key, e.val]) (by rw [p1]; omega), Instr.extract]) ?_
    rw [hc1.2]
    refine op_value (v := .pointer (some ⟨W2.heap.size, 0, none⟩)) (w' := W2.alloc (.cells z.cells kt)) (by simp [hc2.1]) (by simp only [execOp, hc2.1, Instr.alloc, Sem.run_bind, run_zeroValue hz, Result.andThen_ok, newVar, newRow, run_newObj, Sem.run_pure, World.alloc_eq]) ?_
    rw [hc2.2]
    have q1 : (((A1.put (some 8) (.tuple #[e.key, e.val])).put (some 9) e.key).put (some 3) (.pointer (some ⟨W2.heap.size, 0, none⟩))).tmps.size = 14 := by rw [size_put, size_put, size_put, p1]
    have q2 : (((A1.put (some 8) (.tuple #[e.key, e.val])).put (some 9) e.key).put (some 3) (.pointer (some ⟨W2.heap.size, 0, none⟩))).eval (.tmp 0) = .func (.yield l) #[] #[] := by rw [eval_put_ne (by omega), eval_put_ne (by omega), eval_put_ne (by omega), p2]
    have q3 : (((A1.put (some 8) (.tuple #[e.key, e.val])).put (some 9) e.key).put (some 3) (.pointer (some ⟨W2.heap.size, 0, none⟩))).eval (.tmp 5) = .pointer (some ⟨zz, 0, none⟩) := by rw [eval_put_ne (by omega), eval_put_ne (by omega), eval_put_ne (by omega), p3]
    have q4 : (((A1.put (some 8) (.tuple #[e.key, e.val])).put (some 9) e.key).put (some 3) (.pointer (some ⟨W2.heap.size, 0, none⟩))).eval (.tmp 3) = .pointer (some ⟨W2.heap.size, 0, none⟩) := eval_put_eq (by rw [size_put, size_put, p1]; omega)
    have q5 : (((A1.put (some 8) (.tuple #[e.key, e.val])).put (some 9) e.key).put (some 3) (.pointer (some ⟨W2.heap.size, 0, none⟩))).eval (.tmp 9) = e.key := by rw [eval_put_ne (by omega), eval_put_eq (by rw [size_put, p1]; omega)]
    have q6 : (((A1.put (some 8) (.tuple #[e.key, e.val])).put (some 9) e.key).put (some 3) (.pointer (some ⟨W2.heap.size, 0, none⟩))).defers = [] := p4
    generalize ((A1.put (some 8) (.tuple #[e.key, e.val])).put (some 9) e.key).put (some 3) (.pointer (some ⟨W2.heap.size, 0, none⟩)) = A2' at q1 q2 q3 q4 q5 q6
    have hnew : (W2.alloc (.cells z.cells kt)).heap[W2.heap.size]? = some (.cells z.cells kt (0, 0)) := World.alloc_heap_new W2 _
    have hspl : spliceA z.cells 0 e.key.cells.toList = e.key.cells := by
      unfold spliceA
      have : z.cells.toList.drop (0 + e.key.cells.toList.length) = [] := by simp [hzs, hks]
      rw [this]; simp
    have hst := run_storeVar_at (P := P) (w := W2.alloc (.cells z.cells kt)) (off := 0) (u := e.key) hpos hnew hks (oneCells_of hkr) (by omega)
    rw [hspl] at hst
    refine op_skip (w' := (W2.alloc (.cells z.cells kt)).setRow W2.heap.size e.key.cells) (by simp [hc3.1]) (by simp only [execOp, hc3.1, q4, q5, Instr.storeAt, Instr.sureAddr, Sem.run_bind, Sem.run_pure, Result.andThen_ok, hst]) ?_
    rw [hc3.2]
    show (Code.seq _ _).wpIn (FB none) 0 P _ A2' _
    have r1 : ((W2.alloc (.cells z.cells kt)).setRow W2.heap.size e.key.cells).heap[W2.heap.size]? = some (.cells e.key.cells kt (0, 0)) := setRow_heap _ _ _ _ _ _ hnew
    have r2 : ∀ c, c < W2.heap.size → ((W2.alloc (.cells z.cells kt)).setRow W2.heap.size e.key.cells).heap[c]? = W2.heap[c]? := fun c hc => (setRow_other _ _ _ _ (by omega)).trans (Below.heap_alloc _ _ _ hc)
    have r3 : ((W2.alloc (.cells z.cells kt)).setRow W2.heap.size e.key.cells).heap.size = W2.heap.size + 1 := by rw [size_setRow]; simp
    have r4 : ((W2.alloc (.cells z.cells kt)).setRow W2.heap.size e.key.cells).os = W2.os ∧ ((W2.alloc (.cells z.cells kt)).setRow W2.heap.size e.key.cells).tape = W2.tape ∧ ((W2.alloc (.cells z.cells kt)).setRow W2.heap.size e.key.cells).output = W2.output := by
      exact ⟨rfl, rfl, rfl⟩
    generalize (W2.alloc (.cells z.cells kt)).setRow W2.heap.size e.key.cells = W4 at r1 r2 r3 r4
    refine wpIn_seq (wpIn_list (ops := [d0, d1, d2, d3]) (fun o ho => hg' o (by simp at ho ⊢; rcases ho with rfl | rfl | rfl | rfl <;> simp)) ?_)
    refine op_value (v := .func (.yield l) #[] #[]) (w' := W4) (by simp [hd0.1]) (by simp only [execOp, hd0.1, q2, Sem.run_pure]) ?_
    rw [hd0.2]
    have hld := run_load_at (P := P) (w := W4) (a := A2'.put (some 10) (.func (.yield l) #[] #[])) hd1.1 (by rw [eval_put_ne (by omega), q4]) hkt r1 (by omega)
    have hval : (if isAggT P kt then Value.agg (e.key.cells.extract 0 (0 + sizeT P kt)) else e.key.cells.getD 0 undef) = e.key := by
      rw [hka]
      cases kagg with
      | true =>
        obtain ⟨x, hx⟩ := hko
        rw [hx] at hks ⊢
        simp only [Value.cells] at hks ⊢
        simp [← hks]
      | false => rw [oneOr_cells hko]; rfl
    rw [hval] at hld
    refine op_value (by simp [hd1.1]) hld ?_
    rw [hd1.2]
    have u1 : ((A2'.put (some 10) (.func (.yield l) #[] #[])).put (some 11) e.key).tmps.size = 14 := by rw [size_put, size_put, q1]
    have u2 : ((A2'.put (some 10) (.func (.yield l) #[] #[])).put (some 11) e.key).eval (.tmp 0) = .func (.yield l) #[] #[] := by rw [eval_put_ne (by omega), eval_put_ne (by omega), q2]
    have u3 : ((A2'.put (some 10) (.func (.yield l) #[] #[])).put (some 11) e.key).eval (.tmp 5) = .pointer (some ⟨zz, 0, none⟩) := by rw [eval_put_ne (by omega), eval_put_ne (by omega), q3]
    have u4 : ((A2'.put (some 10) (.func (.yield l) #[] #[])).put (some 11) e.key).eval (.tmp 10) = .func (.yield l) #[] #[] := by rw [eval_put_ne (by omega), eval_put_eq (by rw [q1]; omega)]
    have u5 : ((A2'.put (some 10) (.func (.yield l) #[] #[])).put (some 11) e.key).eval (.tmp 11) = e.key := eval_put_eq (by rw [size_put, q1]; omega)
    have u6 : ((A2'.put (some 10) (.func (.yield l) #[] #[])).put (some 11) e.key).defers = [] := q6
    generalize (A2'.put (some 10) (.func (.yield l) #[] #[])).put (some 11) e.key = A3 at u1 u2 u3 u4 u5 u6
    have hWW : ∀ c, c < W.heap.size → c ≠ zz → W4.heap[c]? = W.heap[c]? := fun c hc hcz => (r2 c (by omega)).trans (g2 c hcz)
    have hz4 : W4.heap[zz]? = some (.mapIter (some b) es.size (seen.push i) es.size) := (r2 zz (by omega)).trans g1
    have hsi4 : SinceZ zz K1 w1 Kc W4 := by
      refine ⟨hsi.le, hsi.nk, fun c x hc => ?_, r4.1.trans (g4.1.trans hsi.os), r4.2.1.trans (g4.2.1.trans hsi.tape), r4.2.2.trans (g4.2.2.trans hsi.output), by have := hsi.size; omega, fun c hc hcz => ?_⟩
      · have hcz : c ≠ zz := fun e => by rw [e, hKz] at hc; cases hc
        have h1 := hsi.know _ _ hc
        rw [hWW c (Array.getElem?_eq_some_iff.1 h1).1 hcz]; exact h1
      · rw [hWW c (by have := hsi.size; omega) hcz]; exact hsi.old c hc hcz
    have hpm : ∃ rest, (seen.toList.map (keyE kagg ents) ++ keyE kagg ents i :: rest).Perm (ents.map fun e => [entCV kagg e.1]) := by
      obtain ⟨rest, hr⟩ := perm_rest (n := ents.length) h.nd (fun x hx => by rw [← hmr.1]; exact h.lt x hx) hil hes
      refine ⟨rest.map (keyE kagg ents), ?_⟩
      rw [← keys_all]
      have := hr.map (keyE kagg ents)
      simpa using this
    have hkc : RelLK Kc (ents.getD i ([], [])).1 e.key.cells := hkr.mono hle
    have hrc : RelCVK Kc (entCV kagg (ents.getD i ([], [])).1) e.key := by
      cases kagg with
      | true => obtain ⟨x, hx⟩ := hko; exact ⟨x, hx, by rw [hx] at hkc; exact hkc⟩
      | false =>
        have h0 := hkc.2 0 (by rw [← hkc.1, oneOr_cells hko]; simp)
        rw [oneOr_cells hko] at h0
        exact ⟨h0.1, hko⟩
    obtain ⟨fn', tmps', assign', body', hyr, hR⟩ := hY _ (keyE kagg ents i) K1 w1 Kc W4 #[e.key] hJ1 hwk hsi4 hpm rfl (fun j hj => by
      have : j = 0 := by simp [keyE] at hj; omega
      subst this
      exact hrc)
    obtain ⟨ts, hop, hdst⟩ := hd2
    refine wpIn_of (by intro c hc; rw [hop] at hc; cases hc) ?_
    have hrun2 : (execOp A3.eval d2).run P W4 = .ok (.round l fn' tmps' assign' body') W4 := by
      simp only [execOp, hop, resolve, u4, u5, Deferred.ofValue, invoke, Sem.run_bind, Sem.run_pure, Result.andThen_ok, Array.empty_append, List.map_toArray, List.map_cons, List.map_nil]
      exact hyr
    rw [hrun2]
    refine ⟨fun h => absurd h (by simp [FB]), RoundIn.mono hR ?_⟩
    rintro e' W5 ⟨rfl, hwalk, K2, k1, k2, k3, k4⟩
    obtain ⟨tt, hnop, hnd3⟩ := hd3
    show wpL P _ [d3] (A3.put d2.dst (.bool true)) W5
    rw [hdst]
    refine op_value (v := .bool false) (w' := W5) (by simp [hnop]) (by simp [execOp, hnop, eval_put_eq (a := A3) (d := 12) (v := .bool true) (by rw [u1]; omega), Op.unary]) ?_
    rw [hnd3]
    refine wpIn_cond_false (by rw [eval_put_eq (by rw [size_put, u1]; omega)]) (wpIn_skip ?_)
    have hz5 := hwalk _ _ hz4 rfl
    refine ⟨⟨seen.push i, ⟨by rw [size_put, size_put, u1], u6, by rw [eval_put_ne (by omega), eval_put_ne (by omega), u2], by rw [eval_put_ne (by omega), eval_put_ne (by omega), u3], hz5, ?_, ?_, ?_⟩⟩, ?_⟩
    · rw [Array.toList_push]
      exact List.nodup_append.2 ⟨h.nd, by simp, fun x hx y hy e => by
        simp at hy
        subst hy; subst e
        exact hes hx⟩
    · intro x hx
      rw [Array.toList_push] at hx
      rcases List.mem_append.1 hx with hx | hx
      · exact h.lt x hx
      · simp at hx; subst hx; exact hi
    · have hzK2 : K2 zz = none := k2 zz (by omega) hKz
      refine ⟨K2, W5, K2, ?_, ⟨hzK2, fun _ => ⟨_, hz5, rfl⟩⟩, ⟨Know.le_refl _, fun _ _ h => h, k3, rfl, rfl, rfl, Nat.le_refl _, fun _ _ _ => rfl⟩, hzK2, k1 _ _ hKb', Know.le_trans hle k1⟩
      rw [Array.toList_push, List.map_append]
      exact k4
    · rw [h.at', hz5]
      simp only [Array.size_push]
      obtain ⟨rest, hr⟩ := perm_rest (n := es.size) h.nd h.lt hi hes
      have := hr.length_eq
      simp at this
      omega
end Go.Sym
