/-
  THE SYMBOLIC LAYER, PART C: each operation of the evaluator is what the machine does.
-/
import Derived.Test.YtaaplpbjjnechaaSymB
namespace Go.Sym
open Go.RowKit

variable {P : Program} {B : Base P} {E : Env} {m : List (Option MO)} {w : World}

/-! ### Reading -/

theorem tyOk_pos {t : TypeId} (h : tyOk P t = true) : 0 < sizeT P t := by
  simp only [tyOk, Bool.and_eq_true, Nat.blt_eq] at h
  exact h.1.1
theorem tyOk_und {t : TypeId} (h : tyOk P t = true) : ∃ d, P.underlying t = some d := by
  simp only [tyOk, Bool.and_eq_true] at h
  exact Option.isSome_iff_exists.1 h.1.2
theorem tyOk_one {t : TypeId} (h : tyOk P t = true) (ha : isAggT P t = false) : sizeT P t = 1 := by
  simp only [tyOk, Bool.and_eq_true, ha, Bool.false_or] at h
  exact Nat.eq_of_beq_eq_true h.2

theorem sizeT_info {t : TypeId} (h : 0 < sizeT P t) : ∃ i, P.info? t = some i ∧ i.size = sizeT P t := by
  unfold sizeT at *
  cases hi : P.info? t with
  | none => simp [hi] at h
  | some i => exact ⟨i, rfl, by simp⟩

theorem run_sizeOf {t : TypeId} (h : 0 < sizeT P t) : (sizeOf t).run P w = .ok (sizeT P t) w := by
  obtain ⟨i, hi, hs⟩ := sizeT_info h
  simp [sizeOf, typeInfo, hi, hs]

theorem run_isAgg {t : TypeId} (h : tyOk P t = true) : (isAgg t).run P w = .ok (isAggT P t) w := by
  obtain ⟨d, hd⟩ := tyOk_und h
  unfold isAgg isAggT
  rw [Sem.run_bind, run_underlying hd w]
  cases d <;> simp [hd]

theorem run_loadVar_at {t : TypeId} {b off : Nat} {arr : Array Value} {T : TypeId} {fz : Nat × Nat} (ht : tyOk P t = true) (hb : w.heap[b]? = some (.cells arr T fz)) (hoff : off + sizeT P t ≤ arr.size) :
    (loadVar t ⟨b, off, none⟩).run P w = .ok (if isAggT P t then .agg (arr.extract off (off + sizeT P t)) else arr.getD off undef) w := by
  have hcell : ∀ j, j < arr.size → w.cell? ⟨b, j, none⟩ = some (arr.getD j undef) := by
    intro j hj
    rw [cell_of_row w b j arr T fz hb]
    simp [hj]
  unfold loadVar
  rw [Sem.run_bind, run_isAgg ht]
  cases hag : isAggT P t with
  | true =>
    simp only [Result.andThen_ok, if_true, Sem.run_bind, run_sizeOf (tyOk_pos ht)]
    rw [run_loadCells w ⟨b, off, none⟩ (sizeT P t) (fun j => arr.getD (off + j) undef) (fun j hj => by rw [Addr.add_lit]; exact hcell _ (by omega))]
    simp only [Result.andThen_ok, Sem.run_pure]
    congr 2
    apply Array.ext
    · simp; omega
    · intro i h1 h2
      simp at h1 h2
      have : off + i < arr.size := by omega
      simp [this]
  | false =>
    have h1 := tyOk_one ht hag
    simp [hcell off (by omega)]

/-- A stretch of known or own cells that reads as cs. -/
def View (R : C → Value → Prop) (w : World) (cs : List C) (b base : Nat) : Prop :=
  ∃ arr T fz, w.heap[b]? = some (.cells arr T fz) ∧ base + cs.length ≤ arr.size ∧ ∀ j, j < cs.length → R (cs.getD j .junk) (arr.getD (base + j) undef) ∧ (arr.getD (base + j) undef).oneCell' = true

theorem getD_sub (cs : List C) (off n j : Nat) (hj : j < n) : (sub cs off n).getD j .junk = cs.getD (off + j) .junk := by
  unfold sub
  simp only [List.getD_eq_getElem?_getD, List.getElem?_take, List.getElem?_drop]
  rw [if_pos hj]
theorem length_sub (cs : List C) (off n : Nat) (h : off + n ≤ cs.length) : (sub cs off n).length = n := by
  unfold sub
  simp; omega

theorem getD_extract (arr : Array Value) (off n j : Nat) (hj : j < n) (h : off + n ≤ arr.size) : (arr.extract off (off + n)).getD j undef = arr.getD (off + j) undef := by
  have h1 : off + j < arr.size := by omega
  have h2 : j < (arr.extract off (off + n)).size := by simp; omega
  simp only [Array.getD_eq_getD_getElem?, Array.getElem?_eq_getElem h1, Array.getElem?_eq_getElem h2, Option.getD_some, Array.getElem_extract]

theorem part_k {t : TypeId} {arr : Array Value} {cs : List C} {off base : Nat} (ht : tyOk P t = true) (hoff : off + sizeT P t ≤ cs.length) (hlen : base + cs.length ≤ arr.size)
    (hr : ∀ j, j < cs.length → RelK E.K (cs.getD j .junk) (arr.getD (base + j) undef) ∧ (arr.getD (base + j) undef).oneCell' = true) :
    RelCV E (Go.Sym.part P false t cs off) (if isAggT P t then .agg (arr.extract (base + off) (base + off + sizeT P t)) else arr.getD (base + off) undef) := by
  unfold Go.Sym.part
  cases hag : isAggT P t with
  | true =>
    simp only [if_true, Bool.false_eq_true, if_false]
    refine ⟨_, rfl, ?_, ?_⟩
    · rw [length_sub _ _ _ hoff]; simp; omega
    · intro j hj
      rw [length_sub _ _ _ hoff] at hj
      rw [getD_sub _ _ _ _ hj, getD_extract _ _ _ _ hj (by omega)]
      have := hr (off + j) (by omega)
      rwa [← Nat.add_assoc] at this
  | false =>
    have h1 := tyOk_one ht hag
    have := hr off (by omega)
    simp only [Bool.false_eq_true, if_false]
    exact ⟨Rel.of_relK this.1, this.2⟩

theorem part_p {t : TypeId} {arr : Array Value} {cs : List C} {off base : Nat} (ht : tyOk P t = true) (hoff : off + sizeT P t ≤ cs.length) (hlen : base + cs.length ≤ arr.size)
    (hr : ∀ j, j < cs.length → Rel E (cs.getD j .junk) (arr.getD (base + j) undef) ∧ (arr.getD (base + j) undef).oneCell' = true) :
    RelCV E (Go.Sym.part P true t cs off) (if isAggT P t then .agg (arr.extract (base + off) (base + off + sizeT P t)) else arr.getD (base + off) undef) := by
  unfold Go.Sym.part
  cases hag : isAggT P t with
  | true =>
    simp only [if_true]
    refine ⟨_, rfl, ?_, ?_⟩
    · rw [length_sub _ _ _ hoff]; simp; omega
    · intro j hj
      rw [length_sub _ _ _ hoff] at hj
      rw [getD_sub _ _ _ _ hj, getD_extract _ _ _ _ hj (by omega)]
      have := hr (off + j) (by omega)
      rwa [← Nat.add_assoc] at this
  | false =>
    have h1 := tyOk_one ht hag
    have := hr off (by omega)
    simp only [Bool.false_eq_true, if_false]
    exact this

/-! ### What a step owes -/

/-- The operation runs, whatever comes next, if what comes next holds in each world that the abstract step allows. -/
def Done (P : Program) (B : Base P) (E : Env) (m' : List (Option MO)) (v : SB) (o : Oper) (a : Act) (w : World) : Prop :=
  ∀ next Q, (∀ u w' E', E.Le E' → Core B E' m' w' → RelSB E' v u → next (a.put o.dst u) w') → o.wpIn (FB B.r) 0 P a w next Q

theorem wpIn_of {r : Option Nat} {o : Oper} {a : Act} {next : Act → World → Prop} {Q : Exit → Act → World → Prop} (hnd : ∀ c, o.op ≠ .defer c) (h : o.uponIn (FB r) 0 P a next Q ((execOp a.eval o).run P w)) : o.wpIn (FB r) 0 P a w next Q := by
  refine ⟨fun _ _ => trivial, ?_⟩
  rw [Oper.semAt_eq _ _ _ hnd]
  exact h

theorem not_defer_of {o : Oper} {a : Act} {u : Value} (hrun : (execOp a.eval o).run P w = .ok (.value u) w) : ∀ c, o.op ≠ .defer c := by
  intro c hc
  unfold execOp at hrun
  simp only [hc] at hrun
  rw [Sem.run_bind] at hrun
  cases hr : (resolve a.eval c o.type).run P w <;> rw [hr] at hrun <;> simp [Result.andThen] at hrun

theorem done_value {v : SB} {o : Oper} {a : Act} {u : Value} (hc : Core B E m w) (hrun : (execOp a.eval o).run P w = .ok (.value u) w) (hu : RelSB E v u) : Done P B E m v o a w := by
  intro next Q h
  refine wpIn_of (not_defer_of hrun) ?_
  rw [hrun]
  exact h u w E (Env.Le.refl E) hc hu

/-- The values of the operands. -/
def Vals (E : Env) (ρ : Operand → Value) (xs : List Operand) (vs : List SB) : Prop := vs.length = xs.length ∧ ∀ (j : Nat) (x : Operand) (v : SB), xs[j]? = some x → vs[j]? = some v → RelSB E v (ρ x)

theorem Vals.one {ρ : Operand → Value} {x : Operand} {v : SB} (h : Vals E ρ [x] [v]) : RelSB E v (ρ x) := h.2 0 x v rfl rfl
theorem Vals.two {ρ : Operand → Value} {x y : Operand} {v u : SB} (h : Vals E ρ [x, y] [v, u]) : RelSB E v (ρ x) ∧ RelSB E u (ρ y) := ⟨h.2 0 x v rfl rfl, h.2 1 y u rfl rfl⟩

theorem relSB_int {k : IntKind} {n : Int} {u : Value} (h : RelSB E (.v (.c (.int k n))) u) : u = .int k n := by
  obtain ⟨hr, _⟩ := h
  cases hr
  rfl
theorem relSB_bool {b : Bool} {u : Value} (h : RelSB E (.v (.c (.bool b))) u) : u = .bool b := by
  obtain ⟨hr, _⟩ := h
  cases hr
  rfl
theorem relSB_str {s : ByteArray} {u : Value} (h : RelSB E (.v (.c (.str s))) u) : u = .string s := by
  obtain ⟨hr, _⟩ := h
  cases hr
  rfl
theorem rel_int {k : IntKind} {n : Int} : RelSB E (.v (.c (.int k n))) (.int k n) := ⟨RelK.int k n, rfl⟩
theorem rel_bool {b : Bool} : RelSB E (.v (.c (.bool b))) (.bool b) := ⟨RelK.bool b, rfl⟩

/-- A pointer to known cells, or to own ones. -/
theorem run_load_at {t : TypeId} {o : Oper} {a : Act} {x : Operand} {b off : Nat} {arr : Array Value} {T : TypeId} {fz : Nat × Nat} (ho : o.op = .load t x) (hx : a.eval x = .pointer (some ⟨b, off, none⟩))
    (ht : tyOk P t = true) (hb : w.heap[b]? = some (.cells arr T fz)) (hoff : off + sizeT P t ≤ arr.size) :
    (execOp a.eval o).run P w = .ok (.value (if isAggT P t then .agg (arr.extract off (off + sizeT P t)) else arr.getD off undef)) w := by
  simp only [execOp, ho, hx, Instr.loadAt, Instr.sureAddr, Sem.run_bind, Sem.run_pure, Result.andThen_ok, run_loadVar_at ht hb hoff]

theorem view_kel {K : Know} {sz n i o : Nat} {f : Nat → List C} {u : Value} (hk : Knows K w) (h : RelK K (.kel sz n f i o) u) :
    ∃ b base arr T fz, u = .pointer (some ⟨b, base + o, none⟩) ∧ w.heap[b]? = some (.cells arr T fz) ∧ (f i).length = sz ∧ (0 < sz → base + (f i).length ≤ arr.size) ∧
      ∀ j, j < (f i).length → RelK K ((f i).getD j .junk) (arr.getD (base + j) undef) ∧ (arr.getD (base + j) undef).oneCell' = true := by
  cases h with
  | kel _ _ _ _ _ b off arr T fz g hK hg hl hr ho hi =>
    have hli := hl i hi
    have key : ∀ j, j < (f i).length → arr[off + i * sz + j]? = some (g i j) := fun j hj => hg i j hi (by omega)
    refine ⟨b, off + i * sz, arr, T, fz, rfl, hk _ _ hK, hli, ?_, ?_⟩
    · intro h0
      have := key ((f i).length - 1) (by omega)
      have := (Array.getElem?_eq_some_iff.1 this).1
      omega
    · intro j hj
      have hgj := key j hj
      have : arr.getD (off + i * sz + j) undef = g i j := by simp [hgj]
      rw [this]
      exact ⟨hr i j hi (by omega), ho i j hi (by omega)⟩

theorem view_kptr {K : Know} {cs : List C} {o : Nat} {u : Value} (hk : Knows K w) (h : RelK K (.kptr cs o) u) :
    ∃ b arr T fz, u = .pointer (some ⟨b, o, none⟩) ∧ w.heap[b]? = some (.cells arr T fz) ∧ RelLK K cs arr := by
  cases h with
  | kptr _ _ b arr T fz hK hs hr ho => exact ⟨b, arr, T, fz, rfl, hk _ _ hK, hs, fun j hj => ⟨hr j hj, ho j hj⟩⟩

theorem relSB_c {c : C} {u : Value} (h : RelSB E (.v (.c c)) u) : Rel E c u := h.1

theorem Core.cells {n : Nat} {cs : List C} (hc : Core B E m w) (h : m[n]? = some (some (.cells cs))) : ∃ b arr T, E.cel n = some b ∧ w.heap[b]? = some (.cells arr T (0, 0)) ∧ RelLK E.K cs arr :=
  hc.mem n _ h
theorem Core.pcells {n : Nat} {cs : List C} (hc : Core B E m w) (h : m[n]? = some (some (.pcells cs))) : ∃ b arr T, E.cel n = some b ∧ w.heap[b]? = some (.cells arr T (0, 0)) ∧ RelL E cs arr :=
  hc.mem n _ h

theorem relP_at {n off b : Nat} {u : Value} (h : RelP E n off u) (hb : E.cel n = some b) : u = .pointer (some ⟨b, off, none⟩) := by
  obtain ⟨b', e, hu⟩ := h
  rw [hb] at e
  cases e
  exact hu

/-- The flattened elements of a row. -/
theorem flatten_length (css : List (List C)) (sz : Nat) (h : ∀ c, c ∈ css → c.length = sz) : css.flatten.length = css.length * sz := by
  induction css with
  | nil => simp
  | cons c css ih =>
    simp only [List.flatten_cons, List.length_append, List.length_cons, ih (fun x hx => h x (List.mem_cons_of_mem _ hx)), h c List.mem_cons_self, Nat.add_mul]
    omega
theorem flatten_getD (css : List (List C)) (sz : Nat) (h : ∀ c, c ∈ css → c.length = sz) : ∀ i j, i < css.length → j < sz → css.flatten.getD (i * sz + j) .junk = (css.getD i []).getD j .junk := by
  induction css with
  | nil => intro i j hi; simp at hi
  | cons c css ih =>
    intro i j hi hj
    have hcl : c.length = sz := h c List.mem_cons_self
    cases i with
    | zero =>
      simp only [List.flatten_cons, Nat.zero_mul, Nat.zero_add, List.getD_eq_getElem?_getD, List.getElem?_cons_zero, Option.getD_some]
      rw [List.getElem?_append_left (by omega)]
    | succ i =>
      have := ih (fun x hx => h x (List.mem_cons_of_mem _ hx)) i j (by simpa using hi) hj
      simp only [List.flatten_cons, List.getD_eq_getElem?_getD, List.getElem?_cons_succ] at this ⊢
      rw [List.getElem?_append_right (by rw [hcl, Nat.add_mul]; omega)]
      rw [← this]
      congr 2
      rw [hcl, Nat.add_mul]
      omega

theorem getElem?_toArray_getD (xs : List Value) (j : Nat) : xs.toArray.getD j undef = xs.getD j undef := by simp [List.getD_eq_getElem?_getD]

/-- An own row's elements in memory. -/
theorem Core.row {n e sz : Nat} {css : List (List C)} (hc : Core B E m w) (h : m[n]? = some (some (.row e sz css))) : MRel E w n (.row e sz css) := hc.mem n _ h

theorem row_cells {n e sz : Nat} {css : List (List C)} {hd : Value} {g cap : Nat} (h : MRel E w n (.row e sz css)) (hrw : E.rw n = some (hd, css.length)) (hhd : hd = .slice (some ⟨g, 0, none⟩) css.length cap) :
    ∃ arr, w.heap[g]? = some (.cells arr e (0, 0)) ∧ css.length * sz ≤ arr.size ∧ arr.size = cap * sz ∧ css.length ≤ cap ∧ cap ≤ maxLen ∧
      ∀ i j, i < css.length → j < sz → RelK E.K ((css.getD i []).getD j .junk) (arr.getD (i * sz + j) undef) ∧ (arr.getD (i * sz + j) undef).oneCell' = true := by
  obtain ⟨hsz, hlen, hd', xs, hrw', hown, hrel⟩ := h
  rw [hrw] at hrw'
  cases hrw'
  subst hhd
  obtain ⟨hxl, hcase⟩ := hown
  rcases hcase with ⟨h0, _⟩ | ⟨g', cap', cur, hv, _, hg, hle, hcm, hcs, htake⟩
  · cases h0
  · cases hv
    have hfl := flatten_length css sz hlen
    have hmul : css.length * sz ≤ cap * sz := Nat.mul_le_mul_right _ hle
    refine ⟨cur, hg, by omega, hcs, hle, hcm, ?_⟩
    intro i j hi hj
    have hij : i * sz + j < css.length * sz := by
      have : (i + 1) * sz ≤ css.length * sz := Nat.mul_le_mul_right _ hi
      rw [Nat.add_mul] at this
      omega
    have hr := hrel.2 (i * sz + j) (by omega)
    rw [flatten_getD css sz hlen i j hi hj, getElem?_toArray_getD] at hr
    have hx : xs.getD (i * sz + j) undef = cur.getD (i * sz + j) undef := by
      rw [← htake]
      simp only [List.getD_eq_getElem?_getD, List.getElem?_take, if_pos hij]
      simp
    rwa [hx] at hr

theorem load_sound {o : Oper} {a : Act} {t : TypeId} {x : Operand} {vs : List SB} {r : SB} {ms' : List (Option (Option MO))} {q : List Prop} (hc : Core B E m w) (ho : o.op = .load t x)
    (hv : Vals E a.eval [x] vs) (hact : actLoad P t vs ((Op.names o.op o.dst vs).map (getM m)) = some (r, ms', q)) (hq : allP q) : Done P B E m r o a w := by
  obtain ⟨v, rfl⟩ : ∃ v, vs = [v] := by
    match vs, hv.1 with
    | [v], _ => exact ⟨v, rfl⟩
  have hx := hv.one
  rw [ho] at hact
  unfold actLoad at hact
  split at hact
  · rename_i n off heq
    cases heq
    simp only [Op.names, List.map_cons, List.map_nil] at hact
    split at hact
    · rename_i cs hm
      obtain ⟨hck, hact⟩ := ck_some hact
      cases hact
      obtain ⟨hq, hty⟩ := ckPart_spec hck
      obtain ⟨b, arr, T, hb, hh, hrel⟩ := hc.cells (by simpa [getM] using hm)
      have hu := relP_at (relSB_c hx) hb
      refine done_value hc (run_load_at ho hu hty hh (by have := hrel.1; omega)) ?_
      have := part_k (P := P) (E := E) (base := 0) (arr := arr) hty hq (by have := hrel.1; omega) (fun j hj => by simpa using hrel.2 j hj)
      simp only [Nat.zero_add] at this
      exact this
    · rename_i cs hm
      obtain ⟨hck, hact⟩ := ck_some hact
      cases hact
      obtain ⟨hq, hty⟩ := ckPart_spec hck
      obtain ⟨b, arr, T, hb, hh, hrel⟩ := hc.pcells (by simpa [getM] using hm)
      have hu := relP_at (relSB_c hx) hb
      refine done_value hc (run_load_at ho hu hty hh (by have := hrel.1; omega)) ?_
      have := part_p (P := P) (E := E) (base := 0) (arr := arr) hty hq (by have := hrel.1; omega) (fun j hj => by simpa using hrel.2 j hj)
      simp only [Nat.zero_add] at this
      exact this
    · cases hact
  · rename_i cs off heq
    cases heq
    obtain ⟨hck, hact⟩ := ck_some hact
    cases hact
    obtain ⟨hq, hty⟩ := ckPart_spec hck
    obtain ⟨b, arr, T, fz, hu, hh, hrel⟩ := view_kptr hc.know (relSB_c hx)
    refine done_value hc (run_load_at ho hu hty hh (by have := hrel.1; omega)) ?_
    have := part_k (P := P) (E := E) (base := 0) (arr := arr) hty hq (by have := hrel.1; omega) (fun j hj => by simpa using hrel.2 j hj)
    simp only [Nat.zero_add] at this
    exact this
  · rename_i sz n f i off heq
    cases heq
    obtain ⟨hck, hact⟩ := ck_some hact
    cases hact
    obtain ⟨hq, hty⟩ := ckPart_spec hck
    obtain ⟨b, base, arr, T, fz, hu, hh, hl, hsz, hrel⟩ := view_kel hc.know (relSB_c hx)
    have hpos := tyOk_pos hty
    refine done_value hc (run_load_at ho hu hty hh (by have := hsz (by omega); omega)) ?_
    exact part_k (P := P) (E := E) (base := base) (arr := arr) hty (by omega) (by have := hsz (by omega); omega) hrel
  · rename_i n k sz i off heq
    cases heq
    simp only [Op.names, List.map_cons, List.map_nil] at hact
    split at hact
    · rename_i e sz' css hm
      obtain ⟨hck, hact⟩ := ck_some hact
      cases hact
      obtain ⟨hk, hik⟩ := hq
      simp only [Bool.and_eq_true] at hck
      obtain ⟨hq, hty⟩ := ckPart_spec hck.2
      have hse := Nat.eq_of_beq_eq_true hck.1
      subst hse
      have hm' : m[n]? = some (some (.row e sz css)) := by simpa [getM] using hm
      obtain ⟨hd, len, hrw, hle, himp⟩ : ∃ hd len, E.rw n = some (hd, len) ∧ k ≤ len ∧ (k = len → ∃ g cap, hd = .slice (some ⟨g, 0, none⟩) k cap ∧ a.eval x = .pointer (some ⟨g, i * sz + off, none⟩)) := relSB_c hx
      have hM := hc.row hm'
      have hlen : len = css.length := by
        obtain ⟨_, _, hd', xs, hrw', _⟩ := hM
        rw [hrw] at hrw'
        cases hrw'
        rfl
      obtain ⟨g, cap, hhd, hu⟩ := himp (by omega)
      subst hk
      subst hlen
      obtain ⟨arr, hg, hsz, hcap, hcl, hcm, hrel⟩ := row_cells hM hrw hhd
      have hpos := tyOk_pos hty
      have hcl : (css.getD i []).length = sz := hM.2.1 _ (by
        simp only [List.getD_eq_getElem?_getD, List.getElem?_eq_getElem hik, Option.getD_some]
        exact List.getElem_mem hik)
      have hmul : (i + 1) * sz ≤ css.length * sz := Nat.mul_le_mul_right _ hik
      rw [Nat.add_mul] at hmul
      refine done_value hc (run_load_at ho hu hty hg (by omega)) ?_
      exact part_k (P := P) (E := E) (base := i * sz) (arr := arr) hty (by omega) (by omega) (fun j hj => hrel i j hik (by omega))
    · cases hact
  · cases hact

end Go.Sym
