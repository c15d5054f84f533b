/-
  THE SYMBOLIC LAYER, PART F': rows that are made and grow; boxes and rows that are never written again; maps; closures.
-/
import Derived.Test.YtaaplpbjjnechaaSymF
import Derived.Laws.MakeOwn
namespace Go.Sym
open Go.RowKit

variable {P : Program} {B : Base P} {E : Env} {m : List (Option MO)} {w : World}

/-! ### Elements of flat cells -/

theorem chunks_length (sz len : Nat) (cs : List C) : (chunks sz len cs).length = len := by simp [chunks]

theorem chunks_get {sz len : Nat} {cs : List C} {i : Nat} (hi : i < len) : (chunks sz len cs).getD i [] = sub cs (i * sz) sz := by
  simp [chunks, List.getD_eq_getElem?_getD, hi]

theorem chunks_len {sz len : Nat} {cs : List C} (h : cs.length = len * sz) : ∀ c, c ∈ chunks sz len cs → c.length = sz := by
  intro c hc
  simp only [chunks, List.mem_map, List.mem_range] at hc
  obtain ⟨i, hi, rfl⟩ := hc
  refine length_sub _ _ _ ?_
  have : (i + 1) * sz ≤ len * sz := Nat.mul_le_mul_right _ hi
  rw [Nat.add_mul, Nat.one_mul] at this
  omega

/-- A row's elements against its cells. -/
theorem rel_flat {K : Know} {css : List (List C)} {sz : Nat} {arr : Array Value} (hsz : 0 < sz) (hl : ∀ c, c ∈ css → c.length = sz) (hs : arr.size = css.length * sz)
    (hr : ∀ i j, i < css.length → j < sz → RelK K ((css.getD i []).getD j .junk) (arr.getD (i * sz + j) undef) ∧ (arr.getD (i * sz + j) undef).oneCell' = true) : RelLK K css.flatten arr := by
  refine ⟨by rw [flatten_length _ _ hl]; exact hs, fun j hj => ?_⟩
  rw [flatten_length _ _ hl] at hj
  have h1 : j / sz < css.length := (Nat.div_lt_iff_lt_mul hsz).2 hj
  have h2 : j % sz < sz := Nat.mod_lt _ hsz
  have he : j / sz * sz + j % sz = j := by rw [Nat.mul_comm]; exact Nat.div_add_mod j sz
  have := hr (j / sz) (j % sz) h1 h2
  rw [he] at this
  have hL := flatten_getD css sz hl (j / sz) (j % sz) h1 h2
  rw [he] at hL
  rw [hL]
  exact this

theorem rel_chunks {K : Know} {sz len : Nat} {cs : List C} {arr : Array Value} (h : RelLK K cs arr) (hlen : cs.length = len * sz) :
    ∀ i j, i < len → j < sz → RelK K (((chunks sz len cs).getD i []).getD j .junk) (arr.getD (i * sz + j) undef) ∧ (arr.getD (i * sz + j) undef).oneCell' = true := by
  intro i j hi hj
  rw [chunks_get hi, getD_sub _ _ _ _ hj]
  have : (i + 1) * sz ≤ len * sz := Nat.mul_le_mul_right _ hi
  rw [Nat.add_mul, Nat.one_mul] at this
  exact h.2 (i * sz + j) (by omega)

/-- A list of immutable elements out of a known row. -/
theorem relK_lst_of {K : Know} {sz n g cap : Nat} {f : Nat → List C} {arr : Array Value} {T : TypeId} {fz : Nat × Nat} (hK : K g = some (.cells arr T fz)) (hl : ∀ i, i < n → (f i).length = sz) (hs : n * sz ≤ arr.size) (hcap : n ≤ cap)
    (hr : ∀ i j, i < n → j < sz → RelK K ((f i).getD j .junk) (arr.getD (i * sz + j) undef) ∧ (arr.getD (i * sz + j) undef).oneCell' = true) : RelK K (.lst sz n f) (.slice (some ⟨g, 0, none⟩) n cap) := by
  refine .lst sz n f g 0 cap arr T fz (fun i j => arr.getD (i * sz + j) undef) hK (fun i j hi hj => ?_) hl (fun i j hi hj => (hr i j hi hj).1) (fun i j hi hj => (hr i j hi hj).2) hcap
  have : (i + 1) * sz ≤ n * sz := Nat.mul_le_mul_right _ hi
  rw [Nat.add_mul, Nat.one_mul] at this
  have hlt : i * sz + j < arr.size := by omega
  simp [hlt]

/-! ### A row is made -/

theorem run_buildSlice {t e : TypeId} {len : Nat} {parts : Array (Nat × Value)} {z : Value} {arr : Array Value} (ht : P.underlying t = some (.slice e)) (hz : zeroT P e = some z) (hsz : 0 < sizeT P e) (hle : len * sizeT P e ≤ 16777216)
    (hf : Instr.fill (fun i => some (i * sizeT P e, sizeT P e)) ((Array.range (len * sizeT P e)).map (fun j => z.cells[j % z.cells.size]!)) parts.toList = some arr) :
    (Instr.buildSlice t len parts).run P w = .ok (.slice (some ⟨w.heap.size, 0, none⟩) len len) (w.alloc (.cells arr e)) := by
  unfold Instr.buildSlice
  rw [Sem.run_bind, run_underlying ht]
  simp only [Result.andThen_ok]
  rw [Sem.run_bind, run_sizeOf hsz]
  simp only [Result.andThen_ok]
  rw [if_neg (by omega)]
  by_cases h0 : len * sizeT P e = 0
  · rw [h0] at hf
    have hr0 : Array.range 0 = #[] := rfl
    simp only [hr0, Array.map_empty] at hf
    simp only [h0, if_true, Sem.run_bind, Sem.run_pure, Result.andThen_ok, hr0, Array.map_empty, hf, newRow, run_newObj, World.alloc_eq]
  · simp only [if_neg h0, Sem.run_bind, run_zeroValue hz, Sem.run_pure, Result.andThen_ok, hf, newRow, run_newObj, World.alloc_eq]

theorem start_cells {K : Know} {z : Value} {len : Nat} (h : z.cells.all Value.oneCell' = true) (hpos : 0 < z.cells.size) :
    RelLK K (List.replicate len (z.cells.toList.map valC)).flatten ((Array.range (len * z.cells.size)).map (fun j => z.cells[j % z.cells.size]!)) := by
  have hz := zero_cells (E := { K := K, cel := fun _ => none, rw := fun _ => none, mp := fun _ => none, c := { w0 := default, K0 := K, ds := [], l := 0, i := 0, xs := [], k := 0, fix := fun _ => undef } }) h
  refine rel_flat (sz := z.cells.size) hpos (fun c hc => ?_) (by simp) (fun i j hi hj => ?_)
  · rw [(List.mem_replicate.1 hc).2]; simp
  · simp only [List.length_replicate] at hi
    have e1 : ((List.replicate len (z.cells.toList.map valC)).getD i []) = z.cells.toList.map valC := by simp [List.getD_eq_getElem?_getD, hi]
    have hlt : i * z.cells.size + j < len * z.cells.size := by
      have : (i + 1) * z.cells.size ≤ len * z.cells.size := Nat.mul_le_mul_right _ hi
      rw [Nat.add_mul, Nat.one_mul] at this
      omega
    have e2 : ((Array.range (len * z.cells.size)).map (fun j => z.cells[j % z.cells.size]!)).getD (i * z.cells.size + j) undef = z.cells.getD j undef := by
      have hm : (i * z.cells.size + j) % z.cells.size = j := by rw [Nat.mul_comm, Nat.mul_add_mod]; exact Nat.mod_eq_of_lt hj
      simp [hlt, hm, hj]
    rw [e1, e2]
    exact hz.2 j (by simpa using hj)

/-- A new own row. -/
theorem Core.allocRow {n e sz len : Nat} {css : List (List C)} {arr : Array Value} (hc : Core B E m w) (hm : m[n]? = some none) (hsz : 0 < sz) (hl : ∀ c, c ∈ css → c.length = sz) (hlen : css.length = len) (hmax : len ≤ maxLen) (hs : arr.size = len * sz)
    (hr : RelLK E.K css.flatten arr) :
    ∃ E', E.Le E' ∧ E'.rw n = some (.slice (some ⟨w.heap.size, 0, none⟩) len len, len) ∧ Core B E' (m.set n (some (.row e sz css))) (w.alloc (.cells arr e)) := by
  obtain ⟨hcn, hrn, hmn⟩ := hc.nothing hm
  subst hlen
  let E' : Env := { E with rw := fun k => if k = n then some (.slice (some ⟨w.heap.size, 0, none⟩) css.length css.length, css.length) else E.rw k }
  have hrw : E'.rw n = some (.slice (some ⟨w.heap.size, 0, none⟩) css.length css.length, css.length) := if_pos rfl
  have hle : E.Le E' := ⟨Know.le_refl _, fun _ _ h => h, fun _ _ h => h, rfl, fun r hd k h => by
      refine ⟨hd, k, ?_, Nat.le_refl _, fun _ => rfl⟩
      show (if r = n then _ else E.rw r) = _
      by_cases hk : r = n
      · subst hk; rw [hrn] at h; cases h
      · rw [if_neg hk]; exact h⟩
  refine ⟨E', hle, hrw, hc.step ⟨_, hm⟩ hle rfl (fun k hk => ⟨rfl, if_neg hk, rfl⟩) (fun b h => ?_) (fun x h => rfl) (fun b h => ?_) ?_ (fun b' h => ?_) (by rw [World.size_alloc]; omega) rfl rfl rfl (fun b' hb' hh => heap_alloc_old w _ b' hb')⟩
  · rw [show E'.cel n = E.cel n from rfl, hcn] at h; cases h
  · rw [show E'.mp n = E.mp n from rfl, hmn] at h; cases h
  · refine ⟨hsz, hl, _, arr.toList, hrw, ⟨by simp [hs], .inr ⟨w.heap.size, css.length, arr, rfl, Nat.zero_le _, heap_alloc_new w _, Nat.le_refl _, hmax, hs, ?_⟩⟩, by simpa using hr⟩
    rw [← hs]; exact List.take_of_length_le (by simp)
  · rcases h with h | h | ⟨hd, k, h, h'⟩
    · rw [show E'.cel n = E.cel n from rfl, hcn] at h; cases h
    · rw [show E'.mp n = E.mp n from rfl, hmn] at h; cases h
    · rw [hrw] at h
      cases h
      simp only [Value.ownBlock, Option.some.injEq] at h'
      subst h'
      exact ⟨.inl (Nat.le_refl _), by rw [World.size_alloc]; omega⟩

/-- A new own row that has more room. -/
theorem Core.allocRowC {n e sz len cap : Nat} {css : List (List C)} {arr : Array Value} (hc : Core B E m w) (hm : m[n]? = some none) (hsz : 0 < sz) (hl : ∀ c, c ∈ css → c.length = sz) (hlen : css.length = len) (hlc : len ≤ cap) (hmax : cap ≤ maxLen) (hs : arr.size = cap * sz)
    (hr : RelLK E.K css.flatten (arr.toList.take (len * sz)).toArray) :
    ∃ E', E.Le E' ∧ E'.rw n = some (.slice (some ⟨w.heap.size, 0, none⟩) len cap, len) ∧ Core B E' (m.set n (some (.row e sz css))) (w.alloc (.cells arr e)) := by
  obtain ⟨hcn, hrn, hmn⟩ := hc.nothing hm
  subst hlen
  let E' : Env := { E with rw := fun k => if k = n then some (.slice (some ⟨w.heap.size, 0, none⟩) css.length cap, css.length) else E.rw k }
  have hrw : E'.rw n = some (.slice (some ⟨w.heap.size, 0, none⟩) css.length cap, css.length) := if_pos rfl
  have hle : E.Le E' := ⟨Know.le_refl _, fun _ _ h => h, fun _ _ h => h, rfl, fun r hd k h => by
      refine ⟨hd, k, ?_, Nat.le_refl _, fun _ => rfl⟩
      show (if r = n then _ else E.rw r) = _
      by_cases hk : r = n
      · subst hk; rw [hrn] at h; cases h
      · rw [if_neg hk]; exact h⟩
  have hcs : css.length * sz ≤ cap * sz := Nat.mul_le_mul_right _ hlc
  refine ⟨E', hle, hrw, hc.step ⟨_, hm⟩ hle rfl (fun k hk => ⟨rfl, if_neg hk, rfl⟩) (fun b h => ?_) (fun x h => rfl) (fun b h => ?_) ?_ (fun b' h => ?_) (by rw [World.size_alloc]; omega) rfl rfl rfl (fun b' hb' hh => heap_alloc_old w _ b' hb')⟩
  · rw [show E'.cel n = E.cel n from rfl, hcn] at h; cases h
  · rw [show E'.mp n = E.mp n from rfl, hmn] at h; cases h
  · refine ⟨hsz, hl, _, arr.toList.take (css.length * sz), hrw, ⟨by rw [List.length_take]; exact Nat.min_eq_left (by rw [show arr.toList.length = arr.size from rfl, hs]; exact hcs), .inr ⟨w.heap.size, cap, arr, rfl, Nat.zero_le _, heap_alloc_new w _, hlc, hmax, hs, rfl⟩⟩, hr⟩
  · rcases h with h | h | ⟨hd, k, h, h'⟩
    · rw [show E'.cel n = E.cel n from rfl, hcn] at h; cases h
    · rw [show E'.mp n = E.mp n from rfl, hmn] at h; cases h
    · rw [hrw] at h
      cases h
      simp only [Value.ownBlock, Option.some.injEq] at h'
      subst h'
      exact ⟨.inl (Nat.le_refl _), by rw [World.size_alloc]; omega⟩

/-- A new block that is known from its start. -/
theorem Core.allocK (hc : Core B E m w) (o : Obj) : ∃ E', E.Le E' ∧ E'.K w.heap.size = some o ∧ Core B E' m (w.alloc o) := by
  let K' : Know := fun b => if b = w.heap.size then some o else E.K b
  have hnone : E.K w.heap.size = none := by
    cases h : E.K w.heap.size with
    | none => rfl
    | some x => have := (Array.getElem?_eq_some_iff.1 (hc.know _ x h)).1; omega
  have hle : E.K.le K' := fun b x h => by
    show (if b = w.heap.size then _ else _) = _
    rw [if_neg]
    · exact h
    · intro e; rw [e, hnone] at h; cases h
  obtain ⟨h1, h2⟩ := hc.called (K' := K') (w' := w.alloc o) hle (fun b hb hn => by
    show (if b = w.heap.size then _ else _) = _
    rw [if_neg (by omega)]; exact hn) (fun b x h => by
      change (if b = w.heap.size then some o else E.K b) = some x at h
      by_cases hb : b = w.heap.size
      · rw [if_pos hb] at h
        cases h
        rw [hb]; exact heap_alloc_new w _
      · rw [if_neg hb] at h
        have h3 := hc.know b x h
        have := (Array.getElem?_eq_some_iff.1 h3).1
        rw [heap_alloc_old w _ b this]; exact h3) ⟨rfl, rfl, rfl, by rw [World.size_alloc]; omega, fun b hb => heap_alloc_old w _ b hb⟩
  exact ⟨_, h1, if_pos rfl, h2⟩

theorem buildSlice_sound {o : Oper} {a : Act} {t : TypeId} {len : Nat} {ps : Array (Nat × Operand)} {vs : List SB} {r : SB} {ms' : List (Option (Option MO))} {q : List Prop} {h : Hint} (hc : Core B E m w) (ho : o.op = .buildSlice t len ps)
    (hv : Vals E a.eval (ps.toList.map (·.2)) vs) (hact : actBuildSlice P t len ps.toList o.dst vs ((Op.names o.op o.dst vs).map (getM m)) h = some (r, ms', q)) (hq : allP q) :
    Done P B E (if Op.wr o.op h then putM m (Op.names o.op o.dst vs) ms' else m) r o a w := by
  unfold actBuildSlice at hact
  rw [ho] at hact ⊢
  split at hact
  case h_2 => cases hact
  rename_i e hu
  split at hact
  case h_2 => cases hact
  rename_i parts z hz hzt
  obtain ⟨hck, hact⟩ := ck_some hact
  simp only [Bool.and_eq_true] at hck
  obtain ⟨⟨hrow, hmax⟩, himm⟩ := hck
  obtain ⟨hzs, hpos, hone⟩ := ckRow_spec hrow
  have hmax : len * sizeT P e ≤ 16777216 := by simpa using hmax
  split at hact
  case h_2 => cases hact
  rename_i cs hfill
  obtain ⟨hlen, hrel⟩ := zipParts_rel hz hv
  have hstart := start_cells (K := E.K) (len := len) hone (by omega)
  obtain ⟨arr, hf, hr⟩ := fill_imm hfill hlen himm hrel hstart
  rw [hzs] at hf
  have hps : (ps.map fun (p : Nat × Operand) => (p.1, a.eval p.2)).toList = ps.toList.map fun p => (p.1, a.eval p.2) := by simp
  have hrun : (execOp a.eval o).run P w = .ok (.value (.slice (some ⟨w.heap.size, 0, none⟩) len len)) (w.alloc (.cells arr e)) := by
    simp only [execOp, ho, Sem.run_bind, run_buildSlice (w := w) (parts := ps.map fun (p : Nat × Operand) => (p.1, a.eval p.2)) hu hzt hpos hmax (by rw [hps]; rw [hzs]; exact hf), Result.andThen_ok, Sem.run_pure]
  have hcsl : cs.length = len * sizeT P e := by
    have : ∀ {place : Nat → Option (Nat × Nat)} {parts : List (Nat × CV)} {c r : List C}, fillC place c parts = some r → r.length = c.length := by
      intro place parts
      induction parts with
      | nil => intro c r h; simp only [fillC] at h; cases h; rfl
      | cons p parts ih =>
        intro c r h
        obtain ⟨i, v⟩ := p
        simp only [fillC] at h
        split at h
        · cases h
        · split at h
          · rename_i hck
            simp only [Bool.and_eq_true, Nat.beq_eq, Nat.ble_eq] at hck
            rw [ih h, splice_length _ _ _ hck.2]
          · cases h
    rw [this hfill, flatten_length _ (sizeT P e) (fun c hc => by rw [(List.mem_replicate.1 hc).2]; simp [hzs])]
    simp
  have hasz : arr.size = len * sizeT P e := hr.1.trans hcsl
  have hlm : len ≤ maxLen := by
    have : len ≤ len * sizeT P e := Nat.le_mul_of_pos_right len hpos
    simp only [maxLen]; omega
  split at hact
  · split at hact
    · rename_i n hd hm
      cases hact
      simp only [Op.names, hd, Option.toList_some, List.map_cons, List.map_nil] at hm ⊢
      have hmn : m[n]? = some none := by
        have := (List.cons.inj hm).1
        simpa [getM] using this
      obtain ⟨E', hle, hrw, hc'⟩ := hc.allocRow (e := e) (css := chunks (sizeT P e) len cs) hmn hpos (chunks_len hcsl) (chunks_length _ _ _) hlm hasz
        (rel_flat hpos (chunks_len hcsl) (by rw [chunks_length]; exact hasz) (fun i j hi hj => rel_chunks hr hcsl i j (by rwa [chunks_length] at hi) hj))
      intro next Q hn
      refine wpIn_of (by intro c hc; rw [ho] at hc; cases hc) ?_
      rw [hrun]
      exact hn _ _ E' hle hc' ⟨⟨_, _, hrw, Nat.le_refl _, fun _ => rfl⟩, rfl⟩
    · cases hact
  · rename_i n f _
    cases hact
    obtain ⟨hnl, hfe⟩ := hq
    subst hnl
    obtain ⟨E', hle, hK, hc'⟩ := hc.allocK (.cells arr e)
    intro next Q hn
    refine wpIn_of (by intro c hc; rw [ho] at hc; cases hc) ?_
    rw [hrun]
    refine hn _ _ E' hle hc' ⟨relK_lst_of hK (fun i hi => ?_) (by omega) (Nat.le_refl _) (fun i j hi hj => ?_), rfl⟩
    · rw [hfe i hi, chunks_get hi]
      exact length_sub _ _ _ (by
        have : (i + 1) * sizeT P e ≤ n * sizeT P e := Nat.mul_le_mul_right _ hi
        rw [Nat.add_mul, Nat.one_mul] at this
        omega)
    · rw [hfe i hi]
      obtain ⟨g1, g2⟩ := rel_chunks hr hcsl i j hi hj
      exact ⟨g1.mono hle.K, g2⟩
  · cases hact

theorem run_makeSlice {t e : TypeId} {z : Value} {l c : Int} (ht : P.underlying t = some (.slice e)) (hz : zeroT P e = some z) (hsz : 0 < sizeT P e) (hz1 : z.cells.size = sizeT P e) (h0 : 0 ≤ l) (h1 : l ≤ c) (h2 : c * ((bytesT P e : Int) + 1) ≤ 140737488355328) :
    (Instr.makeSlice t (.int .i64 l) (.int .i64 c)).run P w = .ok (.slice (some ⟨w.heap.size, 0, none⟩) l.toNat c.toNat) (w.alloc (.cells ((Array.range (c.toNat * z.cells.size)).map (fun j => z.cells[j % z.cells.size]!)) e)) := by
  have hb : 0 ≤ (bytesT P e : Int) := Int.natCast_nonneg _
  have hc0 : 0 ≤ c := by omega
  have hcb : c * ((bytesT P e : Int) + 1) = c * (bytesT P e : Int) + c := by rw [Int.mul_add, Int.mul_one]
  have hcb0 : 0 ≤ c * (bytesT P e : Int) := Int.mul_nonneg hc0 hb
  obtain ⟨ti, hti, hsize⟩ := sizeT_info hsz
  have hby : bytesT P e = ti.bytes := by simp [bytesT, hti]
  have hzero : ti.zero = some z := by simpa [zeroT, hti] using hz
  have hr := run_make (P := P) w t e ti z ht hti hzero .i64 .i64 l c h0 h1 (by rw [← hby, Int.mul_comm]; omega) (by omega)
  rw [hr, hsize, ← hz1]; rfl

theorem makeSlice_sound {o : Oper} {a : Act} {t : TypeId} {x y : Operand} {vs : List SB} {r : SB} {ms' : List (Option (Option MO))} {q : List Prop} (hc : Core B E m w) (ho : o.op = .makeSlice t x y)
    (hv : Vals E a.eval [x, y] vs) (hact : actMakeSlice P t o.dst vs ((Op.names o.op o.dst vs).map (getM m)) = some (r, ms', q)) (hq : allP q) :
    Done P B E (putM m (Op.names o.op o.dst vs) ms') r o a w := by
  unfold actMakeSlice at hact
  rw [ho] at hact ⊢
  split at hact
  case h_2 => cases hact
  rename_i e hu
  split at hact
  case h_2 => cases hact
  rename_i z l c hzt
  obtain ⟨hx, hy⟩ := Vals.two hv
  have e1 := relSB_int hx
  have e2 := relSB_int hy
  obtain ⟨hrow, hact⟩ := ck_some hact
  obtain ⟨hzs, hpos, hone⟩ := ckRow_spec hrow
  split at hact
  case h_2 => cases hact
  rename_i n hd hm
  cases hact
  obtain ⟨h0, h1, h2⟩ : 0 ≤ l ∧ l ≤ c ∧ c * ((bytesT P e : Int) + 1) ≤ 140737488355328 := hq
  simp only [Op.names, hd, Option.toList_some, List.map_cons, List.map_nil] at hm ⊢
  have hmn : m[n]? = some none := by
    have := (List.cons.inj hm).1
    simpa [getM] using this
  have hrun : (execOp a.eval o).run P w = .ok (.value (.slice (some ⟨w.heap.size, 0, none⟩) l.toNat c.toNat)) (w.alloc (.cells ((Array.range (c.toNat * z.cells.size)).map (fun j => z.cells[j % z.cells.size]!)) e)) := by
    simp only [execOp, ho, e1, e2, Sem.run_bind, run_makeSlice (w := w) hu hzt hpos hzs h0 h1 h2, Result.andThen_ok, Sem.run_pure]
  have hcm : c.toNat ≤ maxLen := by
    have hb : 0 ≤ (bytesT P e : Int) := Int.natCast_nonneg _
    have hcb : c * ((bytesT P e : Int) + 1) = c * (bytesT P e : Int) + c := by rw [Int.mul_add, Int.mul_one]
    have hcb0 : 0 ≤ c * (bytesT P e : Int) := Int.mul_nonneg (by omega) hb
    simp only [maxLen]; omega
  have hst := start_cells (K := E.K) (z := z) (len := c.toNat) hone (by omega)
  obtain ⟨E', hle, hrw, hc'⟩ := hc.allocRowC (e := e) (sz := sizeT P e) (len := l.toNat) (cap := c.toNat) (css := List.replicate l.toNat (z.cells.toList.map valC)) (arr := (Array.range (c.toNat * z.cells.size)).map (fun j => z.cells[j % z.cells.size]!)) hmn hpos
    (fun c hc => by rw [(List.mem_replicate.1 hc).2]; simp [hzs]) (by simp) (by omega) hcm (by simp [hzs]) (by
      have hl : l.toNat * sizeT P e ≤ c.toNat * sizeT P e := Nat.mul_le_mul_right _ (by omega)
      have e3 : (((Array.range (c.toNat * z.cells.size)).map (fun j => z.cells[j % z.cells.size]!)).toList.take (l.toNat * sizeT P e)).toArray = (Array.range (l.toNat * z.cells.size)).map (fun j => z.cells[j % z.cells.size]!) := by
        apply Array.ext'
        simp only [Array.toList_map, Array.toList_range]
        rw [← List.map_take, List.take_range, Nat.min_eq_left (by rw [hzs]; exact hl), hzs]
      rw [e3]
      exact start_cells hone (by omega))
  intro next Q hn
  refine wpIn_of (by intro c hc; rw [ho] at hc; cases hc) ?_
  rw [hrun]
  exact hn _ _ E' hle hc' ⟨⟨_, _, hrw, Nat.le_refl _, fun _ => rfl⟩, rfl⟩

end Go.Sym
