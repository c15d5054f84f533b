/-
  THE SYMBOLIC LAYER, PART G: one step of a region; a region in the order of its text; a region in whatever order.
-/
import Derived.Test.YtaaplpbjjnechaaSymP4
namespace Go.Sym
open Go.RowKit

variable {P : Program} {B : Base P} {E : Env} {m : List (Option MO)} {w : World}

theorem move_sound {o : Oper} {a : Act} {x : Operand} {v : SB} (hc : Core B E m w) (ho : o.op = .move x ∨ o.op = .assign x) (hv : RelSB E v (a.eval x)) : Done P B E m v o a w := by
  refine done_value hc ?_ hv
  rcases ho with ho | ho <;> simp only [execOp, ho, Sem.run_pure]

theorem nilCheck_sound {o : Oper} {a : Act} {x : Operand} {vs : List SB} {r : SB} {ms ms' : List (Option (Option MO))} {q : List Prop} (hc : Core B E m w) (ho : o.op = .nilCheck x)
    (hv : Vals E a.eval [x] vs) (hact : actNilCheck vs ms = some (r, ms', q)) : Done P B E m r o a w := by
  obtain ⟨v, rfl, hx⟩ := vals1 hv
  unfold actNilCheck at hact
  split at hact
  · rename_i n off heq
    cases heq
    cases hact
    obtain ⟨b, hb, he⟩ : RelP E n off (a.eval x) := relSB_c hx
    refine done_value hc ?_ hx
    simp only [execOp, ho, he, Sem.run_pure]
  · rename_i f cs heq
    cases heq
    cases hact
    refine done_value hc ?_ hx
    have hk : RelK E.K (.clo f cs) (a.eval x) := relSB_c hx
    generalize he : a.eval x = u at hk
    cases hk
    simp only [execOp, ho, he, Sem.run_pure]
  · cases hact

/-- Every operation of the evaluator. -/
theorem act_sound {o : Oper} {a : Act} {vs : List SB} {r : SB} {ms' : List (Option (Option MO))} {q : List Prop} {h : Hint} (hF : h.elder = true → ∀ b, ¬ B.W b) (hc : Core B E m w) (hv : Vals E a.eval o.op.operands.toList vs)
    (hact : act P o.op o.dst vs ((Op.names o.op o.dst vs).map (getM m)) h = some (r, ms', q)) (hq : allP q) :
    Done P B E (if Op.wr o.op h then putM m (Op.names o.op o.dst vs) ms' else m) r o a w := by
  generalize hms : (Op.names o.op o.dst vs).map (getM m) = ms at hact
  cases ho : o.op with
  | move x =>
    simp only [ho, act] at hact
    rw [ho] at hv
    obtain ⟨v, rfl, hx⟩ := vals1 hv
    cases hact
    exact move_sound hc (.inl ho) hx
  | assign x =>
    simp only [ho, act] at hact
    rw [ho] at hv
    obtain ⟨v, rfl, hx⟩ := vals1 hv
    cases hact
    exact move_sound hc (.inr ho) hx
  | alloc t =>
    simp only [ho, act] at hact
    simp only [Op.wr, Op.writes, if_true, ← ho]
    exact alloc_sound hc ho (by rw [hms]; exact hact)
  | box t x =>
    simp only [ho, act] at hact
    cases h with
    | imm => exact boxImm_sound hc ho (by simpa [ho, Op.operands] using hv) hact
    | _ =>
      simp only [Op.wr, Op.writes, if_true, ← ho]
      exact box_sound hc ho (by simpa [ho, Op.operands] using hv) (by rw [hms]; exact hact)
  | buildSlice t len ps =>
    simp only [ho, act] at hact
    rw [← ho]
    exact buildSlice_sound hc ho (by simpa [ho, Op.operands] using hv) (by rw [hms]; exact hact) hq
  | makeSlice t x y =>
    simp only [ho, act] at hact
    simp only [Op.wr, Op.writes, if_true, ← ho]
    exact makeSlice_sound hc ho (by simpa [ho, Op.operands] using hv) (by rw [hms]; exact hact) hq
  | makeMap t r =>
    cases r with
    | some r => simp [ho, act] at hact
    | none =>
      simp only [ho, act] at hact
      simp only [Op.wr, Op.writes, if_true, ← ho]
      exact makeMap_sound hc ho (by rw [hms]; exact hact)
  | insert t x y z =>
    simp only [ho, act] at hact
    simp only [Op.wr, Op.writes, if_true, ← ho]
    exact insert_sound hc ho (by simpa [ho, Op.operands] using hv) (by rw [hms]; exact hact) hq
  | lookup t x y ok =>
    simp only [ho, act] at hact
    simp only [Op.wr, Op.writes, Bool.false_eq_true, if_false]
    exact lookup_sound hc ho (by simpa [ho, Op.operands] using hv) (by rw [hms]; exact hact) hq
  | mapEntry t x y =>
    simp only [ho, act] at hact
    simp only [Op.wr, Op.writes, if_true, ← ho]
    exact entry_sound hc ho (by simpa [ho, Op.operands] using hv) (by rw [hms]; exact hact) hq
  | entryStore t x y z =>
    simp only [ho, act] at hact
    simp only [Op.wr, Op.writes, if_true, ← ho]
    exact entryStore_sound hc ho (by simpa [ho, Op.operands] using hv) (by rw [hms]; exact hact) hq
  | load t x =>
    simp only [ho, act] at hact
    show Done P B E m r o a w
    obtain ⟨q0, hact0, hq0⟩ := actLoadH_some hact hq
    exact load_sound hc ho (by simpa [ho, Op.operands] using hv) (by rw [hms]; exact hact0) hq0
  | store t x y =>
    simp only [ho, act] at hact
    simp only [Op.wr, Op.writes, if_true, ← ho]
    obtain ⟨q0, hact0, hq0⟩ := actStoreH_some hact hq
    exact store_sound hc ho (by simpa [ho, Op.operands] using hv) (by rw [hms]; exact hact0) hq0
  | nilCheck x =>
    simp only [ho, act] at hact
    exact nilCheck_sound hc ho (by simpa [ho, Op.operands] using hv) hact
  | binOp op t x y t' =>
    simp only [ho, act] at hact
    exact bin_sound hc ho (by simpa [ho, Op.operands] using hv) hact hq
  | unOp op t x =>
    simp only [ho, act] at hact
    exact un_sound hc ho (by simpa [ho, Op.operands] using hv) hact
  | convert s t x =>
    simp only [ho, act] at hact
    exact convert_sound hc ho (by simpa [ho, Op.operands] using hv) hact
  | fieldAddr t x fl =>
    simp only [ho, act] at hact
    exact fieldAddr_sound hc ho hms.symm (by simpa [ho, Op.operands] using hv) hact hq
  | field t x fl =>
    simp only [ho, act] at hact
    exact field_sound hc ho (by simpa [ho, Op.operands] using hv) hact hq
  | indexAddr t x y =>
    simp only [ho, act] at hact
    exact indexAddr_sound hc ho hms.symm (by simpa [ho, Op.operands] using hv) hact hq
  | index t x y =>
    simp only [ho, act] at hact
    exact index_sound hc ho (by simpa [ho, Op.operands] using hv) hact hq
  | extract x i =>
    simp only [ho, act] at hact
    exact extract_sound hc ho (by simpa [ho, Op.operands] using hv) hact
  | build t ps =>
    simp only [ho, act] at hact
    exact build_sound hc ho (by simpa [ho, Op.operands] using hv) hact
  | slice t x lo hi mx =>
    simp only [ho, act] at hact
    exact sliceArr_sound hc ho (by simpa [ho, Op.operands] using hv) hact hq
  | makeFunc fn first captured =>
    cases fn with
    | func f =>
      simp only [ho, act] at hact
      split at hact
      · rename_i h1
        split at hact
        · rename_i cs hcs
          cases hact
          exact closure_sound hc ho h1 (by simpa [ho, Op.operands] using hv) hcs
        · split at hact
          · rename_i ps hps
            cases hact
            exact oclosure_sound hc ho h1 (by simpa [ho, Op.operands] using hv) hps
          · cases hact
      · split at hact
        · rename_i h1
          split at hact
          · rename_i ps hps
            cases hact
            exact bclosure_sound hc ho h1 (by simpa [ho, Op.operands] using hv) hps
          · cases hact
        · cases hact
    | _ => simp [ho, act] at hact
  | call c =>
    simp only [ho, act] at hact
    rw [ho] at hv
    cases hcal : c.callee with
    | value f =>
      simp only [hcal] at hact
      have hv' : Vals E a.eval (f :: c.args.toList) vs := by simpa [Op.operands, Call.operands, hcal] using hv
      have : Op.wr (.call c) h = false := Op.wr_le <| by
        obtain ⟨callee, args, argTypes⟩ := c
        simp only at hcal
        subst hcal
        rfl
      simp only [this, Bool.false_eq_true, if_false]
      exact callee_sound hc ho hcal hv' hact hq
    | invoke r n => simp [hcal] at hact
    | builtin b =>
      have hv' : Vals E a.eval c.args.toList vs := by simpa [Op.operands, Call.operands, hcal] using hv
      cases b <;> simp only [hcal] at hact <;> (try (cases hact; done))
      case len =>
        have hw : Op.wr (.call c) h = false := Op.wr_le <| by
          obtain ⟨callee, args, argTypes⟩ := c
          simp only at hcal
          subst hcal
          rfl
        simp only [hw, Bool.false_eq_true, if_false]
        split at hact
        · rename_i t ht
          have h1 : ∃ x, c.args.toList = [x] := by
            unfold actLen at hact
            split at hact
            · have := hv'.1
              match hl : c.args.toList, this with
              | [x], _ => exact ⟨x, rfl⟩
            · cases hact
          obtain ⟨x, hx⟩ := h1
          exact len_sound hc ho hcal hx ht hms.symm (by rwa [hx] at hv') hact hq
        · cases hact
      case max =>
        have hw : Op.wr (.call c) h = false := Op.wr_le <| by
          obtain ⟨callee, args, argTypes⟩ := c
          simp only at hcal
          subst hcal
          rfl
        simp only [hw, Bool.false_eq_true, if_false]
        unfold actMM at hact
        split at hact
        · have h3 : ∃ x y z, c.args.toList = [x, y, z] := by
            have := hv'.1
            match hl : c.args.toList, this with
            | [x, y, z], _ => exact ⟨x, y, z, rfl⟩
          obtain ⟨x, y, z, hx⟩ := h3
          exact minmax3_sound (mx := true) hc ho hcal hx (by rwa [hx] at hv') hact
        · have h1 : ∃ x y, c.args.toList = [x, y] := by
            unfold actMinMax at hact
            split at hact
            · have := hv'.1
              match hl : c.args.toList, this with
              | [x, y], _ => exact ⟨x, y, rfl⟩
            · cases hact
          obtain ⟨x, y, hx⟩ := h1
          exact minmax_sound (mx := true) hc ho hcal hx (by rwa [hx] at hv') hact
      case min =>
        have hw : Op.wr (.call c) h = false := Op.wr_le <| by
          obtain ⟨callee, args, argTypes⟩ := c
          simp only at hcal
          subst hcal
          rfl
        simp only [hw, Bool.false_eq_true, if_false]
        unfold actMM at hact
        split at hact
        · have h3 : ∃ x y z, c.args.toList = [x, y, z] := by
            have := hv'.1
            match hl : c.args.toList, this with
            | [x, y, z], _ => exact ⟨x, y, z, rfl⟩
          obtain ⟨x, y, z, hx⟩ := h3
          exact minmax3_sound (mx := false) hc ho hcal hx (by rwa [hx] at hv') hact
        · have h1 : ∃ x y, c.args.toList = [x, y] := by
            unfold actMinMax at hact
            split at hact
            · have := hv'.1
              match hl : c.args.toList, this with
              | [x, y], _ => exact ⟨x, y, rfl⟩
            · cases hact
          obtain ⟨x, y, hx⟩ := h1
          exact minmax_sound (mx := false) hc ho hcal hx (by rwa [hx] at hv') hact
      case append =>
        have hw : Op.wr (.call c) h = true := by
          obtain ⟨callee, args, argTypes⟩ := c
          simp only at hcal
          subst hcal
          rfl
        simp only [hw, if_true]
        rw [← ho]
        exact append_sound hc hF ho hcal hv' (by rw [hms]; exact hact) hq
  | _ => simp [ho, act] at hact

/-! ### The guards -/

/-- What the outcomes of the guards say of the slots. -/
def GOk (ops : Array Oper) (s : S) : Prop :=
  ∀ (j : Nat) (b : Bool), s.g[j]? = some (some b) → ∃ o d, ops[j]? = some o ∧ o.dst = some d ∧ (s.t[d]? = some (.b (.v (.c (.bool b)))) ∨ ∃ p, s.t[d]? = some (.may p (.v (.c (.bool b)))))
/-- The guards of a slot are decided. -/
def PathOk (g : List (Option Bool)) (p : Path) : Prop := ∀ j b, (j, b) ∈ p → ∃ x, g[j]? = some (some x)
def POk (s : S) : Prop := ∀ (k : Nat) (p : Path) (x : SB), s.t[k]? = some (.may p x) → PathOk s.g p ∧ p ≠ []

structure RSim {P : Program} (B : Base P) (E : Env) (ops : Array Oper) (s : S) (a : Act) (w : World) : Prop where
  sim : Sim B E s a w
  gok : GOk ops s
  pok : POk s

theorem bw_iff (b w : Bool) : bw b w = true ↔ b = w := by cases b <;> cases w <;> simp [bw]

theorem tmps_get {a : Act} {d : Nat} {u : Value} (hd : d < a.tmps.size) (h : a.tmps.getD d undef = u) : a.tmps[d]? = some u := by
  simp [hd] at h
  simp [hd, h]

/-- The machine runs a guarded operation exactly if its guards hold. -/
theorem wanted_iff {ops : Array Oper} {s : S} {a : Act} {o : Oper} {p : Path} (hs : RSim B E ops s a w) (hp : guardPath ops s o = some p) :
    Region.wanted o (yielded ops a.tmps) = holds s.g p ∧ PathOk s.g p := by
  unfold guardPath at hp
  unfold Region.wanted
  cases hg : o.guard with
  | none =>
    simp only [hg] at hp
    cases hp
    exact ⟨rfl, fun j b h => by cases h⟩
  | some jw =>
    obtain ⟨j, want⟩ := jw
    simp only [hg] at hp
    change (yielded ops a.tmps j == some want) = holds s.g p ∧ PathOk s.g p
    cases hdst : (ops[j]?).bind (·.dst) with
    | none => simp [hdst] at hp
    | some d =>
      simp only [hdst] at hp
      split at hp
      · rename_i d' b hd' hgj
        cases hd'
        obtain ⟨o', d', ho', hd', hslot⟩ := hs.gok j b hgj
        have hdd : d' = d := by simp [ho', hd'] at hdst; exact hdst
        subst hdd
        have hy : yielded ops a.tmps j = match a.tmps[d']? with | some (.bool b) => some b | _ => none := by
          unfold yielded
          rw [hdst]
          rfl
        rcases hslot with hslot | ⟨p', hslot⟩
        · rw [hslot] at hp
          simp only at hp
          cases hp
          have hlt : d' < a.tmps.size := by rw [hs.sim.size]; exact (List.getElem?_eq_some_iff.1 hslot).1
          have hb := tmps_get hlt (relSB_bool (hs.sim.slot d' _ hslot))
          rw [hy, hb]
          refine ⟨?_, fun j' b' h => ?_⟩
          · simp only [holds, hgj, Bool.true_and]
            cases b <;> cases want <;> rfl
          · simp only [List.mem_singleton, Prod.mk.injEq] at h
            rw [h.1]; exact ⟨b, hgj⟩
        · rw [hslot] at hp
          simp only at hp
          cases hp
          have hlt : d' < a.tmps.size := by rw [hs.sim.size]; exact (List.getElem?_eq_some_iff.1 hslot).1
          have hsl := hs.sim.slot d' _ hslot
          have hpok := (hs.pok d' _ _ hslot).1
          refine ⟨?_, fun j' b' h => ?_⟩
          · simp only [holds, hgj]
            cases hh : holds s.g p' with
            | true =>
              have hb := tmps_get hlt (relSB_bool (hsl.1 hh))
              rw [hy, hb]
              cases b <;> cases want <;> rfl
            | false =>
              have hb := tmps_get hlt (hsl.2 hh)
              rw [hy, hb]
              simp [undef]
          · rcases List.mem_cons.1 h with h | h
            · cases h; exact ⟨b, hgj⟩
            · exact hpok j' b' h
      · cases hp

theorem eqPath_eq : ∀ {p q : Path}, eqPath p q = true → p = q := by
  intro p
  induction p with
  | nil => intro q h; cases q <;> simp [eqPath] at h ⊢
  | cons x p ih =>
    intro q h
    obtain ⟨j, b⟩ := x
    cases q with
    | nil => simp [eqPath] at h
    | cons y q =>
      obtain ⟨k, c⟩ := y
      simp only [eqPath, Bool.and_eq_true] at h
      obtain ⟨⟨h1, h2⟩, h3⟩ := h
      have e1 := Nat.eq_of_beq_eq_true h1
      have e3 := ih h3
      subst e1 e3
      cases b <;> cases c <;> first | rfl | simp at h2

theorem sfx_holds {g : List (Option Bool)} : ∀ {p q : Path}, sfx p q = true → holds g q = true → holds g p = true := by
  intro p q
  induction q with
  | nil =>
    intro h hq
    simp only [sfx] at h
    rw [eqPath_eq h]; exact hq
  | cons x q ih =>
    intro h hq
    simp only [sfx, Bool.or_eq_true] at h
    rcases h with h | h
    · rw [eqPath_eq h]; exact hq
    · obtain ⟨j, b⟩ := x
      simp only [holds, Bool.and_eq_true] at hq
      exact ih h hq.1

theorem constSB_rel {v : Value} {x : SB} (h : constSB v = some x) : RelSB E x v := by
  cases v with
  | agg cs =>
    simp only [constSB] at h
    split at h
    · rename_i hcs
      cases h
      exact ⟨cs, rfl, zero_cells (E := E) (z := .agg cs) hcs⟩
    · cases h
  | tuple vs => simp [constSB] at h
  | _ =>
    simp only [constSB] at h
    cases h
    exact ⟨Rel.of_relK (valC_rel _ rfl), rfl⟩

theorem ev_rel {s : S} {a : Act} {p : Path} {x : Operand} {v : SB} (hs : Sim B E s a w) (hp : holds s.g p = true) (h : s.ev p x = some v) : RelSB E v (a.eval x) := by
  cases x with
  | tmp t =>
    simp only [S.ev] at h
    split at h
    · rename_i y hy
      cases h
      exact hs.slot t _ hy
    · rename_i k y hy
      cases h
      exact (hs.slot t _ hy).1
    · rename_i q y hy
      split at h
      · rename_i hq
        cases h
        exact (hs.slot t _ hy).1 (sfx_holds hq hp)
      · cases h
    · cases h
  | const u => exact constSB_rel h
  | global g => simp [S.ev] at h
  | func f =>
    simp only [S.ev] at h
    cases h
    exact ⟨RelK.clo f [] #[] rfl (fun j hj => by simp at hj) (fun j hj => by simp at hj), rfl⟩

theorem evAll_rel {s : S} {a : Act} {p : Path} (hs : Sim B E s a w) (hp : holds s.g p = true) : ∀ {xs : List Operand} {vs : List SB}, evAll s p xs = some vs → Vals E a.eval xs vs := by
  intro xs
  induction xs with
  | nil => intro vs h; simp only [evAll] at h; cases h; exact ⟨rfl, fun j x v hj => by simp at hj⟩
  | cons x xs ih =>
    intro vs h
    simp only [evAll] at h
    split at h
    · rename_i v vs' h1 h2
      cases h
      have := ih h2
      refine ⟨by simp [this.1], fun j y u hj hu => ?_⟩
      cases j with
      | zero => simp at hj hu; subst hj hu; exact ev_rel hs hp h1
      | succ j => exact this.2 j y u (by simpa using hj) (by simpa using hu)
    · cases h

theorem armOf_rel {s : S} {a : Act} {p q : Path} {x : Operand} {v : SB} (hs : Sim B E s a w) (hp : holds s.g p = true) (h : armOf s p q x = some v) (hq : holds s.g q = true) : RelSB E v (a.eval x) := by
  cases x with
  | tmp t =>
    simp only [armOf] at h
    split at h
    · rename_i y hy
      cases h
      exact hs.slot t _ hy
    · rename_i k y hy
      cases h
      exact (hs.slot t _ hy).1
    · rename_i r y hy
      split at h
      · rename_i hr
        cases h
        simp only [Bool.or_eq_true] at hr
        rcases hr with hr | hr
        · exact (hs.slot t _ hy).1 (sfx_holds hr hp)
        · exact (hs.slot t _ hy).1 (by rw [eqPath_eq hr]; exact hq)
      · cases h
    · cases h
  | const u => exact ev_rel hs hp (by simpa [armOf] using h)
  | global g => exact ev_rel hs hp (by simpa [armOf] using h)
  | func f => exact ev_rel hs hp (by simpa [armOf] using h)

theorem findDst_some {ops : Array Oper} {t j : Nat} (h : findDst ops t = some j) : ∃ o, ops[j]? = some o ∧ o.dst = some t := by
  unfold findDst at h
  have := List.find?_some h
  cases ho : (ops[j]?).bind (·.dst) with
  | none => simp [ho] at this
  | some d =>
    simp only [ho] at this
    have hd := Nat.eq_of_beq_eq_true this
    subst hd
    cases hj : ops[j]? with
    | none => simp [hj] at ho
    | some o => simp [hj] at ho; exact ⟨o, rfl, ho⟩

theorem pick_rel {ops : Array Oper} {s : S} {a : Act} {p : Path} {c x y : Operand} {v : SB} (hs : RSim B E ops s a w) (hp : holds s.g p = true) (h : pickVal ops s p c x y = some v) :
    ∃ b, a.eval c = .bool b ∧ RelSB E v (if b then a.eval x else a.eval y) := by
  unfold pickVal at h
  split at h
  · rename_i tc
    split at h
    · rename_i j hj
      obtain ⟨o, ho, hd⟩ := findDst_some hj
      -- the arms
      have arms : ∀ {b : Bool} {q : Path}, s.g[j]? = some (some b) → holds s.g q = true → pickArms s p x y b j q = some v → RelSB E v (if b then a.eval x else a.eval y) := by
        intro b q hgj hq h
        unfold pickArms at h
        split at h
        · split at h
          · rename_i z hz
            cases h
            cases b with
            | true => exact rel_bool
            | false =>
              have := armOf_rel hs.sim hp hz (by simp [holds, hq, hgj, bw])
              simpa using this
          · cases h
        · split at h
          · rename_i z hz
            cases h
            cases b with
            | true =>
              have := armOf_rel hs.sim hp hz (by simp [holds, hq, hgj, bw])
              simpa using this
            | false => exact rel_bool
          · cases h
        · cases h
      split at h
      · rename_i b b' hgj hslot
        obtain ⟨o', d', ho', hd', hsl⟩ := hs.gok j b hgj
        rw [ho] at ho'
        cases ho'
        rw [hd] at hd'
        cases hd'
        have hb : b' = b := by
          rcases hsl with hsl | ⟨q, hsl⟩ <;> rw [hslot] at hsl <;> cases hsl
          rfl
        subst hb
        exact ⟨b', relSB_bool (hs.sim.slot tc _ hslot), arms hgj rfl h⟩
      · rename_i b q b' hgj hslot
        split at h
        · rename_i hq
          obtain ⟨o', d', ho', hd', hsl⟩ := hs.gok j b hgj
          rw [ho] at ho'
          cases ho'
          rw [hd] at hd'
          cases hd'
          have hb : b' = b := by
            rcases hsl with hsl | ⟨q, hsl⟩ <;> rw [hslot] at hsl <;> cases hsl
            rfl
          subst hb
          have hhq := sfx_holds hq hp
          exact ⟨b', relSB_bool ((hs.sim.slot tc _ hslot).1 hhq), arms hgj hhq h⟩
        · cases h
      · cases h
    · cases h
  · cases h

end Go.Sym
