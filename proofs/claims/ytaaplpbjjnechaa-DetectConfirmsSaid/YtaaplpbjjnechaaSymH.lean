/-
  THE SYMBOLIC LAYER, PART H: one step of a region; a region in the order of its text.
-/
import Derived.Test.YtaaplpbjjnechaaSymG
namespace Go.Sym
open Go.RowKit

variable {P : Program} {B : Base P} {E : Env} {w : World}

/-- Each operation writes a slot of its own, and one that is there. -/
def Distinct (ops : Array Oper) (n : Nat) : Prop :=
  (∀ (i j : Nat) (oi oj : Oper) (d : Nat), ops[i]? = some oi → ops[j]? = some oj → oi.dst = some d → oj.dst = some d → i = j) ∧ ∀ (i : Nat) (o : Oper) (d : Nat), ops[i]? = some o → o.dst = some d → d < n

theorem holds_set {g : List (Option Bool)} {i : Nat} {x : Option Bool} (hi : g[i]? = some none) : ∀ {p : Path}, PathOk g p → holds (g.set i x) p = holds g p := by
  intro p
  induction p with
  | nil => intro _; rfl
  | cons y p ih =>
    intro hp
    obtain ⟨j, b⟩ := y
    obtain ⟨z, hz⟩ := hp j b List.mem_cons_self
    have hne : i ≠ j := fun e => by subst e; rw [hi] at hz; cases hz
    simp only [holds, ih (fun k c h => hp k c (List.mem_cons_of_mem _ h)), List.getElem?_set, if_neg hne]

theorem pathOk_set {g : List (Option Bool)} {i : Nat} {x : Option Bool} (hi : g[i]? = some none) {p : Path} (hp : PathOk g p) : PathOk (g.set i x) p := by
  intro j b h
  obtain ⟨z, hz⟩ := hp j b h
  have hne : i ≠ j := fun e => by subst e; rw [hi] at hz; cases hz
  exact ⟨z, by rw [List.getElem?_set, if_neg hne]; exact hz⟩

theorem setSlot_get {t : List SV} {d : Option Nat} {x y : SV} {k : Nat} (h : (setSlot t d x)[k]? = some y) : (d = some k ∧ y = x ∧ k < t.length) ∨ (d ≠ some k ∧ t[k]? = some y) := by
  unfold setSlot at h
  cases d with
  | none => exact .inr ⟨by simp, h⟩
  | some d =>
    simp only [List.getElem?_set] at h
    by_cases hk : d = k
    · subst hk
      rw [if_pos rfl] at h
      split at h
      · rename_i hl
        exact .inl ⟨rfl, (Option.some.inj h).symm, hl⟩
      · cases h
    · rw [if_neg hk] at h
      exact .inr ⟨fun e => hk (Option.some.inj e), h⟩

theorem setSlot_length (t : List SV) (d : Option Nat) (x : SV) : (setSlot t d x).length = t.length := by
  cases d <;> simp [setSlot]
theorem setSlot_same {t : List SV} {d : Nat} {x : SV} (h : d < t.length) : (setSlot t (some d) x)[d]? = some x := by
  simp [setSlot, h]
theorem setSlot_other {t : List SV} {d : Option Nat} {x : SV} {k : Nat} (h : d ≠ some k) : (setSlot t d x)[k]? = t[k]? := by
  cases d with
  | none => rfl
  | some d =>
    have : d ≠ k := fun e => h (by rw [e])
    simp [setSlot, this]

theorem slotOf_may {p q : Path} {v x : SB} (h : slotOf p v = .may q x) : q = p ∧ x = v ∧ p ≠ [] := by
  cases p with
  | nil => simp [slotOf] at h
  | cons y p => simp only [slotOf] at h; cases h; exact ⟨rfl, rfl, by simp⟩

theorem pok_put {s : S} {i : Nat} {d : Option Nat} {p : Path} {v : SB} {m' : List (Option MO)} {x : Option Bool} (hpok : POk s) (hi : s.g[i]? = some none) (hp : PathOk s.g p) :
    POk { t := setSlot s.t d (slotOf p v), m := m', g := s.g.set i x } := by
  intro k q y hk
  rcases setSlot_get hk with ⟨_, hy, _⟩ | ⟨_, hk'⟩
  · obtain ⟨rfl, rfl, hne⟩ := slotOf_may hy.symm
    exact ⟨pathOk_set hi hp, hne⟩
  · obtain ⟨h1, h2⟩ := hpok k q y hk'
    exact ⟨pathOk_set hi h1, h2⟩

theorem put_getD {a : Act} {d : Option Nat} {u : Value} {k : Nat} (h : d ≠ some k) : (a.put d u).tmps.getD k undef = a.tmps.getD k undef := by
  cases d with
  | none => rfl
  | some d =>
    have : d ≠ k := fun e => h (by rw [e])
    simp [Act.put, this]
theorem put_getD_same {a : Act} {d : Nat} {u : Value} (h : d < a.tmps.size) : (a.put (some d) u).tmps.getD d undef = u := by
  simp [Act.put, h]
theorem put_size {a : Act} {d : Option Nat} {u : Value} : (a.put d u).tmps.size = a.tmps.size := by
  cases d <;> simp [Act.put]
theorem put_defers' {a : Act} {d : Option Nat} {u : Value} : (a.put d u).defers = a.defers := by
  cases d <;> rfl

/-- The state behind an operation that has run, or has been passed over. -/
theorem rsim_put {ops : Array Oper} {s : S} {a : Act} {i : Nat} {o : Oper} {p : Path} {v : SB} {u : Value} {m' : List (Option MO)} {w' : World} {E' : Env} (hs : RSim B E ops s a w) (hd : Distinct ops s.t.length)
    (hi : s.g[i]? = some none) (ho : ops[i]? = some o) (hp : PathOk s.g p) (hle : E.Le E') (hc : Core B E' m' w') (h1 : holds s.g p = true → RelSB E' v u) (h0 : holds s.g p = false → u = undef) :
    RSim B E' ops { t := setSlot s.t o.dst (slotOf p v), m := m', g := s.g.set i (outcomeAt o.dst v) } (a.put o.dst u) w' := by
  refine ⟨⟨hc, ?_, ?_, ?_⟩, ?_, pok_put hs.pok hi hp⟩
  · rw [put_size, setSlot_length]; exact hs.sim.size
  · rw [put_defers', hle.c]; exact hs.sim.defers
  · intro k x hk
    rcases setSlot_get hk with ⟨hdst, rfl, hlt⟩ | ⟨hdst, hk'⟩
    · rw [hdst, put_getD_same (by rw [hs.sim.size]; exact hlt)]
      cases p with
      | nil => exact h1 rfl
      | cons y p =>
        show (holds _ (y :: p) = true → RelSB E' v u) ∧ (holds _ (y :: p) = false → u = undef)
        rw [holds_set hi hp]
        exact ⟨h1, h0⟩
    · rw [put_getD hdst]
      have hold := (hs.sim.slot k x hk').mono hle
      cases x with
      | junk => trivial
      | b y => exact hold
      | pin k y => exact hold
      | may q y =>
        show (holds _ q = true → _) ∧ (holds _ q = false → _)
        rw [holds_set hi (hs.pok k q y hk').1]
        exact hold
  · intro j b hj
    simp only [List.getElem?_set] at hj
    by_cases hij : i = j
    · subst hij
      rw [if_pos rfl] at hj
      split at hj
      · have hob : outcomeAt o.dst v = some b := Option.some.inj hj
        cases hdst : o.dst with
        | none => simp [hdst, outcomeAt] at hob
        | some d =>
          simp only [hdst, outcomeAt] at hob
          have hv : v = .v (.c (.bool b)) := by
            unfold outcome at hob
            split at hob
            · cases hob; rfl
            · cases hob
          subst hv
          refine ⟨o, d, ho, hdst, ?_⟩
          have hlt := hd.2 i o d ho hdst
          rw [setSlot_same hlt]
          cases p with
          | nil => exact .inl rfl
          | cons y p => exact .inr ⟨y :: p, rfl⟩
      · cases hj
    · rw [if_neg hij] at hj
      obtain ⟨oj, d, hoj, hdj, hsl⟩ := hs.gok j b hj
      refine ⟨oj, d, hoj, hdj, ?_⟩
      have : o.dst ≠ some d := fun e => hij (hd.1 i j o oj d ho hoj e hdj)
      rw [setSlot_other this]
      exact hsl

/-- Where a step comes from. -/
theorem stepOp_some {ops : Array Oper} {i : Nat} {h : Hint} {s s' : S} {q : List Ask} {ns : List Nat} (hst : stepOp P ops i h s = some (s', q, ns)) :
    ∃ o pl v ms q', ops[i]? = some o ∧ planOf ops o s = some pl ∧ (Op.wr o.op h && guarded pl.path && !holds s.g pl.path) = false ∧ pl.run P o s.m h = some (v, ms, q') ∧
      s' = { t := setSlot s.t o.dst (slotOf pl.path v), m := (if Op.wr o.op h then putM s.m (pl.names o) ms else s.m), g := s.g.set i (outcomeAt o.dst v) } ∧ q = askOf s.g pl.path q' ∧ ns = pl.names o := by
  unfold stepOp at hst
  split at hst
  · cases hst
  · rename_i o ho
    split at hst
    · cases hst
    · rename_i pl hpl
      split at hst
      · cases hst
      · rename_i hg
        split at hst
        · cases hst
        · rename_i v ms q' hr
          cases hst
          exact ⟨o, pl, v, ms, q', ho, hpl, by simpa using hg, hr, rfl, rfl, rfl⟩

theorem planOf_path {ops : Array Oper} {o : Oper} {s : S} {pl : Plan} (h : planOf ops o s = some pl) : guardPath ops s o = some pl.path := by
  unfold planOf at h
  split at h
  · cases h
  · rename_i p hp
    split at h
    · split at h
      · cases h; exact hp
      · cases h
    · split at h
      · cases h; exact hp
      · cases h

theorem guarded_iff {p : Path} : guarded p = false ↔ p = [] := by cases p <;> simp [guarded]

theorem step_sound {ops : Array Oper} {i : Nat} {h : Hint} {s s' : S} {q : List Ask} {ns : List Nat} {a : Act} (hF : h.elder = true → ∀ b, ¬ B.W b) (hst : stepOp P ops i h s = some (s', q, ns)) (hq : allA q) (hs : RSim B E ops s a w) (hd : Distinct ops s.t.length) (hi : s.g[i]? = some none)
    {K : Act → World → Prop} {Q : Exit → Act → World → Prop} (hK : ∀ a' w' E', RSim B E' ops s' a' w' → K a' w') : wpOpIn (FB B.r) 0 P ops Q i K a w := by
  obtain ⟨o, pl, v, ms, q', ho, hpl, hwg, hrun, rfl, rfl, rfl⟩ := stepOp_some hst
  have hgp := planOf_path hpl
  obtain ⟨hw, hpok⟩ := wanted_iff hs hgp
  unfold wpOpIn
  simp only [ho]
  rw [hw]
  cases hh : holds s.g pl.path with
  | false =>
    simp only [Bool.false_eq_true, if_false]
    have hne : pl.path ≠ [] := fun e => by rw [e] at hh; cases hh
    have hwr : Op.wr o.op h = false := by
      cases hx : Op.wr o.op h with
      | false => rfl
      | true =>
        rw [hx, hh] at hwg
        have := guarded_iff.1 (by simpa using hwg)
        exact absurd this hne
    refine ⟨fun _ _ => trivial, hK _ w E ?_⟩
    simp only [hwr, Bool.false_eq_true, if_false]
    exact rsim_put hs hd hi ho hpok (Env.Le.refl E) hs.sim.core (fun e => by rw [hh] at e; cases e) (fun _ => rfl)
  | true =>
    simp only [if_true]
    have hq' : allP q' := allA_askOf hq hh
    cases pl with
    | pick p x =>
      simp only [Plan.run] at hrun
      cases hrun
      have hpick : ∃ c y z, o.op = .pick c y z ∧ pickVal ops s p c y z = some v := by
        unfold planOf at hpl
        rw [hgp] at hpl
        simp only [Plan.path] at hpl
        split at hpl
        · rename_i c y z hop
          split at hpl
          · rename_i v' hv'
            cases hpl
            exact ⟨c, y, z, hop, hv'⟩
          · cases hpl
        · split at hpl <;> cases hpl
      obtain ⟨c, y, z, hop, hpv⟩ := hpick
      obtain ⟨b, hb, hrel⟩ := pick_rel hs hh hpv
      have hwr : Op.wr o.op h = false := Op.wr_le (by rw [hop]; rfl)
      refine wpIn_of (by intro c hc; rw [hop] at hc; cases hc) ?_
      have hex : (execOp a.eval o).run P w = .ok (.value (if b then a.eval y else a.eval z)) w := by
        simp only [execOp, hop, hb, asBool, Sem.run_bind, Sem.run_pure, Result.andThen_ok]
      rw [hex]
      refine hK _ w E ?_
      simp only [hwr, Bool.false_eq_true, if_false]
      exact rsim_put hs hd hi ho hpok (Env.Le.refl E) hs.sim.core (fun _ => hrel) (fun e => by rw [hh] at e; cases e)
    | op p vs =>
      have hvals : evAll s p o.op.operands.toList = some vs := by
        unfold planOf at hpl
        rw [hgp] at hpl
        simp only [Plan.path] at hpl
        split at hpl
        · split at hpl <;> cases hpl
        · split at hpl
          · rename_i vs' hv'
            cases hpl
            exact hv'
          · cases hpl
      have hv := evAll_rel hs.sim hh hvals
      refine act_sound hF hs.sim.core hv hrun hq' _ _ ?_
      intro u w' E' hle hc hu
      exact hK _ w' E' (rsim_put hs hd hi ho hpok hle hc (fun _ => hu) (fun e => by rw [hh] at e; cases e))

theorem stepOp_t {ops : Array Oper} {i : Nat} {h : Hint} {s s' : S} {q : List Ask} {ns : List Nat} (hst : stepOp P ops i h s = some (s', q, ns)) : s'.t.length = s.t.length := by
  obtain ⟨o, pl, v, ms, q', ho, hpl, hwg, hrun, rfl, rfl, rfl⟩ := stepOp_some hst
  exact setSlot_length _ _ _
theorem stepOp_g {ops : Array Oper} {i j : Nat} {h : Hint} {s s' : S} {q : List Ask} {ns : List Nat} (hst : stepOp P ops i h s = some (s', q, ns)) (hj : i ≠ j) : s'.g[j]? = s.g[j]? := by
  obtain ⟨o, pl, v, ms, q', ho, hpl, hwg, hrun, rfl, rfl, rfl⟩ := stepOp_some hst
  simp [hj]

theorem hintAt_elder : ∀ {hs : List (Nat × Hint)} {i : Nat}, (hintAt hs i).elder = true → elderAny hs = true := by
  intro hs
  induction hs with
  | nil => intro i h; cases h
  | cons p hs ih =>
    intro i h
    obtain ⟨j, x⟩ := p
    simp only [hintAt] at h
    simp only [elderAny, List.any_cons, Bool.or_eq_true]
    split at h
    · exact .inl h
    · exact .inr (ih h)

/-- The operations in the order of the text. -/
theorem evalOps_sound {ops : Array Oper} {hs : List (Nat × Hint)} {Q : Exit → Act → World → Prop} (hF : elderAny hs = true → ∀ b, ¬ B.W b) : ∀ (is : List Nat) {E : Env} {s s' : S} {q : List Ask} {tr : List (Nat × List Nat)} {a : Act} {w : World}, evalOps P ops hs is s = some (s', q, tr) → allA q → is.Nodup →
    (∀ i, i ∈ is → s.g[i]? = some none) → Distinct ops s.t.length → RSim B E ops s a w → (∀ a' w' E', RSim B E' ops s' a' w' → Q .normal a' w') → wpOpsIn (FB B.r) 0 P ops Q is a w := by
  intro is
  induction is with
  | nil =>
    intro E s s' q tr a w he _ _ _ _ hr hQ
    simp only [evalOps] at he
    cases he
    exact hQ a w E hr
  | cons i is ih =>
    intro E s s' q tr a w he hq hnd hfr hd hr hQ
    simp only [evalOps] at he
    split at he
    · cases he
    · rename_i s1 q1 ns1 hst
      split at he
      · cases he
      · rename_i s2 q2 tr2 hev
        cases he
        rw [wpOpsIn_cons]
        have hnd' := List.nodup_cons.1 hnd
        obtain ⟨hqa, hqb⟩ := allA_append.1 hq
        refine step_sound (fun h => hF (hintAt_elder h)) hst hqa hr hd (hfr i List.mem_cons_self) ?_
        intro a' w' E' hr'
        refine ih hev hqb hnd'.2 (fun j hj => ?_) (by rw [stepOp_t hst]; exact hd) hr' hQ
        rw [stepOp_g hst (fun e => hnd'.1 (by rw [e]; exact hj))]
        exact hfr j (List.mem_cons_of_mem _ hj)

end Go.Sym
