/-
  THE SYMBOLIC LAYER, PART E: the operations that only compute, and calls.
-/
import Derived.Test.YtaaplpbjjnechaaSymD
import Derived.Laws.Small
namespace Go.Sym
open Go.RowKit

variable {P : Program} {B : Base P} {E : Env} {m : List (Option MO)} {w : World}

theorem vals1 {ρ : Operand → Value} {x : Operand} {vs : List SB} (h : Vals E ρ [x] vs) : ∃ v, vs = [v] ∧ RelSB E v (ρ x) := by
  match vs, h.1 with
  | [v], _ => exact ⟨v, rfl, h.one⟩
theorem vals2 {ρ : Operand → Value} {x y : Operand} {vs : List SB} (h : Vals E ρ [x, y] vs) : ∃ v u, vs = [v, u] ∧ RelSB E v (ρ x) ∧ RelSB E u (ρ y) := by
  match vs, h.1 with
  | [v, u], _ => exact ⟨v, u, rfl, h.two⟩

theorem vals3 {ρ : Operand → Value} {x y z : Operand} {vs : List SB} (h : Vals E ρ [x, y, z] vs) : ∃ v u t, vs = [v, u, t] ∧ RelSB E v (ρ x) ∧ RelSB E u (ρ y) ∧ RelSB E t (ρ z) := by
  match vs, h.1 with
  | [v, u, t], _ => exact ⟨v, u, t, rfl, h.2 0 x v rfl rfl, h.2 1 y u rfl rfl, h.2 2 z t rfl rfl⟩

theorem kindEq_eq {k k' : IntKind} (h : kindEq k k' = true) : k = k' := by
  cases k <;> cases k' <;> first | rfl | simp [kindEq] at h

theorem eqGuard_int (op : BinOp) (t : TypeId) (x y : Operand) (k k' : IntKind) (a b : Int) : (eqGuard op t x y (.int k a) (.int k' b)).run P w = .ok () w := by
  unfold eqGuard
  cases op <;> simp
theorem eqGuard_bool (op : BinOp) (t : TypeId) (x y : Operand) (a b : Bool) : (eqGuard op t x y (.bool a) (.bool b)).run P w = .ok () w := by
  unfold eqGuard
  cases op <;> simp

theorem arith_run {op : BinOp} {t : TypeId} {k : IntKind} {a b : Int} {c : C} {q : List Prop} (h : arith op k a b = some (c, q)) (hq : allP q) :
    ∃ u, (binOp op t (.int k a) (.int k b)).run P w = .ok u w ∧ RelSB E (.v (.c c)) u := by
  cases op <;> simp only [arith] at h <;> (try cases h)
  case add => refine ⟨_, ?_, rel_int⟩; simp [binOp, Op.intArith]
  case sub => refine ⟨_, ?_, rel_int⟩; simp [binOp, Op.intArith]
  case mul => refine ⟨_, ?_, rel_int⟩; simp [binOp, Op.intArith]
  case quo => refine ⟨_, ?_, rel_int⟩; simp [binOp, Op.intDiv, show b ≠ 0 from hq]
  case rem => refine ⟨_, ?_, rel_int⟩; simp [binOp, Op.intDiv, show b ≠ 0 from hq]
  case shl =>
    obtain ⟨h0, h1⟩ : 0 ≤ b ∧ b ≤ (k.bits : Int) := hq
    refine ⟨_, ?_, rel_int⟩
    simp [binOp, Op.shift, show ¬ b < 0 by omega, show min b.toNat k.bits = b.toNat by omega]
  case shr =>
    obtain ⟨h0, h1⟩ : 0 ≤ b ∧ b ≤ (k.bits : Int) := hq
    refine ⟨_, ?_, rel_int⟩
    simp [binOp, Op.shift, show ¬ b < 0 by omega, show min b.toNat k.bits = b.toNat by omega]
  all_goals
    refine ⟨_, ?_, rel_bool⟩
    simp [binOp, Op.intCmp]

theorem eqVals_of : ∀ {cs ds : List C} {us vs : List Value} {b : Bool}, eqCells cs ds = some b → us.length = cs.length → vs.length = ds.length →
    (∀ j, j < cs.length → RelK E.K (cs.getD j .junk) (us.getD j undef)) → (∀ j, j < ds.length → RelK E.K (ds.getD j .junk) (vs.getD j undef)) → eqVals us vs = b := by
  intro cs
  induction cs with
  | nil =>
    intro ds us vs b h h1 h2 h3 h4
    cases ds with
    | nil =>
      simp only [eqCells] at h
      cases h
      cases us with
      | nil => cases vs with
        | nil => rfl
        | cons v vs => simp at h2
      | cons u us => simp at h1
    | cons d ds => simp [eqCells] at h
  | cons c cs ih =>
    intro ds us vs b h h1 h2 h3 h4
    cases ds with
    | nil => cases c <;> simp [eqCells] at h
    | cons d ds =>
      cases us with
      | nil => simp at h1
      | cons u us =>
        cases vs with
        | nil => simp at h2
        | cons v vs =>
          have hu := h3 0 (by simp)
          have hv := h4 0 (by simp)
          simp only [List.getD_eq_getElem?_getD, List.getElem?_cons_zero, Option.getD_some] at hu hv
          have h3' : ∀ j, j < cs.length → RelK E.K (cs.getD j .junk) (us.getD j undef) := fun j hj => by
            have := h3 (j + 1) (by simpa using hj)
            simpa [List.getD_eq_getElem?_getD] using this
          have h4' : ∀ j, j < ds.length → RelK E.K (ds.getD j .junk) (vs.getD j undef) := fun j hj => by
            have := h4 (j + 1) (by simpa using hj)
            simpa [List.getD_eq_getElem?_getD] using this
          have h1' : us.length = cs.length := by simpa using h1
          have h2' : vs.length = ds.length := by simpa using h2
          cases c with
          | int k a => cases d with
            | int k' a' =>
              simp only [eqCells] at h
              split at h
              · simp only [Option.map_eq_some_iff] at h
                obtain ⟨b', hb', rfl⟩ := h
                have hrec := ih hb' h1' h2' h3' h4'
                cases hu; cases hv
                simp [eqVals, hrec]
              · cases h
            | _ => simp [eqCells] at h
          | bool a => cases d with
            | bool a' =>
              simp only [eqCells, Option.map_eq_some_iff] at h
              obtain ⟨b', hb', rfl⟩ := h
              have hrec := ih hb' h1' h2' h3' h4'
              cases hu; cases hv
              simp [eqVals, hrec]
            | _ => simp [eqCells] at h
          | str a => cases d with
            | str a' =>
              simp only [eqCells, Option.map_eq_some_iff] at h
              obtain ⟨b', hb', rfl⟩ := h
              have hrec := ih hb' h1' h2' h3' h4'
              cases hu; cases hv
              simp [eqVals, hrec]
            | _ => simp [eqCells] at h
          | _ => cases d <;> simp [eqCells] at h

theorem eqCells_len : ∀ {cs ds : List C} {b : Bool}, eqCells cs ds = some b → cs.length = ds.length := by
  intro cs
  induction cs with
  | nil => intro ds b h; cases ds <;> simp [eqCells] at h ⊢
  | cons c cs ih =>
    intro ds b h
    cases ds with
    | nil => cases c <;> simp [eqCells] at h
    | cons d ds =>
      cases c <;> cases d <;> simp only [eqCells] at h <;> (try cases h)
      · split at h
        · simp only [Option.map_eq_some_iff] at h
          obtain ⟨b', hb', _⟩ := h
          simp [ih hb']
        · cases h
      · simp only [Option.map_eq_some_iff] at h
        obtain ⟨b', hb', _⟩ := h
        simp [ih hb']
      · simp only [Option.map_eq_some_iff] at h
        obtain ⟨b', hb', _⟩ := h
        simp [ih hb']

theorem flat_val : ∀ {cs : List C} {fs : List Flat} {us : List Value}, flatOf cs = some fs → us.length = cs.length → (∀ j, j < cs.length → RelK E.K (cs.getD j .junk) (us.getD j undef)) →
    us.length = fs.length ∧ ∀ (j : Nat) (f : Flat) (u : Value), fs[j]? = some f → us[j]? = some u → Flat.val f u := by
  intro cs
  induction cs with
  | nil =>
    intro fs us h h1 _
    simp only [flatOf] at h
    cases h
    exact ⟨by simpa using h1, fun j f u hf => by simp at hf⟩
  | cons c cs ih =>
    intro fs us h h1 h3
    cases us with
    | nil => simp at h1
    | cons u us =>
      have hu := h3 0 (by simp)
      simp only [List.getD_eq_getElem?_getD, List.getElem?_cons_zero, Option.getD_some] at hu
      have h3' : ∀ j, j < cs.length → RelK E.K (cs.getD j .junk) (us.getD j undef) := fun j hj => by
        have := h3 (j + 1) (by simpa using hj)
        simpa [List.getD_eq_getElem?_getD] using this
      have h1' : us.length = cs.length := by simpa using h1
      cases c <;> simp only [flatOf] at h <;> (try cases h)
      all_goals
        simp only [Option.map_eq_some_iff] at h
        obtain ⟨fs', hfs', rfl⟩ := h
        obtain ⟨hl, hf⟩ := ih hfs' h1' h3'
        refine ⟨by simp [hl], fun j f u' hj hu' => ?_⟩
        cases j with
        | zero =>
          simp at hj hu'
          subst hj hu'
          cases hu
          exact ⟨_, rfl⟩
        | succ j => exact hf j f u' (by simpa using hj) (by simpa using hu')

theorem flat_transfer : ∀ {cs ds : List C} {fs : List Flat} {b : Bool}, eqCells cs ds = some b → flatOf cs = some fs → flatOf ds = some fs := by
  intro cs
  induction cs with
  | nil => intro ds fs b h hf; cases ds <;> simp [eqCells] at h ⊢; exact hf
  | cons c cs ih =>
    intro ds fs b h hf
    cases ds with
    | nil => cases c <;> simp [eqCells] at h
    | cons d ds =>
      cases c <;> cases d <;> simp only [eqCells] at h <;> (try cases h)
      · rename_i k a k' a'
        split at h
        · rename_i hk
          have := kindEq_eq hk
          subst this
          simp only [Option.map_eq_some_iff] at h
          obtain ⟨b', hb', _⟩ := h
          simp only [flatOf, Option.map_eq_some_iff] at hf ⊢
          obtain ⟨fs', h1, h2⟩ := hf
          exact ⟨fs', ih hb' h1, h2⟩
        · cases h
      all_goals
        simp only [Option.map_eq_some_iff] at h
        obtain ⟨b', hb', _⟩ := h
        simp only [flatOf, Option.map_eq_some_iff] at hf ⊢
        obtain ⟨fs', h1, h2⟩ := hf
        exact ⟨fs', ih hb' h1, h2⟩

theorem run_equal_nil (w : World) (t e : TypeId) (a : Option Addr) (l c : Nat) (h : P.underlying t = some (.slice e)) : (Op.equal t (.slice a l c) (.slice none 0 0)).run P w = .ok a.isNone w := by
  have : ∀ d, (Op.equalIn (d + 1) t (.slice a l c) (.slice none 0 0)).run P w = .ok a.isNone w := fun d => by
    cases a <;> simp [Op.equalIn, run_underlying h]
  exact this 9999
theorem nilQ_val {c : C} {b : Bool} {q : List Prop} {u : Value} (h : nilQ c = some (b, q)) (hr : Rel E c u) (hq : allP q) : ∃ a l cp, u = .slice a l cp ∧ b = a.isNone := by
  unfold nilQ at h
  split at h
  · cases h
    have hr : RelK E.K .nil u := hr
    cases hr
    exact ⟨none, 0, 0, rfl, rfl⟩
  · rename_i sz n f
    cases h
    have hn : 0 < n := hq
    have hr : RelK E.K (.lst sz n f) u := hr
    cases hr with
    | lst0 => omega
    | lst1 => omega
    | lst _ _ _ b off cap arr T fz g hK hg hl hr ho hcap => exact ⟨_, _, _, rfl, rfl⟩
  · rename_i a cp
    cases h
    have hr : RelK E.K (.lit (.slice (some a) 0 cp)) u := hr
    cases hr
    exact ⟨_, _, _, rfl, rfl⟩
  · cases h

theorem bin_sound {o : Oper} {a : Act} {op : BinOp} {t t' : TypeId} {x y : Operand} {vs : List SB} {r : SB} {ms ms' : List (Option (Option MO))} {q : List Prop} (hc : Core B E m w) (ho : o.op = .binOp op t x y t')
    (hv : Vals E a.eval [x, y] vs) (hact : actBin P op t vs ms = some (r, ms', q)) (hq : allP q) : Done P B E m r o a w := by
  obtain ⟨v1, v2, rfl, hx, hy⟩ := vals2 hv
  unfold actBin at hact
  split at hact
  · rename_i k n1 k' n2 heq
    cases heq
    have e1 := relSB_int hx
    have e2 := relSB_int hy
    split at hact
    · rename_i hk
      have := kindEq_eq hk
      subst this
      simp only [Option.map_eq_some_iff] at hact
      obtain ⟨⟨c, q'⟩, har, hact⟩ := hact
      cases hact
      obtain ⟨u, hrun, hu⟩ := arith_run (P := P) (w := w) (E := E) (t := t) har hq
      refine done_value (u := u) hc ?_ hu
      simp only [execOp, ho, e1, e2, Sem.run_bind, eqGuard_int, Result.andThen_ok, hrun, Sem.run_pure]
    · cases hact
  · rename_i b1 b2 heq
    cases heq
    have e1 := relSB_bool hx
    have e2 := relSB_bool hy
    split at hact
    · rename_i hu1
      cases hact
      refine done_value (u := .bool (b1 == b2)) hc ?_ rel_bool
      simp only [execOp, ho, e1, e2, Sem.run_bind, eqGuard_bool, Result.andThen_ok, binOp, run_equal_bool (w := w) t b1 b2 hu1, Sem.run_pure]
    · rename_i hu1
      cases hact
      refine done_value (u := .bool (!(b1 == b2))) hc ?_ rel_bool
      simp only [execOp, ho, e1, e2, Sem.run_bind, eqGuard_bool, Result.andThen_ok, binOp, run_equal_bool (w := w) t b1 b2 hu1, Sem.run_pure]
    · cases hact
  · rename_i cs ds heq
    cases heq
    obtain ⟨us, e1, hu⟩ : ∃ arr, a.eval x = .agg arr ∧ RelLK E.K cs arr := hx
    obtain ⟨ws, e2, hw⟩ : ∃ arr, a.eval y = .agg arr ∧ RelLK E.K ds arr := hy
    have g1 : ∀ j, j < cs.length → RelK E.K (cs.getD j .junk) (us.toList.getD j undef) := fun j hj => by
      have := (hu.2 j hj).1
      simpa [List.getD_eq_getElem?_getD] using this
    have g2 : ∀ j, j < ds.length → RelK E.K (ds.getD j .junk) (ws.toList.getD j undef) := fun j hj => by
      have := (hw.2 j hj).1
      simpa [List.getD_eq_getElem?_getD] using this
    split at hact
    · rename_i b fs he hf
      cases hact
      have hev := eqVals_of (E := E) he (by simpa using hu.1) (by simpa using hw.1) g1 g2
      obtain ⟨l1, f1⟩ := flat_val (E := E) hf (by simpa using hu.1) g1
      obtain ⟨l2, f2⟩ := flat_val (E := E) (flat_transfer he hf) (by simpa using hw.1) g2
      obtain ⟨r1, r2, r3⟩ := hq w us.toList ws.toList x y l1 l2 f1 f2
      refine done_value (u := .bool b) hc ?_ rel_bool
      simp only [Array.toArray_toList] at r1 r2 r3
      simp only [execOp, ho, e1, e2, Sem.run_bind, r1, Result.andThen_ok, binOp, r3, hev, Sem.run_pure]
    · rename_i b fs he hf
      cases hact
      have hev := eqVals_of (E := E) he (by simpa using hu.1) (by simpa using hw.1) g1 g2
      obtain ⟨l1, f1⟩ := flat_val (E := E) hf (by simpa using hu.1) g1
      obtain ⟨l2, f2⟩ := flat_val (E := E) (flat_transfer he hf) (by simpa using hw.1) g2
      obtain ⟨r1, r2, r3⟩ := hq w us.toList ws.toList x y l1 l2 f1 f2
      refine done_value (u := .bool (!b)) hc ?_ rel_bool
      simp only [Array.toArray_toList] at r1 r2 r3
      simp only [execOp, ho, e1, e2, Sem.run_bind, r2, Result.andThen_ok, binOp, r3, hev, Sem.run_pure]
    · cases hact
  · rename_i c heq
    cases heq
    have e2 : a.eval y = .slice none 0 0 := by
      have h : RelK E.K .nil (a.eval y) := relSB_c hy
      generalize a.eval y = u at h ⊢
      cases h; rfl
    have hx' : Rel E c (a.eval x) := relSB_c hx
    split at hact
    · rename_i e b q' hu hn
      cases hact
      obtain ⟨ad, l, cp, e1, hb⟩ := nilQ_val hn hx' hq
      refine done_value (u := .bool b) hc ?_ rel_bool
      rw [hb]
      have hg : ∀ op, (eqGuard op t x y (.slice ad l cp) (.slice none 0 0)).run P w = .ok () w := fun op => by unfold eqGuard; cases op <;> simp
      simp only [execOp, ho, e1, e2, Sem.run_bind, hg, Result.andThen_ok, binOp, Go.Sym.run_equal_nil w t e ad l cp hu, Sem.run_pure]
    · rename_i e b q' hu hn
      cases hact
      obtain ⟨ad, l, cp, e1, hb⟩ := nilQ_val hn hx' hq
      refine done_value (u := .bool (!b)) hc ?_ rel_bool
      rw [hb]
      have hg : ∀ op, (eqGuard op t x y (.slice ad l cp) (.slice none 0 0)).run P w = .ok () w := fun op => by unfold eqGuard; cases op <;> simp
      simp only [execOp, ho, e1, e2, Sem.run_bind, hg, Result.andThen_ok, binOp, Go.Sym.run_equal_nil w t e ad l cp hu, Sem.run_pure]
    · cases hact
  · cases hact

theorem un_sound {o : Oper} {a : Act} {op : UnOp} {t : TypeId} {x : Operand} {vs : List SB} {r : SB} {ms ms' : List (Option (Option MO))} {q : List Prop} (hc : Core B E m w) (ho : o.op = .unOp op t x)
    (hv : Vals E a.eval [x] vs) (hact : actUn op vs ms = some (r, ms', q)) : Done P B E m r o a w := by
  obtain ⟨v, rfl, hx⟩ := vals1 hv
  unfold actUn at hact
  split at hact
  · rename_i b heq
    cases heq
    cases hact
    have e1 := relSB_bool hx
    refine done_value (u := .bool (!b)) hc ?_ rel_bool
    simp only [execOp, ho, e1, Op.unary, Sem.run_bind, Sem.run_pure, Result.andThen_ok]
  · rename_i k n heq
    cases heq
    cases hact
    have e1 := relSB_int hx
    refine done_value (u := .int k (k.wrap (0 - n))) hc ?_ rel_int
    simp only [execOp, ho, e1, Op.unary, Op.intArith, Sem.run_bind, Sem.run_pure, Result.andThen_ok]
  · cases hact

theorem convert_sound {o : Oper} {a : Act} {s t : TypeId} {x : Operand} {vs : List SB} {r : SB} {ms ms' : List (Option (Option MO))} {q : List Prop} (hc : Core B E m w) (ho : o.op = .convert s t x)
    (hv : Vals E a.eval [x] vs) (hact : actConvert P s t vs ms = some (r, ms', q)) : Done P B E m r o a w := by
  obtain ⟨v, rfl, hx⟩ := vals1 hv
  unfold actConvert at hact
  split at hact
  · rename_i k n heq
    cases heq
    have e1 := relSB_int hx
    split at hact
    · rename_i k1 k2 h1 h2
      cases hact
      refine done_value (u := .int k2 (k2.wrap n)) hc ?_ rel_int
      simp only [execOp, ho, e1, convert, Sem.run_bind, run_underlying h1, run_underlying h2, Result.andThen_ok, Conv.intToInt, Sem.run_pure]
    · cases hact
  · cases hact

theorem run_fieldAt {t : TypeId} {fs : Array Field} {fl : Nat} {f : Field} {b off : Nat} (hu : P.underlying t = some (.struct fs)) (hf : fs[fl]? = some f) (hsz : 0 < sizeT P f.type) :
    (Instr.fieldAt t (.pointer (some ⟨b, off, none⟩)) fl).run P w = .ok (.pointer (some ⟨b, off + f.offset, none⟩)) w := by
  unfold Instr.fieldAt
  rw [Sem.run_bind, run_underlying hu]
  simp only [Result.andThen_ok]
  rw [hf]
  simp only [Instr.sureAddr, Sem.run_bind, Sem.run_pure, Result.andThen_ok, fieldPlace, run_sizeOf hsz]
  rw [if_neg (by omega)]
  simp only [Sem.run_pure, Result.andThen_ok, Addr.add_lit]

theorem fieldAddr_sound {o : Oper} {a : Act} {t : TypeId} {x : Operand} {fl : Nat} {vs : List SB} {r : SB} {ms ms' : List (Option (Option MO))} {q : List Prop} (hc : Core B E m w) (ho : o.op = .fieldAddr t x fl)
    (hms : ms = (Op.names o.op o.dst vs).map (getM m)) (hv : Vals E a.eval [x] vs) (hact : actFieldAddr P t fl vs ms = some (r, ms', q)) (hq : allP q) : Done P B E m r o a w := by
  obtain ⟨v, rfl, hx⟩ := vals1 hv
  unfold actFieldAddr at hact
  split at hact
  · rename_i fs hu
    split at hact
    · rename_i f hf
      have hpos := ckPos_spec (ck_some hact).1
      replace hact := (ck_some hact).2
      have go : ∀ {b off : Nat} {r : SB}, 0 < sizeT P f.type → a.eval x = .pointer (some ⟨b, off, none⟩) → RelSB E r (.pointer (some ⟨b, off + f.offset, none⟩)) → Done P B E m r o a w := by
        intro b off r hs he hr
        refine done_value hc ?_ hr
        simp only [execOp, ho, he, Sem.run_bind, run_fieldAt hu hf hs, Result.andThen_ok, Sem.run_pure]
      split at hact
      · rename_i n off heq
        cases heq
        cases hact
        obtain ⟨b, hb, he⟩ : RelP E n off (a.eval x) := relSB_c hx
        exact go hpos he ⟨⟨b, hb, rfl⟩, rfl⟩
      · rename_i cs off heq
        cases heq
        cases hact
        have hk : RelK E.K (.kptr cs off) (a.eval x) := relSB_c hx
        generalize he : a.eval x = u at hk
        cases hk with
        | kptr _ _ b arr T fz hK hs hr h1 => exact go hpos he ⟨RelK.kptr cs _ b arr T fz hK hs hr h1, rfl⟩
      · rename_i sz n g i off heq
        cases heq
        cases hact
        have hk : RelK E.K (.kel sz n g i off) (a.eval x) := relSB_c hx
        generalize he : a.eval x = u at hk
        cases hk with
        | kel _ _ _ _ _ b off' arr T fz g' hK hg hl hr h1 hi =>
          have := RelK.kel sz n g i (off + f.offset) b off' arr T fz g' hK hg hl hr h1 hi
          rw [← Nat.add_assoc] at this
          exact go hpos he ⟨this, rfl⟩
      · rename_i rr n sz i off heq
        cases heq
        simp only [ho, Op.names, List.map_cons, List.map_nil] at hms
        split at hact
        · rename_i e' sz' css
          cases hact
          have hm' : m[rr]? = some (some (.row e' sz' css)) := by simpa [getM] using hms.symm
          obtain ⟨hd, len, h1, h2, h3⟩ : ∃ hd len, E.rw rr = some (hd, len) ∧ n ≤ len ∧ (n = len → ∃ g cap, hd = .slice (some ⟨g, 0, none⟩) n cap ∧ a.eval x = .pointer (some ⟨g, i * sz + off, none⟩)) := relSB_c hx
          have hlen : len = css.length := by
            obtain ⟨_, _, hd', xs, hrw', _⟩ := hc.row hm'
            rw [h1] at hrw'
            cases hrw'
            rfl
          have hq' : n = css.length := hq
          obtain ⟨g, cap, hhd, he⟩ := h3 (by omega)
          refine go hpos he ⟨⟨hd, len, h1, h2, fun _ => ⟨g, cap, hhd, by rw [← Nat.add_assoc]⟩⟩, rfl⟩
        · cases hact
      · cases hact
    · cases hact
  · cases hact

theorem run_field {t : TypeId} {fs : Array Field} {fl : Nat} {f : Field} {arr : Array Value} (hu : P.underlying t = some (.struct fs)) (hf : fs[fl]? = some f) (ht : tyOk P f.type = true) (hoff : f.offset + sizeT P f.type ≤ arr.size) :
    (Instr.field t (.agg arr) fl).run P w = .ok (if isAggT P f.type then .agg (arr.extract f.offset (f.offset + sizeT P f.type)) else arr.getD f.offset undef) w := by
  unfold Instr.field
  rw [Sem.run_bind, run_underlying hu]
  simp only [Result.andThen_ok, hf]
  simp only [asAgg, Sem.run_bind, Sem.run_pure, Result.andThen_ok, Go.part, run_isAgg ht]
  cases hag : isAggT P f.type with
  | true => simp only [if_true, Sem.run_bind, run_sizeOf (tyOk_pos ht), Result.andThen_ok, Sem.run_pure]
  | false =>
    have h1 := tyOk_one ht hag
    have h2 : f.offset < arr.size := by omega
    simp [Array.getElem?_eq_getElem h2]

theorem field_sound {o : Oper} {a : Act} {t : TypeId} {x : Operand} {fl : Nat} {vs : List SB} {r : SB} {ms ms' : List (Option (Option MO))} {q : List Prop} (hc : Core B E m w) (ho : o.op = .field t x fl)
    (hv : Vals E a.eval [x] vs) (hact : actField P t fl vs ms = some (r, ms', q)) (hq : allP q) : Done P B E m r o a w := by
  obtain ⟨v, rfl, hx⟩ := vals1 hv
  unfold actField at hact
  split at hact
  · rename_i fs hu
    split at hact
    · rename_i f hf
      split at hact
      · rename_i cs heq
        cases heq
        obtain ⟨hck, hact⟩ := ck_some hact
        cases hact
        obtain ⟨hq, hty⟩ := ckPart_spec hck
        obtain ⟨arr, he, hrel⟩ : ∃ arr, a.eval x = .agg arr ∧ RelLK E.K cs arr := hx
        refine done_value (u := if isAggT P f.type then .agg (arr.extract f.offset (f.offset + sizeT P f.type)) else arr.getD f.offset undef) hc ?_ ?_
        · simp only [execOp, ho, he, Sem.run_bind, run_field (arr := arr) hu hf hty (by have := hrel.1; omega), Result.andThen_ok, Sem.run_pure]
        · have := part_k (P := P) (E := E) (base := 0) (arr := arr) hty hq (by have := hrel.1; omega) (fun j hj => by simpa using hrel.2 j hj)
          simp only [Nat.zero_add] at this
          exact this
      · cases hact
    · cases hact
  · cases hact

theorem indexAddr_sound {o : Oper} {a : Act} {t : TypeId} {x y : Operand} {vs : List SB} {r : SB} {ms ms' : List (Option (Option MO))} {q : List Prop} (hc : Core B E m w) (ho : o.op = .indexAddr t x y)
    (hms : ms = (Op.names o.op o.dst vs).map (getM m)) (hv : Vals E a.eval [x, y] vs) (hact : actIndexAddr P t vs ms = some (r, ms', q)) (hq : allP q) : Done P B E m r o a w := by
  obtain ⟨v1, v2, rfl, hx, hy⟩ := vals2 hv
  unfold actIndexAddr at hact
  split at hact
  · rename_i c k j heq
    cases heq
    have e2 := relSB_int hy
    split at hact
    · rename_i e hu
      have go : ∀ {b off len cap : Nat} {r : SB}, 0 < sizeT P e → a.eval x = .slice (some ⟨b, off, none⟩) len cap → 0 ≤ j → j < len → RelSB E r (.pointer (some ⟨b, off + j.toNat * sizeT P e, none⟩)) → Done P B E m r o a w := by
        intro b off len cap r hs he h0 h1 hr
        refine done_value hc ?_ hr
        simp only [execOp, ho, he, e2, Instr.indexAt, asIntOf, Sem.run_bind, Sem.run_pure, run_underlying hu, Result.andThen_ok]
        rw [if_pos ⟨h0, h1⟩]
        simp only [Sem.run_bind, run_sizeOf hs, Result.andThen_ok, Sem.run_pure, Addr.add_lit]
      split at hact
      · rename_i sz n f
        obtain ⟨hck, hact⟩ := ck_some hact
        cases hact
        obtain ⟨h0, h1⟩ := hq
        obtain ⟨hsz, hs⟩ := ckElem_spec hck
        have hk : RelK E.K (.lst sz n f) (a.eval x) := relSB_c hx
        generalize he : a.eval x = u at hk
        cases hk with
        | lst0 => omega
        | lst1 => omega
        | lst _ _ _ b off cap arr T fz g hK hg hl hr h1' hcap =>
          have hi : j.toNat < n := by omega
          have := RelK.kel sz n f j.toNat 0 b off arr T fz g hK hg hl hr h1' hi
          rw [Nat.add_zero, hsz] at this
          subst hsz
          exact go hs he h0 h1 ⟨this, rfl⟩
      · rename_i rr n
        simp only [ho, Op.names, List.map_cons, List.map_nil] at hms
        split at hact
        · rename_i e' sz' css
          obtain ⟨hck, hact⟩ := ck_some hact
          cases hact
          obtain ⟨⟨h0, h1⟩, hn⟩ := hq
          obtain ⟨_, hs⟩ := ckElem_spec hck
          have hm' : m[rr]? = some (some (.row e' sz' css)) := by simpa [getM] using hms.symm
          obtain ⟨hd, len, g1, g2, g3⟩ : ∃ hd len, E.rw rr = some (hd, len) ∧ n ≤ len ∧ (n = len → a.eval x = hd) := relSB_c hx
          have hM := hc.row hm'
          have hlen : len = css.length := by
            obtain ⟨_, _, hd', xs, hrw', _⟩ := hM
            rw [g1] at hrw'
            cases hrw'
            rfl
          have hxe := g3 (by omega)
          obtain ⟨_, _, hd', xs, hrw', ⟨_, hcase⟩, _⟩ := hM
          rw [g1] at hrw'
          cases hrw'
          rcases hcase with ⟨_, h00⟩ | ⟨g, cap, cur, hv', _⟩
          · omega
          · rw [hv'] at hxe
            have hr := go (r := .v (.c (.rel rr n (sizeT P e) j.toNat 0))) hs hxe h0 (by omega) ⟨⟨hd, css.length, g1, by omega, fun _ => ⟨g, cap, by rw [hv', hn], by simp⟩⟩, rfl⟩
            exact hr
        · cases hact
      · cases hact
    · rename_i n e hu
      have hs := ckPos_spec (ck_some hact).1
      replace hact := (ck_some hact).2
      have go : ∀ {b off : Nat} {r : SB}, 0 < sizeT P e → a.eval x = .pointer (some ⟨b, off, none⟩) → 0 ≤ j → j < n → RelSB E r (.pointer (some ⟨b, off + j.toNat * sizeT P e, none⟩)) → Done P B E m r o a w := by
        intro b off r hs he h0 h1 hr
        refine done_value hc ?_ hr
        simp only [execOp, ho, he, e2, Instr.indexAt, asIntOf, Instr.sureAddr, Sem.run_bind, Sem.run_pure, run_underlying hu, Result.andThen_ok]
        rw [if_pos ⟨h0, h1⟩]
        simp only [Sem.run_bind, run_sizeOf hs, Result.andThen_ok, Sem.run_pure, Addr.add_lit]
      split at hact
      · rename_i mm off
        cases hact
        obtain ⟨h0, h1⟩ := hq
        obtain ⟨b, hb, he⟩ : RelP E mm off (a.eval x) := relSB_c hx
        exact go hs he h0 h1 ⟨⟨b, hb, rfl⟩, rfl⟩
      · rename_i cs off
        cases hact
        obtain ⟨h0, h1⟩ := hq
        have hk : RelK E.K (.kptr cs off) (a.eval x) := relSB_c hx
        generalize he : a.eval x = u at hk
        cases hk with
        | kptr _ _ b arr T fz hK hs' hr h1' => exact go hs he h0 h1 ⟨RelK.kptr cs _ b arr T fz hK hs' hr h1', rfl⟩
      · rename_i sz mm f i off
        cases hact
        obtain ⟨h0, h1⟩ := hq
        have hk : RelK E.K (.kel sz mm f i off) (a.eval x) := relSB_c hx
        generalize he : a.eval x = u at hk
        cases hk with
        | kel _ _ _ _ _ b off' arr T fz g' hK hg hl hr h1' hi =>
          have := RelK.kel sz mm f i (off + j.toNat * sizeT P e) b off' arr T fz g' hK hg hl hr h1' hi
          rw [← Nat.add_assoc] at this
          exact go hs he h0 h1 ⟨this, rfl⟩
      · cases hact
    · cases hact
  · cases hact

theorem index_sound {o : Oper} {a : Act} {t : TypeId} {x y : Operand} {vs : List SB} {r : SB} {ms ms' : List (Option (Option MO))} {q : List Prop} (hc : Core B E m w) (ho : o.op = .index t x y)
    (hv : Vals E a.eval [x, y] vs) (hact : actIndex P t vs ms = some (r, ms', q)) (hq : allP q) : Done P B E m r o a w := by
  obtain ⟨v1, v2, rfl, hx, hy⟩ := vals2 hv
  unfold actIndex at hact
  split at hact
  · rename_i cs k j heq
    cases heq
    have e2 := relSB_int hy
    split at hact
    · rename_i n e hu
      obtain ⟨hck, hact⟩ := ck_some hact
      cases hact
      obtain ⟨h0, h1⟩ := hq
      obtain ⟨hlen, hty⟩ := ckArr_spec hck
      obtain ⟨arr, he, hrel⟩ : ∃ arr, a.eval x = .agg arr ∧ RelLK E.K cs arr := hx
      have hmul : (j.toNat + 1) * sizeT P e ≤ n * sizeT P e := Nat.mul_le_mul_right _ (by omega)
      rw [Nat.add_mul, Nat.one_mul] at hmul
      have hsz := hrel.1
      refine done_value (u := if isAggT P e then .agg (arr.extract (j.toNat * sizeT P e) (j.toNat * sizeT P e + sizeT P e)) else arr.getD (j.toNat * sizeT P e) undef) hc ?_ ?_
      · simp only [execOp, ho, he, e2, Instr.index, asIntOf, Sem.run_bind, Sem.run_pure, run_underlying hu, Result.andThen_ok]
        rw [if_pos ⟨h0, h1⟩]
        simp only [Sem.run_bind, run_sizeOf (tyOk_pos hty), Result.andThen_ok, Go.part, run_isAgg hty]
        cases hag : isAggT P e with
        | true => simp only [if_true, Sem.run_bind, run_sizeOf (tyOk_pos hty), Result.andThen_ok, Sem.run_pure]
        | false =>
          have h1 := tyOk_one hty hag
          have h2 : j.toNat * sizeT P e < arr.size := by omega
          simp [Array.getElem?_eq_getElem h2]
      · have := part_k (P := P) (E := E) (cs := cs) (off := j.toNat * sizeT P e) (base := 0) (arr := arr) hty (by omega) (by omega) (fun j hj => by simpa using hrel.2 j hj)
        simp only [Nat.zero_add] at this
        exact this
    · cases hact
  · cases hact

theorem extract_sound {o : Oper} {a : Act} {x : Operand} {i : Nat} {vs : List SB} {r : SB} {ms ms' : List (Option (Option MO))} {q : List Prop} (hc : Core B E m w) (ho : o.op = .extract x i)
    (hv : Vals E a.eval [x] vs) (hact : actExtract i vs ms = some (r, ms', q)) : Done P B E m r o a w := by
  obtain ⟨v, rfl, hx⟩ := vals1 hv
  unfold actExtract at hact
  split at hact
  · rename_i xs heq
    cases heq
    split at hact
    · rename_i y hy
      cases hact
      obtain ⟨us, he, hs, hrel⟩ : ∃ us : Array Value, a.eval x = .tuple us ∧ us.size = xs.length ∧ ∀ j, j < xs.length → RelCV E (xs.getD j (.c .junk)) (us.getD j undef) := hx
      have hi : i < xs.length := (List.getElem?_eq_some_iff.1 hy).1
      have hr := hrel i hi
      have e1 : xs.getD i (.c .junk) = y := by simp [List.getD_eq_getElem?_getD, hy]
      have e2 : us.getD i undef = us[i]'(by omega) := by simp [Array.getElem?_eq_getElem (show i < us.size by omega)]
      rw [e1, e2] at hr
      refine done_value (u := us[i]'(by omega)) hc ?_ hr
      simp [execOp, ho, he, Instr.extract, Array.getElem?_eq_getElem (show i < us.size by omega)]
    · cases hact
  · cases hact

theorem len_sound {o : Oper} {a : Act} {c : Call} {t : TypeId} {x : Operand} {vs : List SB} {r : SB} {ms ms' : List (Option (Option MO))} {q : List Prop} (hc : Core B E m w) (ho : o.op = .call c) (hcal : c.callee = .builtin .len) (hargs : c.args.toList = [x])
    (hty : c.argTypes.toList = [t]) (hms : ms = (Op.names o.op o.dst vs).map (getM m)) (hv : Vals E a.eval [x] vs) (hact : actLen P t vs ms = some (r, ms', q)) (hq : allP q) : Done P B E m r o a w := by
  obtain ⟨v, rfl, hx⟩ := vals1 hv
  obtain ⟨callee, args, argTypes⟩ := c
  subst hcal
  obtain rfl : args = #[x] := by apply Array.ext'; simpa using hargs
  obtain rfl : argTypes = #[t] := by apply Array.ext'; simpa using hty
  have go : ∀ {n : Int} {u : Value} {d : TypeDesc}, P.underlying t = some d → a.eval x = u → (Builtin.len_ #[t] o.type #[u]).run P w = .ok (.int .i64 n) w → Done P B E m (.v (.c (.int .i64 n))) o a w := by
    intro n u d hd he hr
    refine done_value (u := .int .i64 n) hc ?_ rel_int
    simp only [execOp, ho, resolve, invoke, builtin, Sem.run_bind, Sem.run_pure, Result.andThen_ok, List.map_toArray, List.map_cons, List.map_nil, he, hr]
  unfold actLen at hact
  split at hact
  · rename_i y heq
    cases heq
    split at hact
    · rename_i e sz n f hu
      cases hact
      have hk : RelK E.K (.lst sz n f) (a.eval x) := relSB_c hx
      generalize he : a.eval x = u at hk
      cases hk with
      | lst0 => exact go hu he (by simp [Builtin.len_, run_underlying hu, goInt])
      | lst1 => exact go hu he (by simp [Builtin.len_, run_underlying hu, goInt])
      | lst => exact go hu he (by simp [Builtin.len_, run_underlying hu, goInt])
    · rename_i e hu
      cases hact
      have hk : RelK E.K .nil (a.eval x) := relSB_c hx
      generalize he : a.eval x = u at hk
      cases hk
      exact go hu he (by simp [Builtin.len_, run_underlying hu, goInt])
    · rename_i e rr n hu
      simp only [ho, Op.names, List.map_cons, List.map_nil] at hms
      split at hact
      · rename_i e' sz' css
        cases hact
        have hm' : m[rr]? = some (some (.row e' sz' css)) := by simpa [getM] using hms.symm
        obtain ⟨hd, len, g1, g2, g3⟩ : ∃ hd len, E.rw rr = some (hd, len) ∧ n ≤ len ∧ (n = len → a.eval x = hd) := relSB_c hx
        have hM := hc.row hm'
        obtain ⟨_, _, hd', xs, hrw', ⟨_, hcase⟩, _⟩ := hM
        rw [g1] at hrw'
        cases hrw'
        have hq : n = css.length := hq
        have hxe := g3 (by omega)
        rcases hcase with ⟨hv', h00⟩ | ⟨g, cap, cur, hv', _⟩
        · rw [hv'] at hxe
          have : n = 0 := by omega
          subst this
          exact go hu hxe (by simp [Builtin.len_, run_underlying hu, goInt])
        · rw [hv'] at hxe
          subst hq
          exact go hu hxe (by simp [Builtin.len_, run_underlying hu, goInt])
      · cases hact
    · rename_i s hu
      cases hact
      have he := relSB_str hx
      exact go hu he (by simp [Builtin.len_, run_underlying hu, goInt])
    · cases hact
  · cases hact

theorem minmax_sound {o : Oper} {a : Act} {c : Call} {mx : Bool} {x y : Operand} {vs : List SB} {r : SB} {ms ms' : List (Option (Option MO))} {q : List Prop} (hc : Core B E m w) (ho : o.op = .call c)
    (hcal : c.callee = .builtin (if mx then .max else .min)) (hargs : c.args.toList = [x, y]) (hv : Vals E a.eval [x, y] vs) (hact : actMinMax mx vs ms = some (r, ms', q)) : Done P B E m r o a w := by
  obtain ⟨v1, v2, rfl, hx, hy⟩ := vals2 hv
  obtain ⟨callee, args, argTypes⟩ := c
  subst hcal
  obtain rfl : args = #[x, y] := by apply Array.ext'; simpa using hargs
  unfold actMinMax at hact
  split at hact
  · rename_i k n1 k' n2 heq
    cases heq
    have e1 := relSB_int hx
    have e2 := relSB_int hy
    split at hact
    · rename_i hk
      have := kindEq_eq hk
      subst this
      cases hact
      cases mx with
      | true =>
        refine done_value (u := .int k (if n2 > n1 then n2 else n1)) hc ?_ rel_int
        simp [execOp, ho, resolve, invoke, builtin, e1, e2, Builtin.max_, Builtin.max2]
      | false =>
        refine done_value (u := .int k (if n2 < n1 then n2 else n1)) hc ?_ rel_int
        simp [execOp, ho, resolve, invoke, builtin, e1, e2, Builtin.min_, Builtin.min2]
    · cases hact
  · cases hact

theorem minmax3_sound {o : Oper} {a : Act} {c : Call} {mx : Bool} {x y z : Operand} {vs : List SB} {r : SB} {ms ms' : List (Option (Option MO))} {q : List Prop} (hc : Core B E m w) (ho : o.op = .call c)
    (hcal : c.callee = .builtin (if mx then .max else .min)) (hargs : c.args.toList = [x, y, z]) (hv : Vals E a.eval [x, y, z] vs) (hact : actMinMax3 mx vs ms = some (r, ms', q)) : Done P B E m r o a w := by
  obtain ⟨v1, v2, v3, rfl, hx, hy, hz⟩ := vals3 hv
  obtain ⟨callee, args, argTypes⟩ := c
  subst hcal
  obtain rfl : args = #[x, y, z] := by apply Array.ext'; simpa using hargs
  unfold actMinMax3 at hact
  split at hact
  · rename_i k n1 k' n2 k'' n3 heq
    cases heq
    have e1 := relSB_int hx
    have e2 := relSB_int hy
    have e3 := relSB_int hz
    split at hact
    · rename_i hk
      rw [Bool.and_eq_true] at hk
      have h1 := kindEq_eq hk.1
      have h2 := kindEq_eq hk.2
      subst h1
      subst h2
      cases hact
      cases mx with
      | true =>
        refine done_value (u := .int k (if n3 > (if n2 > n1 then n2 else n1) then n3 else (if n2 > n1 then n2 else n1))) hc ?_ rel_int
        simp [execOp, ho, resolve, invoke, builtin, e1, e2, e3, Builtin.max_, Builtin.max2]
      | false =>
        refine done_value (u := .int k (if n3 < (if n2 < n1 then n2 else n1) then n3 else (if n2 < n1 then n2 else n1))) hc ?_ rel_int
        simp [execOp, ho, resolve, invoke, builtin, e1, e2, e3, Builtin.min_, Builtin.min2]
    · cases hact
  · cases hact

end Go.Sym
