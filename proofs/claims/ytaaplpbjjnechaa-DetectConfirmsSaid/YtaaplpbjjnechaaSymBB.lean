/-
  THE SYMBOLIC LAYER, PART BB: functions that hand yield some things, each once, in an order that nobody knows; they may keep one walk of their own.
-/
import Derived.Test.YtaaplpbjjnechaaSymR
namespace Go.Sym
open Go.RowKit

variable {P : Program} {B : Base P} {E : Env} {w : World}

/-- What changes between two calls of yield, but for the block z. -/
structure SinceZ (z : Nat) (K : Know) (w : World) (K' : Know) (w' : World) : Prop where
  le : K.le K'
  nk : ∀ b, b < w.heap.size → K b = none → K' b = none
  know : Knows K' w'
  os : w'.os = w.os
  tape : w'.tape = w.tape
  output : w'.output = w.output
  size : w.heap.size ≤ w'.heap.size
  old : ∀ b, b < w.heap.size → b ≠ z → w'.heap[b]? = w.heap[b]?

/-- z is a walk that nobody else knows of. -/
structure Walk (z : Nat) (K : Know) (w : World) : Prop where
  nk : K z = none
  at' : z < w.heap.size → ∃ o, w.heap[z]? = some o ∧ walks o = true

/-- What calls of yield do. -/
def YieldsN (P : Program) (l : Nat) (zs : List (List CV)) (z : Nat) (J : List (List CV) → Know → World → Prop) : Prop :=
  ∀ pre x K w K' w' vs, J pre K w → Walk z K w → SinceZ z K w K' w' → (∃ rest, (pre ++ x :: rest).Perm zs) → vs.size = x.length → (∀ j, j < x.length → RelCVK K' (x.getD j (.c .junk)) (vs.getD j undef)) →
    YieldAt (FB none) 0 P l vs w' fun e w'' => e = .returned (.bool true) ∧ (∀ (b : Nat) (o : Obj), w'.heap[b]? = some o → walks o = true → w''.heap[b]? = some o) ∧
      ∃ K'', K'.le K'' ∧ (∀ b, b < w'.heap.size → K' b = none → K'' b = none) ∧ Knows K'' w'' ∧ J (pre ++ [x]) K'' w''

/-- f, on these captured values, is ranged over: it hands yield the zs, each once. -/
structure NIter (P : Program) (f : FuncId) (caps : List C) (zs : List (List CV)) : Prop where
  known : ∃ fn, P.funcs[f]? = some fn ∧ fn.body.isSome = true ∧ (fn.name == "runtime.NumGoroutine") = false
  calls : ∀ (l : Nat) (J : List (List CV) → Know → World → Prop) (K : Know) (w : World) (vs : Array Value), YieldsN P l zs w.heap.size J → J [] K w → Knows K w → vs.size = caps.length →
    (∀ j, j < caps.length → RelK K (caps.getD j .junk) (vs.getD j undef) ∧ (vs.getD j undef).oneCell' = true) →
    CallsIn (FB none) 0 P f (#[Value.func (.yield l) #[] #[]] ++ vs) w fun e w' => (∃ v, e = .returned v) ∧ ∃ pre K1 w1 K', pre.Perm zs ∧ J pre K1 w1 ∧ Walk w.heap.size K1 w1 ∧ SinceZ w.heap.size K1 w1 K' w'

/-- The world with the block z as it is later. -/
def lay (z : Nat) (W W' : World) : World :=
  match W'.heap[z]? with
  | some o => { W with heap := W.heap.setIfInBounds z o }
  | none => W

theorem lay_size (z : Nat) (W W' : World) : (lay z W W').heap.size = W.heap.size := by unfold lay; split <;> simp
theorem lay_other {z b : Nat} {W W' : World} (h : b ≠ z) : (lay z W W').heap[b]? = W.heap[b]? := by
  unfold lay; split
  · simp [Array.getElem?_setIfInBounds_ne (Ne.symm h)]
  · rfl
theorem lay_rest (z : Nat) (W W' : World) : (lay z W W').os = W.os ∧ (lay z W W').tape = W.tape ∧ (lay z W W').output = W.output := by unfold lay; split <;> exact ⟨rfl, rfl, rfl⟩
theorem SinceZ.lay {z : Nat} {K K' : Know} {W W' : World} (h : SinceZ z K W K' W') : Since K (lay z W W') K' W' := by
  obtain ⟨r1, r2, r3⟩ := lay_rest z W W'
  refine ⟨h.le, by rw [lay_size]; exact h.nk, h.know, h.os.trans r1.symm, h.tape.trans r2.symm, h.output.trans r3.symm, by rw [lay_size]; exact h.size, fun b hb => ?_⟩
  rw [lay_size] at hb
  by_cases hz : b = z
  · subst hz
    have hb' : b < W'.heap.size := by have := h.size; omega
    unfold Go.Sym.lay
    have e : W'.heap[b]? = some W'.heap[b] := by simp [hb']
    rw [e]
    simp [hb]
  · rw [lay_other hz]; exact h.old b hb hz

theorem Mid.lay {E0 : Env} {a : Act} {D l z : Nat} {rec : Obj} {s : S} {K : Know} {W W' : World} (hm : Mid B E0 a D l rec s K W) (hz : Walk z K W) (hr : walks rec = false) (hz0 : E0.c.w0.heap.size ≤ z) : Mid B E0 a D l rec s K (lay z W W') := by
  obtain ⟨E1, rfl, hcE, hs, hl, hD, hKl, hKD, hnl, hnD⟩ := hm
  have hc := hs.core
  have hne : ∀ b o, W.heap[b]? = some o → walks o = false → b ≠ z := fun b o hb ho e => by
    subst e
    obtain ⟨o', h1, h2⟩ := hz.at' (Array.getElem?_eq_some_iff.1 hb).1
    rw [hb] at h1; cases h1
    rw [ho] at h2; cases h2
  have hheld : ∀ n b, E1.holds n b → b ≠ z := fun n b h => by
    obtain ⟨o, h1, h2⟩ := hc.held h
    exact hne b o h1 h2
  obtain ⟨r1, r2, r3⟩ := lay_rest z W W'
  refine ⟨E1, rfl, hcE, ⟨?_, hs.size, hs.defers, hs.slot⟩, (lay_other (hne l _ hl hr)).trans hl, (lay_other (hne D _ hD rfl)).trans hD, hKl, hKD, hnl, hnD⟩
  exact { hc with
    know := fun b x hb => by
      have : b ≠ z := fun e => by rw [e, hz.nk] at hb; cases hb
      exact (lay_other this).trans (hc.know b x hb)
    mem := fun n o h => (hc.mem n o h).other fun b hb => lay_other (hheld n b hb)
    lt := fun n b h => by rw [lay_size]; exact hc.lt n b h
    os := r1.trans hc.os
    tape := r2.trans hc.tape
    output := r3.trans hc.output
    size := by rw [lay_size]; exact hc.size
    old := fun b hb hbW => (lay_other (by rw [hcE] at hb; omega)).trans (hc.old b hb hbW) }

/-- Where a round ends. -/
def roundN (P : Program) (I : List (List CV) → S) (pre : List (List CV)) (x : List CV) : Exit → S → Prop
  | .normal, s => ∃ s', Wk P s s' ∧ s'.fits (I pre).t.length = true ∧ Wk P (unpin s') (I (pre ++ [x]))
  | _, _ => False

theorem range_yieldsN {E0 : Env} {a : Act} {D l z : Nat} {fn : FuncId} {ps : Array Tmp} {assign body : Code} {I : List (List CV) → S} {zs : List (List CV)} (hDl : D ≠ l) (hl0 : E0.c.w0.heap.size ≤ l) (hz0 : E0.c.w0.heap.size ≤ z)
    (hps : ∀ x, x ∈ zs → x.length = ps.size) (hY : ∀ pre, (I pre).noY = true)
    (round : ∀ pre x, (∃ rest, (pre ++ x :: rest).Perm zs) → ∀ B1 : Base P, Run P B1 (startR (I pre) ps.toList x) [assign] (fun e s1 => e = .normal ∧ s1.noY = true ∧ ∀ B2 : Base P, Run P B2 s1 [body] (roundN P I pre x))) :
    YieldsN P l zs z fun pre K W => Mid B E0 a D l (.loop (loopRec fn a.tmps ps assign body D .ready none)) (I pre) K W := by
  intro pre x K W K' W' vs hJ hz hsi hp hvs hx
  have hxz : x ∈ zs := by
    obtain ⟨rest, h⟩ := hp
    exact h.mem_iff.1 (by simp)
  have hm := hJ.lay (W' := W') hz rfl hz0
  let I' : Nat → S := fun n => match n with | 0 => I pre | _ + 1 => I (pre ++ [x])
  have hy := range_yields (B := B) (E0 := E0) (a := a) (D := D) (l := l) (fn := fn) (ps := ps) (assign := assign) (body := body) (Q := fun _ _ => False) (I := I') (xs := [x]) (k := 1) hDl hl0
    (fun i hi => by
      have : i = 0 := by simp at hi; omega
      subst this; exact hps x hxz)
    (fun i _ => by cases i <;> exact hY _)
    (fun i hi _ B1 => by
      have : i = 0 := by simp at hi; omega
      subst this
      refine tri_mono (run_tri (round pre x hp B1)) fun e s' hq => ?_
      have hq' : e = .normal ∧ s'.noY = true ∧ ∀ B2 : Base P, Run P B2 s' [body] (roundN P I pre x) := by cases e <;> exact hq
      obtain ⟨rfl, h1, h2⟩ := hq'
      refine ⟨rfl, h1, fun B2 => tri_mono (run_tri (h2 B2)) fun e s2 hq2 => ?_⟩
      cases e with
      | normal =>
        obtain ⟨s3, g1, g2, g3⟩ := (show roundN P I pre x .normal s2 from hq2)
        exact ⟨by omega, s3, g1, g2, g3⟩
      | _ => exact False.elim hq2)
  have h := hy 0 K _ K' W' vs (.inl ⟨Nat.zero_le _, hm⟩) hsi.lay (by simp) (Nat.zero_le _) hvs hx
  refine yieldAt_mono h ?_
  rintro e w'' ⟨rfl, h1, K'', h2, h3, h4, h5⟩
  refine ⟨rfl, h1, K'', h2, h3, h4, ?_⟩
  rcases h5 with ⟨_, h5⟩ | ⟨h5, _⟩
  · exact h5
  · omega

/-- **A LOOP OVER A FUNCTION whose order nobody knows**; no round leaves it. -/
theorem run_rangeN {s : S} {g : Operand} {ps : Array Tmp} {assign body : Code} {cs : List Code} {Q : Exit → S → Prop} {f : FuncId} {caps : List C} {zs : List (List CV)} (hB : B.r = none) (hBf : B.fn = true) (hg : s.ev [] g = some (.v (.c (.clo f caps)))) (hit : NIter P f caps zs)
    (hps : ∀ x, x ∈ zs → x.length = ps.size) (I : List (List CV) → S) (hI : Wk P s (I [])) (hY : ∀ pre, (I pre).noY = true)
    (round : ∀ pre x, (∃ rest, (pre ++ x :: rest).Perm zs) → ∀ B1 : Base P, Run P B1 (startR (I pre) ps.toList x) [assign] (fun e s1 => e = .normal ∧ s1.noY = true ∧ ∀ B2 : Base P, Run P B2 s1 [body] (roundN P I pre x)))
    (after : ∀ pre, pre.Perm zs → Run P B (I pre) cs Q) : Run P B s (.rangeFunc g ps assign body :: cs) Q := by
  intro E a w hs
  have hv : RelSB E (.v (.c (.clo f caps))) (a.eval g) := ev_rel (p := []) hs rfl hg
  have hkv : RelK E.K (.clo f caps) (a.eval g) := relSB_c hv
  obtain ⟨cvs, hcv, hcs, hcr, hco⟩ : ∃ cvs, a.eval g = .func (.func f) #[] cvs ∧ cvs.size = caps.length ∧ (∀ j, j < caps.length → RelK E.K (caps.getD j .junk) (cvs.getD j undef)) ∧ (∀ j, j < caps.length → (cvs.getD j undef).oneCell' = true) := by
    generalize a.eval g = u at hkv
    cases hkv
    rename_i vs h1 h2 h3
    exact ⟨vs, rfl, h1, h2, h3⟩
  obtain ⟨fnc, hfn, hbody, hname⟩ := hit.known
  obtain ⟨E0, hs0, hK0, hc0, hh0⟩ := hI _ _ _ _ hs
  have hc := hs.core
  have hcz := hs0.core
  refine wpIn_rangeFunc ?_
  intro fn _
  have hro : (FB B.r).round = none := hB
  rw [hro]
  obtain ⟨W1, hW1⟩ : ∃ W1, (w.alloc (.deferred (some []))).alloc (.loop (loopRec fn a.tmps ps assign body w.heap.size .ready none)) = W1 := ⟨_, rfl⟩
  have hL1 : W1.heap[w.heap.size + 1]? = some (.loop (loopRec fn a.tmps ps assign body w.heap.size .ready none)) := by
    rw [← hW1]
    have := World.alloc_heap_new (w.alloc (.deferred (some []))) (.loop (loopRec fn a.tmps ps assign body w.heap.size .ready none))
    rwa [World.size_alloc] at this
  have hD1 : W1.heap[w.heap.size]? = some (.deferred (some [])) := by
    rw [← hW1]; exact (Below.heap_alloc _ _ _ (by simp)).trans (World.alloc_heap_new w _)
  have hold1 : ∀ b, b < w.heap.size → W1.heap[b]? = w.heap[b]? := fun b hb => by
    rw [← hW1]; exact (Below.heap_alloc _ _ _ (by simp; omega)).trans (Below.heap_alloc _ _ _ hb)
  have hszE : W1.heap.size = w.heap.size + 2 := by rw [← hW1]; simp
  have hsz1 : w.heap.size ≤ W1.heap.size := by omega
  have hkn1 : Knows E0.K W1 := fun b x hb => by
    have := hcz.know b x hb
    rw [hold1 b (Array.getElem?_eq_some_iff.1 this).1]; exact this
  have fresh : ∀ b, w.heap.size ≤ b → E0.K b = none := fun b hb => by
    cases h : E0.K b with
    | none => rfl
    | some x => have := (Array.getElem?_eq_some_iff.1 (hcz.know b x h)).1; omega
  have freshH : ∀ n b, w.heap.size ≤ b → ¬ E0.holds n b := fun n b hb h => by have := hcz.lt n b h; omega
  have hw0 : E0.c.w0.heap.size ≤ w.heap.size := hcz.size
  have hmid : Mid B E0 a w.heap.size (w.heap.size + 1) (.loop (loopRec fn a.tmps ps assign body w.heap.size .ready none)) (I []) E0.K W1 := by
    refine ⟨E0, rfl, rfl, ⟨?_, hs0.size, hs0.defers, hs0.slot⟩, hL1, hD1, fresh _ (by omega), fresh _ (by omega), fun n => freshH n _ (by omega), fun n => freshH n _ (by omega)⟩
    exact { hcz with
      know := hkn1
      mem := fun n o h => (hcz.mem n o h).other fun b hb => hold1 b (hcz.lt n b hb)
      lt := fun n b h => by have := hcz.lt n b h; omega
      os := by rw [← hW1]; exact hcz.os
      tape := by rw [← hW1]; exact hcz.tape
      output := by rw [← hW1]; exact hcz.output
      size := by omega
      old := fun b hb hbW => (hold1 b (by omega)).trans (hcz.old b hb hbW) }
  have hN : B.N ≤ w.heap.size := by
    have := B.fnN hBf _ _ _ hc.j
    have := hc.size
    omega
  refine ⟨w.heap.size + 1, [{ target := .collected w.heap.size, args := #[] }], W1, { target := .fn (.func f) cvs, args := #[.func (.yield (w.heap.size + 1)) #[] #[]] }, W1, f,
    #[.func (.yield (w.heap.size + 1)) #[] #[]] ++ cvs, W1, ?_, ?_, ?_, ?_, fun h => absurd h (by simp [FB]), ?_⟩
  · rw [← hW1]; exact run_enterLoop_outer _ _ _ _ _
  · simp only [resolve, hcv]
    simp [go_sem]
  · intro f' _; trivial
  · have hb : fnc.body.isNone = false := by cases hfb : fnc.body <;> simp [hfb] at hbody ⊢
    simp only [invoke, callFunc, Sem.run_bind, Sem.run_pure, Result.andThen_ok, run_program, hfn, hname, hb, Bool.false_eq_true, if_false]
  · have hy := range_yieldsN (B := B) (E0 := E0) (a := a) (D := w.heap.size) (l := w.heap.size + 1) (z := W1.heap.size) (fn := fn) (ps := ps) (assign := assign) (body := body) (I := I) (zs := zs) (by omega) (by omega) (by omega) hps hY round
    have hcall := hit.calls (w.heap.size + 1) _ E0.K W1 cvs hy hmid hkn1 hcs (fun j hj => by rw [hK0]; exact ⟨hcr j hj, hco j hj⟩)
    have hFB : FB B.r = FB none := by rw [hB]
    rw [hFB]
    refine CallsIn.mono hcall ?_
    rintro e w' ⟨⟨v, rfl⟩, pre, K1, w1, K', hpm, hJ, hwk, hsz⟩
    have hm := hJ.lay (W' := w') hwk rfl (by omega)
    have hsi := hsz.lay
    have hl : w'.heap[w.heap.size + 1]? = some (.loop (loopRec fn a.tmps ps assign body w.heap.size .ready none)) := by
      obtain ⟨_, _, _, _, h, _⟩ := hm
      rw [hsi.old _ (Array.getElem?_eq_some_iff.1 h).1]; exact h
    have hend := run_endLoop (P := P) hl (by simp [loopRec])
    obtain ⟨E', h2⟩ := range_end (o := .loop { loopRec fn a.tmps ps assign body w.heap.size .ready none with state := .exhausted }) hm hsi (hY pre) (by omega) (by omega) (by omega) hN hBf
    exact ⟨none, _, hend, E', _, after pre hpm, h2⟩

theorem rRangeN {s : S} {g : Operand} {ps : Array Tmp} {assign body : Code} {cs : List Code} {Q : Exit → S → Prop} {f : FuncId} {caps : List C} {zs : List (List CV)} (hB : B.r = none) (hBf : B.fn = true) (hg : s.ev [] g = some (.v (.c (.clo f caps)))) (hit : NIter P f caps zs)
    (hps : ∀ x, x ∈ zs → x.length = ps.size) (I : List (List CV) → S) (hI : Wk P s (I [])) (hY : ∀ pre, (I pre).noY = true)
    (round : ∀ pre x, (∃ rest, (pre ++ x :: rest).Perm zs) → ∀ B1 : Base P, Run P B1 (startR (I pre) ps.toList x) (flatC assign []) (fun e s1 => e = .normal ∧ s1.noY = true ∧ ∀ B2 : Base P, Run P B2 s1 (flatC body []) (roundN P I pre x)))
    (after : ∀ pre, pre.Perm zs → Run P B (I pre) cs Q) : Run P B s (.rangeFunc g ps assign body :: cs) Q :=
  run_rangeN hB hBf hg hit hps I hI hY (fun pre x h B1 => tri_mono (run_tri (run_flat (round pre x h B1))) fun e s' hq => by
    have h : e = .normal ∧ s'.noY = true ∧ ∀ B2 : Base P, Run P B2 s' (flatC body []) (roundN P I pre x) := by cases e <;> exact hq
    have h2 : e = .normal ∧ s'.noY = true ∧ ∀ B2 : Base P, Run P B2 s' [body] (roundN P I pre x) := ⟨h.1, h.2.1, fun B2 => run_flat (h.2.2 B2)⟩
    obtain ⟨rfl, _⟩ := h
    exact h2) after
end Go.Sym
