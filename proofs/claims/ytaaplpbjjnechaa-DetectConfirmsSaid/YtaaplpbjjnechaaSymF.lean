/-
  THE SYMBOLIC LAYER, PART F: aggregates that are built; calls; every operation.
-/
import Derived.Test.YtaaplpbjjnechaaSymE
namespace Go.Sym
open Go.RowKit

variable {P : Program} {B : Base P} {E : Env} {m : List (Option MO)} {w : World}

theorem run_sizeOf' {t : TypeId} (h : (P.info? t).isSome = true) : (sizeOf t).run P w = .ok (sizeT P t) w := by
  obtain ⟨i, hi⟩ := Option.isSome_iff_exists.1 h
  simp [sizeOf, typeInfo, hi, sizeT]

theorem run_places (fs : Array Field) (h : haveInfo P fs = true) :
    (fs.mapM fun (f : Field) => (do pure (f.offset, ← sizeOf f.type) : Sem (Nat × Nat))).run P w = .ok (fs.map fun (f : Field) => (f.offset, sizeT P f.type)) w := by
  rw [Array.mapM_eq_mapM_toList]
  have key : ∀ l : List Field, (∀ f ∈ l, (P.info? f.type).isSome = true) →
      (l.mapM fun f => (do pure (f.offset, ← sizeOf f.type) : Sem (Nat × Nat))).run P w = .ok (l.map fun f => (f.offset, sizeT P f.type)) w := by
    intro l
    induction l with
    | nil => intro _; simp
    | cons f l ih =>
      intro hl
      have h1 := run_sizeOf' (w := w) (hl f List.mem_cons_self)
      have h2 := ih (fun g hg => hl g (List.mem_cons_of_mem _ hg))
      simp only [List.mapM_cons, Sem.run_bind, h1, Result.andThen_ok, Sem.run_pure, h2, List.map_cons]
  simp only [Sem.run_map]
  have hl : ∀ f ∈ fs.toList, (P.info? f.type).isSome = true := by
    intro f hf
    have := (Array.all_eq_true.1 h)
    obtain ⟨i, hi, rfl⟩ := List.getElem_of_mem hf
    exact this i (by simpa using hi)
  rw [key fs.toList hl]
  simp only [Result.andThen_ok]
  congr 1
  apply Array.ext'
  simp

theorem foldl_splice (off : Nat) : ∀ (l : List Value) (k : Nat) (cells : Array Value), off + k + l.length ≤ cells.size →
    (l.zipIdx k).foldl (fun cs (p : Value × Nat) => cs.setIfInBounds (off + p.2) p.1) cells = spliceA cells (off + k) l := by
  intro l
  induction l with
  | nil =>
    intro k cells _
    unfold spliceA
    simp
  | cons v l ih =>
    intro k cells h
    simp only [List.length_cons] at h
    simp only [List.zipIdx_cons, List.foldl_cons]
    rw [ih (k + 1) _ (by simp; omega)]
    apply Array.ext
    · rw [spliceA_size _ _ _ (by simp; omega), spliceA_size _ _ _ (by simp; omega)]; simp
    · intro j h1 h2
      have e1 := spliceA_getD (cells.setIfInBounds (off + k) v) l (off + (k + 1)) j (by simp; omega)
      have e2 := spliceA_getD cells (v :: l) (off + k) j (by simp; omega)
      have a1 : (spliceA (cells.setIfInBounds (off + k) v) (off + (k + 1)) l).getD j undef = (spliceA (cells.setIfInBounds (off + k) v) (off + (k + 1)) l)[j] := by simp [h1]
      have a2 : (spliceA cells (off + k) (v :: l)).getD j undef = (spliceA cells (off + k) (v :: l))[j] := by simp [h2]
      rw [← a1, ← a2, e1, e2]
      simp only [List.length_cons]
      by_cases hj : off + (k + 1) ≤ j ∧ j < off + (k + 1) + l.length
      · rw [if_pos hj, if_pos (by omega)]
        have : j - (off + k) = (j - (off + (k + 1))) + 1 := by omega
        rw [this]
        simp [List.getD_eq_getElem?_getD]
      · rw [if_neg hj]
        by_cases hjk : j = off + k
        · subst hjk
          rw [if_pos (by omega)]
          have : off + k < cells.size := by omega
          simp [this]
        · rw [if_neg (by omega)]
          simp [Ne.symm hjk]

theorem fill_sound {place : Nat → Option (Nat × Nat)} : ∀ {parts : List (Nat × CV)} {us : List (Nat × Value)} {cs r : List C} {arr : Array Value}, fillC place cs parts = some r → parts.length = us.length →
    (∀ (j : Nat) (p : Nat × CV) (u : Nat × Value), parts[j]? = some p → us[j]? = some u → p.1 = u.1 ∧ RelCV E p.2 u.2) → RelL E cs arr → ∃ arr', Instr.fill place arr us = some arr' ∧ RelL E r arr' := by
  intro parts
  induction parts with
  | nil =>
    intro us cs r arr h hlen hrel hc
    simp only [fillC] at h
    cases h
    cases us with
    | nil => exact ⟨arr, rfl, hc⟩
    | cons u us => simp at hlen
  | cons p parts ih =>
    intro us cs r arr h hlen hrel hc
    obtain ⟨i, v⟩ := p
    cases us with
    | nil => simp at hlen
    | cons u us =>
      obtain ⟨i', u⟩ := u
      obtain ⟨hi, hv⟩ := hrel 0 _ _ rfl rfl
      simp only at hi hv
      subst hi
      simp only [fillC] at h
      cases hp : place i with
      | none => simp [hp] at h
      | some os =>
        obtain ⟨off, size⟩ := os
        simp only [hp] at h
        split at h
        case h_2 => cases h
        case h_1 hck =>
          simp only [Bool.and_eq_true, Nat.beq_eq, Nat.ble_eq] at hck
          obtain ⟨h1, h2⟩ := hck
          have hf := h
          have hcv := cvCells_rel hv
          have hsz : u.cells.size = (cvCells v).length := hcv.1
          have hsp := splice_relG (R := Rel E) h2 hc hcv
          obtain ⟨arr', e, hr⟩ := ih hf (by simpa using hlen) (fun j p u hj hu => hrel (j + 1) p u (by simpa using hj) (by simpa using hu)) hsp
          refine ⟨arr', ?_, hr⟩
          simp only [Instr.fill, hp]
          have hcond : (u.cells.size ≠ size || decide (off + u.cells.size > arr.size)) = false := by
            have := hc.1
            simp; omega
          have hfold : (u.cells.zipIdx.foldl (fun cs (x : Value × Nat) => cs.setIfInBounds (off + x.2) x.1) arr) = spliceA arr off u.cells.toList := by
            have := foldl_splice off u.cells.toList 0 arr (by simp; have := hc.1; omega)
            simp only [Nat.add_zero] at this
            rw [← this]
            rw [← Array.foldl_toList]
            simp
          rw [hcond, if_neg (by simp)]
          rw [hfold]
          exact e

theorem fill_imm {place : Nat → Option (Nat × Nat)} : ∀ {parts : List (Nat × CV)} {us : List (Nat × Value)} {cs r : List C} {arr : Array Value}, fillC place cs parts = some r → parts.length = us.length → allImmC parts = true →
    (∀ (j : Nat) (p : Nat × CV) (u : Nat × Value), parts[j]? = some p → us[j]? = some u → p.1 = u.1 ∧ RelCV E p.2 u.2) → RelLK E.K cs arr → ∃ arr', Instr.fill place arr us = some arr' ∧ RelLK E.K r arr' := by
  intro parts
  induction parts with
  | nil =>
    intro us cs r arr h hlen _ hrel hc
    simp only [fillC] at h
    cases h
    cases us with
    | nil => exact ⟨arr, rfl, hc⟩
    | cons u us => simp at hlen
  | cons p parts ih =>
    intro us cs r arr h hlen himm hrel hc
    obtain ⟨i, v⟩ := p
    simp only [allImmC, Bool.and_eq_true] at himm
    cases us with
    | nil => simp at hlen
    | cons u us =>
      obtain ⟨i', u⟩ := u
      obtain ⟨hi, hv⟩ := hrel 0 _ _ rfl rfl
      simp only at hi hv
      subst hi
      simp only [fillC] at h
      cases hp : place i with
      | none => simp [hp] at h
      | some os =>
        obtain ⟨off, size⟩ := os
        simp only [hp] at h
        split at h
        case h_2 => cases h
        case h_1 hck =>
          simp only [Bool.and_eq_true, Nat.beq_eq, Nat.ble_eq] at hck
          obtain ⟨h1, h2⟩ := hck
          have hf := h
          have hcv := cvCells_relK himm.1 hv
          have hsz : u.cells.size = (cvCells v).length := hcv.1
          have hsp := splice_relG (R := RelK E.K) h2 hc hcv
          obtain ⟨arr', e, hr⟩ := ih hf (by simpa using hlen) himm.2 (fun j p u hj hu => hrel (j + 1) p u (by simpa using hj) (by simpa using hu)) hsp
          refine ⟨arr', ?_, hr⟩
          simp only [Instr.fill, hp]
          have hcond : (u.cells.size ≠ size || decide (off + u.cells.size > arr.size)) = false := by
            have := hc.1
            simp; omega
          have hfold : (u.cells.zipIdx.foldl (fun cs (x : Value × Nat) => cs.setIfInBounds (off + x.2) x.1) arr) = spliceA arr off u.cells.toList := by
            have := foldl_splice off u.cells.toList 0 arr (by simp; have := hc.1; omega)
            simp only [Nat.add_zero] at this
            rw [← this]
            rw [← Array.foldl_toList]
            simp
          rw [hcond, if_neg (by simp)]
          rw [hfold]
          exact e

theorem zipParts_rel : ∀ {ps : List (Nat × Operand)} {vs : List SB} {parts : List (Nat × CV)} {ρ : Operand → Value}, zipParts ps vs = some parts → Vals E ρ (ps.map (·.2)) vs →
    parts.length = (ps.map fun p => (p.1, ρ p.2)).length ∧ ∀ (j : Nat) (p : Nat × CV) (u : Nat × Value), parts[j]? = some p → (ps.map fun p => (p.1, ρ p.2))[j]? = some u → p.1 = u.1 ∧ RelCV E p.2 u.2 := by
  intro ps
  induction ps with
  | nil =>
    intro vs parts ρ h hv
    cases vs with
    | nil => simp only [zipParts] at h; cases h; exact ⟨rfl, fun j p u hj => by simp at hj⟩
    | cons v vs => simp [zipParts] at h
  | cons p ps ih =>
    intro vs parts ρ h hv
    obtain ⟨i, x⟩ := p
    cases vs with
    | nil => simp [zipParts] at h
    | cons v vs =>
      cases v with
      | tup xs => simp [zipParts] at h
      | v y =>
        simp only [zipParts, Option.map_eq_some_iff] at h
        obtain ⟨parts', hp, rfl⟩ := h
        have hv' : Vals E ρ (ps.map (·.2)) vs := ⟨by simpa using hv.1, fun j z u hj hu => hv.2 (j + 1) z u (by simpa using hj) (by simpa using hu)⟩
        obtain ⟨hl, hr⟩ := ih hp hv'
        refine ⟨by simpa using hl, fun j p u hj hu => ?_⟩
        cases j with
        | zero =>
          simp at hj hu
          subst hj hu
          exact ⟨rfl, hv.2 0 x _ rfl rfl⟩
        | succ j => exact hr j p u (by simpa using hj) (by simpa using hu)

theorem build_sound {o : Oper} {a : Act} {t : TypeId} {ps : Array (Nat × Operand)} {vs : List SB} {r : SB} {ms ms' : List (Option (Option MO))} {q : List Prop} (hc : Core B E m w) (ho : o.op = .build t ps)
    (hv : Vals E a.eval (ps.toList.map (·.2)) vs) (hact : actBuild P t ps.toList vs ms = some (r, ms', q)) : Done P B E m r o a w := by
  unfold actBuild at hact
  split at hact
  · rename_i parts z hz hzt
    obtain ⟨hlen, hrel⟩ := zipParts_rel hz hv
    split at hact
    case isFalse => cases hact
    rename_i hzc
    have hzero := zero_cells (E := E) hzc
    have hps : (ps.map fun (p : Nat × Operand) => (p.1, a.eval p.2)).toList = ps.toList.map fun p => (p.1, a.eval p.2) := by simp
    -- the last step, alike for structs and arrays
    have go : ∀ {place : Nat → Option (Nat × Nat)} {cs : List C}, fillC place (z.cells.toList.map valC) parts = some cs →
        (∀ arr', Instr.fill place z.cells (ps.toList.map fun p => (p.1, a.eval p.2)) = some arr' → (Instr.build t (ps.map fun (p : Nat × Operand) => (p.1, a.eval p.2))).run P w = .ok (.agg arr') w) →
        Done P B E m (.v (if allImmC parts then .agg cs else .pagg cs)) o a w := by
      intro place cs hf hrun
      cases him : allImmC parts with
      | true =>
        obtain ⟨arr', e, hr⟩ := fill_imm hf hlen him hrel hzero
        refine done_value (u := .agg arr') hc ?_ ⟨arr', rfl, hr⟩
        have := hrun arr' e
        simp only [execOp, ho, Sem.run_bind, this, Result.andThen_ok, Sem.run_pure]
      | false =>
        obtain ⟨arr', e, hr⟩ := fill_sound hf hlen hrel hzero.relL
        refine done_value (u := .agg arr') hc ?_ ⟨arr', rfl, hr⟩
        have := hrun arr' e
        simp only [execOp, ho, Sem.run_bind, this, Result.andThen_ok, Sem.run_pure]
    split at hact
    · rename_i fs hu
      split at hact
      case isFalse => cases hact
      rename_i hinf
      split at hact
      · rename_i cs hf
        cases hact
        refine go hf ?_
        intro arr' e
        unfold Instr.build
        simp only [Sem.run_bind, run_zeroValue hzt, Result.andThen_ok, run_underlying hu, run_places fs hinf]
        have hpl : (fun (x : Nat) => (fs.map fun (f : Field) => (f.offset, sizeT P f.type))[x]?) = fun i => (fs[i]?).map fun (f : Field) => (f.offset, sizeT P f.type) := by
          funext i; simp
        rw [hpl, hps, e]
        rfl
      · cases hact
    · rename_i n el hu
      split at hact
      case isFalse => cases hact
      rename_i hsz
      split at hact
      · rename_i cs hf
        cases hact
        refine go hf ?_
        intro arr' e
        unfold Instr.build
        simp only [Sem.run_bind, run_zeroValue hzt, Result.andThen_ok, run_underlying hu, run_sizeOf (show 0 < sizeT P el by simpa using hsz)]
        rw [hps, e]
        rfl
      · cases hact
    · cases hact
  · cases hact

/-! ### Calls -/

/-- Behind a call: more is known; all that was there is as it was. -/
theorem Core.called {K' : Know} {w' : World} (hc : Core B E m w) (hle : E.K.le K') (hnew : ∀ b, b < w.heap.size → E.K b = none → K' b = none) (hk : Knows K' w') (hb : Below w.heap.size w w') :
    E.Le { E with K := K' } ∧ Core B { E with K := K' } m w' := by
  have hE : E.Le { E with K := K' } := ⟨hle, fun _ _ h => h, fun _ _ h => h, rfl, fun r hd len h => ⟨hd, len, h, Nat.le_refl _, fun _ => rfl⟩⟩
  have hbl : ∀ n b, E.holds n b → w'.heap[b]? = w.heap[b]? := fun n b h => hb.block b (hc.lt n b h)
  refine ⟨hE, ?_⟩
  exact
  { know := hk
    base := Know.le_trans hc.base hle
    nk := fun b h1 h2 => hnew b (Nat.lt_of_lt_of_le h1 hc.size) (hc.nk b h1 h2)
    mem := fun n o h => MRel.mono hE ((hc.mem n o h).other fun b hb' => hbl n b hb') rfl
    cel := hc.cel
    rw := hc.rw
    mp := hc.mp
    inj := hc.inj
    apart := fun n b h => hnew b (hc.lt n b h) (hc.apart n b h)
    new := hc.new
    lt := fun n b h => Nat.lt_of_lt_of_le (hc.lt n b h) hb.size
    os := hb.os.trans hc.os
    tape := hb.tape.trans hc.tape
    output := hb.output.trans hc.output
    size := Nat.le_trans hc.size hb.size
    old := fun b h1 h2 => (hb.block b (Nat.lt_of_lt_of_le h1 hc.size)).trans (hc.old b h1 h2)
    j := hc.j
    y := hc.y
    dsk := fun D hD => ⟨hle _ _ (hc.dsk D hD).1, (hc.dsk D hD).2⟩
    dsn := hc.dsn }

theorem callsIn_of_plain {r : Option Nat} {n : Nat} {f : FuncId} {args : Array Value} {R : Ending → World → Prop} (h : Calls P f args w R) : CallsIn (FB r) n P f args w R := by
  have h1 : CallsIn Fence.wide n P f args w R := callsIn_wide.2 h
  exact h1

theorem allV_rel : ∀ {vs : List SB} {xs : List CV} {us : List Value}, allV vs = some xs → vs.length = us.length → (∀ (j : Nat) (v : SB) (u : Value), vs[j]? = some v → us[j]? = some u → RelSB E v u) →
    xs.length = us.length ∧ ∀ j, j < xs.length → RelCV E (xs.getD j (.c .junk)) (us.getD j undef) := by
  intro vs
  induction vs with
  | nil =>
    intro xs us h hl hr
    simp only [allV] at h
    cases h
    exact ⟨by simpa using hl, fun j hj => by simp at hj⟩
  | cons v vs ih =>
    intro xs us h hl hr
    cases us with
    | nil => simp at hl
    | cons u us =>
      cases v with
      | tup ys => simp [allV] at h
      | v x =>
        simp only [allV, Option.map_eq_some_iff] at h
        obtain ⟨xs', hx, rfl⟩ := h
        obtain ⟨h1, h2⟩ := ih hx (by simpa using hl) (fun j v u hj hu => hr (j + 1) v u (by simpa using hj) (by simpa using hu))
        refine ⟨by simpa using h1, fun j hj => ?_⟩
        cases j with
        | zero => exact hr 0 _ _ rfl rfl
        | succ j =>
          have := h2 j (by simpa using hj)
          simpa [List.getD_eq_getElem?_getD] using this

theorem allImm_get : ∀ {xs : List CV}, allImm xs = true → ∀ j, j < xs.length → (xs.getD j (.c .junk)).isImm = true := by
  intro xs
  induction xs with
  | nil => intro _ j hj; simp at hj
  | cons x xs ih =>
    intro h j hj
    simp only [allImm, Bool.and_eq_true] at h
    cases j with
    | zero => exact h.1
    | succ j =>
      have := ih h.2 j (by simpa using hj)
      simpa [List.getD_eq_getElem?_getD] using this

theorem callee_sound {o : Oper} {a : Act} {c : Call} {f : Operand} {vs : List SB} {r : SB} {ms ms' : List (Option (Option MO))} {q : List Prop} {h : Hint} (hc : Core B E m w) (ho : o.op = .call c) (hcal : c.callee = .value f)
    (hv : Vals E a.eval (f :: c.args.toList) vs) (hact : actCallee P vs ms h = some (r, ms', q)) (hq : allP q) : Done P B E m r o a w := by
  unfold actCallee at hact
  split at hact
  · rename_i fn caps args
    split at hact
    · rename_i r' xs hx
      split at hact
      case isFalse => cases hact
      rename_i himm
      cases hact
      have hf : RelSB E (.v (.c (.clo fn caps))) (a.eval f) := hv.2 0 f _ rfl rfl
      have hk : RelK E.K (.clo fn caps) (a.eval f) := relSB_c hf
      generalize he : a.eval f = u at hk
      cases hk with
      | clo _ _ cvs hs hr h1 =>
        have hal : args.length = (c.args.toList.map a.eval).length := by
          have := hv.1
          simp at this ⊢
          exact this
        obtain ⟨l1, l2⟩ := allV_rel (E := E) hx hal (fun j v u hj hu => by
          rw [List.getElem?_map] at hu
          simp only [Option.map_eq_some_iff] at hu
          obtain ⟨z, hz, rfl⟩ := hu
          exact hv.2 (j + 1) z v (by simpa using hz) (by simpa using hj))
        obtain ⟨⟨fnc, hfn, hbody, hname⟩, hcall⟩ := hq
        have hargs : (c.args.map a.eval ++ cvs).size = (xs ++ caps.map CV.c).length := by
          simp at l1 ⊢
          omega
        have hrel : ∀ j, j < (xs ++ caps.map CV.c).length → RelCVK E.K ((xs ++ caps.map CV.c).getD j (.c .junk)) ((c.args.map a.eval ++ cvs).getD j undef) := by
          intro j hj
          have l1' : xs.length = c.args.size := by simpa using l1
          by_cases hjx : j < xs.length
          · have e1 : (xs ++ caps.map CV.c).getD j (.c .junk) = xs.getD j (.c .junk) := by
              simp [List.getD_eq_getElem?_getD, List.getElem?_append_left hjx]
            have e2 : (c.args.map a.eval ++ cvs).getD j undef = (c.args.toList.map a.eval).getD j undef := by
              have : j < c.args.size := by omega
              simp [List.getD_eq_getElem?_getD, Array.getElem?_append, this]
            rw [e1, e2]
            exact RelCV.imm (allImm_get himm j hjx) (l2 j hjx)
          · have hjc : j - xs.length < caps.length := by simp at hj; omega
            have e1 : (xs ++ caps.map CV.c).getD j (.c .junk) = .c (caps.getD (j - xs.length) .junk) := by
              simp [List.getD_eq_getElem?_getD, List.getElem?_append_right (Nat.le_of_not_lt hjx), hjc]
            have e2 : (c.args.map a.eval ++ cvs).getD j undef = cvs.getD (j - xs.length) undef := by
              have h3 : ¬ j < c.args.size := by omega
              simp [Array.getElem?_append, h3, l1']
            rw [e1, e2]
            exact ⟨hr _ hjc, h1 _ hjc⟩
        intro next Q hnext
        refine wpIn_of (by intro c hc; rw [ho] at hc; cases hc) ?_
        have hrun : (execOp a.eval o).run P w = .ok (.enter fn (c.args.map a.eval ++ cvs)) w := by
          have hb : fnc.body.isNone = false := by cases hfb : fnc.body <;> simp [hfb] at hbody ⊢
          simp only [execOp, ho, resolve, hcal, he, Deferred.ofValue, invoke, callFunc, Sem.run_bind, Sem.run_pure, Result.andThen_ok, run_program, hfn, hname, hb, Bool.false_eq_true, if_false, Array.empty_append]
        rw [hrun]
        refine ⟨fun h => absurd h (by simp [FB]), ?_⟩
        refine callsIn_of_plain (Calls.mono (hcall E.K w _ hc.know hargs hrel) ?_)
        rintro e w' ⟨K', v, hle, hnew, hk', hbel, rfl, hv'⟩
        obtain ⟨hE, hc'⟩ := hc.called hle hnew hk' hbel
        exact hnext v w' _ hE hc' (RelSBK.rel (E := { E with K := K' }) hv')
    · cases hact
  · cases hact

end Go.Sym
