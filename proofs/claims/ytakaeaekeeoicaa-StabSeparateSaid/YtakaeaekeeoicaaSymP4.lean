/-
  THE SYMBOLIC LAYER, PART F'''': maps whose keys are integers.
-/
import Derived.Test.YtakaeaekeeoicaaSymP3
import Derived.MapKept
namespace Go.Sym
open Go.RowKit

variable {P : Program} {B : Base P} {E : Env} {m : List (Option MO)} {w : World}

theorem isIntT_spec {t : TypeId} {k : IntKind} (h : isIntT P t k = true) : P.underlying t = some (.int k) := by
  unfold isIntT at h
  split at h
  · rename_i d hd
    rw [← kindEq_eq h]; exact hd
  · cases h

/-- The keys of the entries in memory. -/
def KeysAre (k : IntKind) (ks : List Int) (es : List MapEntry) : Prop := es.map (·.key) = ks.map (Value.int k)

theorem intKeys_len : ∀ {k : IntKind} {ents : List (C × List C)} {ks : List Int}, intKeys k ents = some ks → ks.length = ents.length := by
  intro k ents
  induction ents with
  | nil => intro ks h; simp only [intKeys] at h; cases h; rfl
  | cons en ents ih =>
    intro ks h
    obtain ⟨c, cs⟩ := en
    cases c <;> simp only [intKeys] at h <;> (try cases h)
    split at h
    · simp only [Option.map_eq_some_iff] at h
      obtain ⟨ks', h1, rfl⟩ := h
      simp [ih h1]
    · cases h

theorem keys_of {K : Know} : ∀ {k : IntKind} {ents : List (C × List C)} {ks : List Int} {es : List MapEntry}, intKeys k ents = some ks → es.length = ents.length →
    (∀ (j : Nat) (e : MapEntry), es[j]? = some e → RelK K (ents.getD j (.junk, [])).1 e.key) → KeysAre k ks es := by
  intro k ents
  induction ents with
  | nil =>
    intro ks es h hl _
    simp only [intKeys] at h
    cases h
    cases es with
    | nil => rfl
    | cons e es => simp at hl
  | cons en ents ih =>
    intro ks es h hl hr
    obtain ⟨c, cs⟩ := en
    cases c <;> simp only [intKeys] at h <;> (try cases h)
    rename_i k' a
    split at h
    · rename_i hk
      have := kindEq_eq hk
      subst this
      simp only [Option.map_eq_some_iff] at h
      obtain ⟨ks', h1, rfl⟩ := h
      cases es with
      | nil => simp at hl
      | cons e es =>
        have h0 := hr 0 e rfl
        have hrec := ih (es := es) h1 (by simpa using hl) (fun j e' he' => by
          have := hr (j + 1) e' (by simpa using he')
          simpa [List.getD_eq_getElem?_getD] using this)
        simp only [List.getD_eq_getElem?_getD, List.getElem?_cons_zero, Option.getD_some] at h0
        unfold KeysAre at hrec ⊢
        simp only [List.map_cons, hrec]
        generalize e.key = u at h0
        cases h0
        rfl
    · cases h

theorem findNow_none {d k : IntKind} {a : Int} : ∀ {es : List MapEntry} {ks : List Int} {i : Nat}, KeysAre k ks es → ks.all (fun b => !(a == b)) = true → Instr.findNow (.int d) (.int k a) es i = some none := by
  intro es
  induction es with
  | nil => intro ks i _ _; rfl
  | cons e es ih =>
    intro ks i h ha
    cases ks with
    | nil => simp [KeysAre] at h
    | cons b ks =>
      simp only [KeysAre, List.map_cons, List.cons.injEq] at h
      simp only [List.all_cons, Bool.and_eq_true, Bool.not_eq_true'] at ha
      have hs : Instr.sameNow (.int d) (.int k a) e.key = some (a == b) := by rw [h.1]; simp [Instr.sameNow]
      simp only [Instr.findNow, hs, ha.1]
      exact ih h.2 ha.2

theorem findNow_at {d k : IntKind} {a : Int} : ∀ {es : List MapEntry} {ks : List Int} {i j : Nat} {e : MapEntry}, KeysAre k ks es → (ks.take j).all (fun b => !(a == b)) = true → ks[j]? = some a → es[j]? = some e →
    Instr.findNow (.int d) (.int k a) es i = some (some (i + j, e.val)) := by
  intro es
  induction es with
  | nil => intro ks i j e _ _ _ h; simp at h
  | cons e0 es ih =>
    intro ks i j e h ha hj he
    cases ks with
    | nil => simp at hj
    | cons b ks =>
      simp only [KeysAre, List.map_cons, List.cons.injEq] at h
      have hs : Instr.sameNow (.int d) (.int k a) e0.key = some (a == b) := by rw [h.1]; simp [Instr.sameNow]
      cases j with
      | zero =>
        simp at hj he
        subst hj
        subst he
        simp only [Instr.findNow, hs]
        simp
      | succ j =>
        simp only [List.take_succ_cons, List.all_cons, Bool.and_eq_true, Bool.not_eq_true'] at ha
        simp only [Instr.findNow, hs, ha.1]
        rw [ih (i := i + 1) h.2 ha.2 (by simpa using hj) (by simpa using he)]
        congr 3
        omega

/-- A new own map. -/
theorem Core.allocMap {n : Nat} {agg : Bool} (hc : Core B E m w) (hm : m[n]? = some none) :
    ∃ E', E.Le E' ∧ E'.mp n = some w.heap.size ∧ Core B E' (m.set n (some (.omap agg []))) (w.alloc (.map #[] 0)) := by
  obtain ⟨hcn, hrn, hmn⟩ := hc.nothing hm
  let E' : Env := { E with mp := fun k => if k = n then some w.heap.size else E.mp k }
  have hmp : E'.mp n = some w.heap.size := if_pos rfl
  have hle : E.Le E' := ⟨Know.le_refl _, fun _ _ h => h, fun k b h => by
      show (if k = n then _ else E.mp k) = _
      by_cases hk : k = n
      · subst hk; rw [hmn] at h; cases h
      · rw [if_neg hk]; exact h, rfl, fun r hd len h => ⟨hd, len, h, Nat.le_refl _, fun _ => rfl⟩⟩
  refine ⟨E', hle, hmp, hc.step ⟨_, hm⟩ hle rfl (fun k hk => ⟨rfl, rfl, if_neg hk⟩) (fun b h => ?_) (fun x h => ?_) (fun b h => ⟨_, _, rfl⟩) ?_ (fun b' h => ?_) (by rw [World.size_alloc]; omega) rfl rfl rfl (fun b' hb' hh => heap_alloc_old w _ b' hb')⟩
  · rw [show E'.cel n = E.cel n from rfl, hcn] at h; cases h
  · rw [show E'.rw n = E.rw n from rfl, hrn] at h; cases h
  · exact ⟨w.heap.size, #[], 0, hmp, heap_alloc_new w _, rfl, fun j e he => by simp at he⟩
  · rcases h with h | h | ⟨hd, len, h, _⟩
    · rw [show E'.cel n = E.cel n from rfl, hcn] at h; cases h
    · rw [hmp] at h
      cases h
      exact ⟨.inl (Nat.le_refl _), by rw [World.size_alloc]; omega⟩
    · rw [show E'.rw n = E.rw n from rfl, hrn] at h; cases h

theorem makeMap_sound {o : Oper} {a : Act} {t : TypeId} {vs : List SB} {r : SB} {ms' : List (Option (Option MO))} {q : List Prop} (hc : Core B E m w) (ho : o.op = .makeMap t none)
    (hact : actMakeMap P t o.dst ((Op.names o.op o.dst vs).map (getM m)) = some (r, ms', q)) : Done P B E (putM m (Op.names o.op o.dst vs) ms') r o a w := by
  unfold actMakeMap at hact
  rw [ho] at hact ⊢
  split at hact
  · split at hact
    · rename_i n hd hm
      cases hact
      simp only [Op.names, hd, Option.toList_some, List.map_cons, List.map_nil] at hm ⊢
      have hmn : m[n]? = some none := by
        have := (List.cons.inj hm).1
        simpa [getM] using this
      obtain ⟨E', hle, hmp, hc'⟩ := hc.allocMap hmn
      intro next Q h
      refine wpIn_of (by intro c hc; rw [ho] at hc; cases hc) ?_
      have hrun : (execOp a.eval o).run P w = .ok (.value (.map (some w.heap.size))) (w.alloc (.map #[] 0)) := by
        simp only [execOp, ho, Instr.makeMap, Option.map_none, Sem.run_bind, Sem.run_pure, Result.andThen_ok, run_newObj, World.alloc_eq]
      rw [hrun]
      exact h _ _ E' hle hc' ⟨⟨_, hmp, rfl⟩, rfl⟩
    · cases hact
  · cases hact

/-- The own map n has one more entry. -/
theorem Core.insert {n b : Nat} {agg : Bool} {ents : List (C × List C)} {es : Array MapEntry} {clock clock' : Nat} {en : C × List C} {e : MapEntry} (hc : Core B E m w)
    (h1 : RelK E.K en.1 e.key ∧ e.key.oneCell' = true ∧ RelLK E.K en.2 e.val.cells ∧ (match agg with | true => ∃ arr, e.val = .agg arr | false => e.val.oneCell' = true)) (hm : m[n]? = some (some (.omap agg ents))) (hmp : E.mp n = some b)
    (hb : w.heap[b]? = some (.map es clock)) (hrel : MapRel E.K agg ents es) :
    Core B E (m.set n (some (.omap agg (ents ++ [en])))) { w with heap := w.heap.setIfInBounds b (.map (es.push e) clock') } := by
  have hnone : E.cel n = none ∧ E.rw n = none := by
    constructor
    · cases h : E.cel n with
      | none => rfl
      | some x => obtain ⟨cs, h2 | h2⟩ := hc.cel n x h <;> rw [hm] at h2 <;> cases h2
    · cases h : E.rw n with
      | none => rfl
      | some x => obtain ⟨o, h2, h3⟩ := hc.rw n x h; rw [hm] at h2; cases h2; cases h3
  have hlt := (Array.getElem?_eq_some_iff.1 hb).1
  refine hc.step ⟨_, hm⟩ (Env.Le.refl E) rfl (fun _ _ => ⟨rfl, rfl, rfl⟩) (fun b h => ?_) (fun x h => ?_) (fun b h => ⟨_, _, rfl⟩) ?_ (fun b' h => ⟨.inr h, by have := hc.lt n b' h; simpa using this⟩) (by simp) rfl rfl rfl (fun b' hb' hh => ?_)
  · rw [hnone.1] at h; cases h
  · rw [hnone.2] at h; cases h
  · refine ⟨b, es.push e, clock', hmp, by simp [hlt], by simp [hrel.1], fun j e' he' => ?_⟩
    by_cases hj : j < es.size
    · have hjl : j < ents.length := by rw [← hrel.1]; exact hj
      have : es[j]? = some e' := by
        rw [Array.getElem?_push, if_neg (by omega)] at he'
        exact he'
      have h := hrel.2 j e' this
      have e1 : (ents ++ [en]).getD j (.junk, []) = ents.getD j (.junk, []) := by simp [List.getD_eq_getElem?_getD, List.getElem?_append_left hjl]
      rw [e1]; exact h
    · have hje : j = es.size := by
        have := (Array.getElem?_eq_some_iff.1 he').1
        simp at this
        omega
      subst hje
      have : e' = e := by simpa using he'.symm
      subst this
      have e1 : (ents ++ [en]).getD es.size (.junk, []) = en := by rw [hrel.1]; simp [List.getD_eq_getElem?_getD]
      rw [e1]; exact h1
  · have hne : b ≠ b' := fun e => hh (by rw [← e]; exact .inr (.inl hmp))
    simp [Array.getElem?_setIfInBounds_ne hne]

theorem insert_sound {o : Oper} {a : Act} {t : TypeId} {x y z : Operand} {vs : List SB} {r : SB} {ms' : List (Option (Option MO))} {q : List Prop} (hc : Core B E m w) (ho : o.op = .insert t x y z)
    (hv : Vals E a.eval [x, y, z] vs) (hact : actInsert P t vs ((Op.names o.op o.dst vs).map (getM m)) = some (r, ms', q)) (hq : allP q) : Done P B E (putM m (Op.names o.op o.dst vs) ms') r o a w := by
  unfold actInsert at hact
  rw [ho] at hact ⊢
  split at hact
  case h_2 => cases hact
  rename_i kt et hu
  split at hact
  case h_2 => cases hact
  rename_i n k key u agg ents hms
  split at hact
  case h_2 => cases hact
  rename_i ks hks
  have hck2 := (ck_some hact).1
  replace hact := (ck_some hact).2
  cases hact
  simp only [Bool.and_eq_true] at hck2
  have hd := isIntT_spec hck2.1.1
  have hm : m[n]? = some (some (.omap agg ents)) := by
    simp only [Op.names, List.map_cons, List.map_nil] at hms
    have := (List.cons.inj hms).1
    simpa [getM] using this
  obtain ⟨b, es, clock, hmp, hb, hrel⟩ := hc.mem n _ hm
  have hx : a.eval x = .map (some b) := by
    obtain ⟨b', hb', hu'⟩ : ∃ b, E.mp n = some b ∧ a.eval x = .map (some b) := relSB_c (hv.2 0 x _ rfl rfl)
    rw [hmp] at hb'
    cases hb'
    exact hu'
  have hy := relSB_int (hv.2 1 y _ rfl rfl)
  have hz : RelCV E u (a.eval z) := hv.2 2 z _ rfl rfl
  have hkeys := keys_of (es := es.toList) hks (by simpa using hrel.1) (fun j e he => (hrel.2 j e (by simpa using he)).1)
  have hfind := findNow_none (d := k) (a := key) (i := 0) hkeys hq
  have hrun : (execOp a.eval o).run P w = .ok .skip { w with heap := w.heap.setIfInBounds b (.map (es.push { key := .int k key, val := a.eval z, born := clock }) (clock + 1)) } := by
    have hkey : MapKept.IsKey (.int k) (.int k key) := by simp [MapKept.IsKey]
    simp only [execOp, ho, Instr.mapUpdate, Sem.run_bind, run_underlying hu, Result.andThen_ok, hx, hy, MapKept.run_getObj_map hb]
    rw [show (Instr.checkKey false 10000 kt (.int k key)).run P w = .ok () w from MapKept.run_checkKey hd hkey false 9999]
    simp only [Result.andThen_ok, MapKept.run_findKey hd hfind, MapKept.run_setObj_map _ hb, Sem.run_pure]
  intro next Q h
  refine wpIn_of (by intro c hc; rw [ho] at hc; cases hc) ?_
  rw [hrun]
  refine h undef _ E (Env.Le.refl E) ?_ ⟨#[], rfl, rfl, fun j hj => by simp at hj⟩
  refine hc.insert ⟨RelK.int _ _, rfl, cvCells_relK hck2.1.2 hz, ?_⟩ hm hmp hb hrel
  have hag := hck2.2
  cases u with
  | c x =>
    cases agg with
    | true => cases hag
    | false => exact hz.2
  | agg cs =>
    cases agg with
    | true => obtain ⟨arr, h1, _⟩ := hz; exact ⟨arr, h1⟩
    | false => cases hag
  | pagg cs => cases hck2.1.2

theorem lookup_sound {o : Oper} {a : Act} {t : TypeId} {x y : Operand} {ok : Bool} {vs : List SB} {r : SB} {ms ms' : List (Option (Option MO))} {q : List Prop} {h : Hint} (hc : Core B E m w) (ho : o.op = .lookup t x y ok)
    (hv : Vals E a.eval [x, y] vs) (hact : actLookup P t ok vs ms h = some (r, ms', q)) (hq : allP q) : Done P B E m r o a w := by
  obtain ⟨v1, v2, rfl, hx, hy⟩ := vals2 hv
  unfold actLookup at hact
  split at hact
  case h_2 => cases hact
  rename_i kt et hu
  split at hact
  case h_2 => cases hact
  rename_i agg ents k key heq
  cases heq
  have hck := (ck_some hact).1
  replace hact := (ck_some hact).2
  have hd := isIntT_spec hck
  have e2 := relSB_int hy
  have hk : RelK E.K (.kmap agg ents) (a.eval x) := relSB_c hx
  generalize he : a.eval x = ux at hk
  cases hk with
  | kmap _ _ b es clock g hK hs hg hkr hko hl hr hone ha =>
    have hb := hc.know _ _ hK
    have hget : ∀ (j : Nat) (e : MapEntry), es[j]? = some e → j < ents.length ∧ e = g j := fun j e hje => by
      have hlt : j < ents.length := by rw [← hs]; exact (Array.getElem?_eq_some_iff.1 hje).1
      rw [hg j hlt] at hje
      exact ⟨hlt, (Option.some.inj hje).symm⟩
    have hkey : MapKept.IsKey (.int k) (.int k key) := by simp [MapKept.IsKey]
    have hckk : ∀ em, (Instr.checkKey em 10000 kt (.int k key)).run P w = .ok () w := fun em => MapKept.run_checkKey hd hkey em 9999
    split at hact
    · rename_i ks i hks
      split at hact
      case h_2 => cases hact
      rename_i en hen
      have hckl := (ck_some hact).1
      replace hact := (ck_some hact).2
      cases hact
      obtain ⟨hq1, hq2⟩ := allP_cons.1 hq
      have hkeys := keys_of (K := E.K) (es := es.toList) hks (by simpa using hs) (fun j e hje => by
        obtain ⟨h1, h2⟩ := hget j e (by simpa using hje)
        rw [h2]; exact hkr j h1)
      have hilt : i < ents.length := (List.getElem?_eq_some_iff.1 hen).1
      have hei : es[i]? = some (g i) := hg i hilt
      have hfind := findNow_at (d := k) (a := key) (i := 0) hkeys hq1 hq2 (e := g i) (by simpa using hei)
      have hend : ents.getD i (.junk, []) = en := by simp [List.getD_eq_getElem?_getD, hen]
      have hval : RelCV E (entCV agg en.2) (g i).val := by
        have hrc : RelLK E.K en.2 (g i).val.cells := by
          refine ⟨by rw [hl i hilt, hend], fun j hj => ?_⟩
          have h1 := hr i j hilt (by rw [hend]; exact hj)
          have h2 := hone i j hilt (by rw [hend]; exact hj)
          rw [hend] at h1
          exact ⟨h1, h2⟩
        have hai := ha i hilt
        cases agg with
        | true =>
          obtain ⟨arr, harr⟩ := hai
          refine ⟨arr, harr, ?_⟩
          rw [harr] at hrc; exact hrc
        | false =>
          have hcells : (g i).val.cells = #[(g i).val] := by
            revert hai
            generalize (g i).val = u
            intro h1
            cases u <;> first | rfl | simp [Value.oneCell'] at h1
          have h0 := hrc.2 0 (by
            have h1 := hrc.1
            rw [hcells] at h1
            simp at h1
            omega)
          rw [hcells] at h0
          exact ⟨Rel.of_relK h0.1, hai⟩
      refine done_value (u := if ok then .tuple #[(g i).val, .bool true] else (g i).val) hc ?_ ?_
      · simp only [execOp, ho, Instr.lookup, Sem.run_bind, run_underlying hu, Result.andThen_ok, he, e2, MapKept.run_getObj_map hb, Sem.run_pure, hckk, MapKept.run_findKey hd hfind]
      · cases ok with
        | true =>
          refine ⟨#[(g i).val, .bool true], rfl, rfl, fun j hj => ?_⟩
          match j, hj with
          | 0, _ => exact hval
          | 1, _ => exact ⟨RelK.bool true, rfl⟩
        | false => exact hval
    · rename_i ks hks
      split at hact
      case h_2 => cases hact
      rename_i z hz
      have hckl := (ck_some hact).1
      replace hact := (ck_some hact).2
      cases hact
      simp only [Bool.and_eq_true] at hckl
      have hkeys := keys_of (K := E.K) (es := es.toList) hks (by simpa using hs) (fun j e hje => by
        obtain ⟨h1, h2⟩ := hget j e (by simpa using hje)
        rw [h2]; exact hkr j h1)
      have hfind := findNow_none (d := k) (a := key) (i := 0) hkeys hq
      have hval : RelCV E (match isAggT P et with | true => .agg (z.cells.toList.map valC) | false => .c (valC z)) z := by
        have h2 := hckl.2
        revert h2
        cases isAggT P et with
        | true =>
          intro h2
          cases z <;> simp at h2
          exact ⟨_, rfl, zero_cells hckl.1⟩
        | false =>
          intro h2
          exact ⟨Rel.of_relK (valC_rel z h2), h2⟩
      refine done_value (u := if ok then .tuple #[z, .bool false] else z) hc ?_ ?_
      · simp only [execOp, ho, Instr.lookup, Sem.run_bind, run_underlying hu, Result.andThen_ok, he, e2, MapKept.run_getObj_map hb, Sem.run_pure, hckk, MapKept.run_findKey hd hfind, run_zeroValue hz]
      · cases ok with
        | true =>
          refine ⟨#[z, .bool false], rfl, rfl, fun j hj => ?_⟩
          match j, hj with
          | 0, _ => exact hval
          | 1, _ => exact ⟨RelK.bool false, rfl⟩
        | false => exact hval
    · cases hact

end Go.Sym
