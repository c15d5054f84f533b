/-
  THE SYMBOLIC LAYER, PART Q: things that are known from now on; nil as an own row, as a list.
-/
import Derived.Test.YtaaplpbjjnechaaSymO
namespace Go.Sym
open Go.RowKit

variable {P : Program} {B : Base P} {E : Env} {w : World}

/-- A block that no name holds is known from now on. -/
theorem Core.learn {m : List (Option MO)} {g : Nat} {o : Obj} (hc : Core B E m w) (hno : ∀ n, ¬ E.holds n g) (ho : w.heap[g]? = some o) (hnew : E.c.w0.heap.size ≤ g) :
    ∃ E', E.Le E' ∧ E'.K g = some o ∧ Core B E' m w := by
  let K' : Know := fun b => if b = g then some o else E.K b
  have hle : E.K.le K' := fun b x h => by
    show (if b = g then _ else _) = _
    by_cases hb : b = g
    · subst hb
      rw [if_pos rfl]
      have := hc.know b x h
      rw [ho] at this; exact this
    · rw [if_neg hb]; exact h
  have hE : E.Le { E with K := K' } := ⟨hle, fun _ _ h => h, fun _ _ h => h, rfl, fun r hd len h => ⟨hd, len, h, Nat.le_refl _, fun _ => rfl⟩⟩
  refine ⟨{ E with K := K' }, hE, if_pos rfl, ?_⟩
  exact
  { know := fun b x h => by
      change (if b = g then some o else E.K b) = some x at h
      by_cases hb : b = g
      · rw [if_pos hb] at h; rw [hb, ho]; exact h
      · rw [if_neg hb] at h; exact hc.know b x h
    base := Know.le_trans hc.base hle
    nk := fun b h1 h2 => by
      show (if b = g then _ else _) = _
      have h1' : b < E.c.w0.heap.size := h1
      rw [if_neg (by omega)]; exact hc.nk b h1 h2
    mem := fun n o h => MRel.mono hE (hc.mem n o h) rfl
    cel := hc.cel
    rw := hc.rw
    mp := hc.mp
    inj := hc.inj
    apart := fun n b h => by
      show (if b = g then _ else _) = _
      have hne : b ≠ g := fun e => hno n (by rw [← e]; exact h)
      rw [if_neg hne]; exact hc.apart n b h
    new := hc.new
    lt := hc.lt
    os := hc.os
    tape := hc.tape
    output := hc.output
    size := hc.size
    old := hc.old
    j := hc.j
    y := hc.y
    dsk := fun D hD => ⟨hle _ _ (hc.dsk D hD).1, (hc.dsk D hD).2⟩
    dsn := hc.dsn }

theorem Sim.le {E' : Env} {s : S} {a : Act} {m' : List (Option MO)} (hs : Sim B E s a w) (hle : E.Le E') (hc : Core B E' m' w) : Sim B E' { s with m := m' } a w :=
  ⟨hc, hs.size, by rw [hle.c]; exact hs.defers, fun k x hk => (hs.slot k x hk).mono hle⟩

theorem Sim.setSlot {s : S} {a : Act} {k : Nat} {x : SV} (hs : Sim B E s a w) (hx : RelSV E s.g x (a.tmps.getD k undef)) : Sim B E { s with t := s.t.set k x } a w := by
  refine ⟨hs.core, by rw [List.length_set]; exact hs.size, hs.defers, fun j y hj => ?_⟩
  rw [List.getElem?_set] at hj
  by_cases hk : k = j
  · subst hk
    rw [if_pos rfl] at hj
    split at hj
    · cases hj; exact hx
    · cases hj
  · rw [if_neg hk] at hj
    exact hs.slot j y hj

/-- The name n is let go; the slot k has its value for good: c. -/
def frz (s : S) (k n : Nat) (c : C) (ks ns : List Nat) : Option S :=
  match ({ s with t := s.t.set k .junk } : S).slim ks (ns ++ [n]) with
  | some s1 => some { s1 with t := s1.t.set k (.b (.v (.c c))) }
  | none => none

theorem dropNames_append : ∀ {ns : List Nat} {n : Nat} {s s' : S}, dropNames s (ns ++ [n]) = some s' → ∃ s1, dropNames s ns = some s1 ∧ dropName s1 n = some s' := by
  intro ns
  induction ns with
  | nil =>
    intro n s s' h
    simp only [List.nil_append, dropNames] at h
    split at h
    · rename_i s1 h1
      cases h
      exact ⟨s, rfl, h1⟩
    · cases h
  | cons x ns ih =>
    intro n s s' h
    simp only [List.cons_append, dropNames] at h ⊢
    split at h
    · rename_i s1 h1
      obtain ⟨s2, h2, h3⟩ := ih h
      exact ⟨s2, h2, h3⟩
    · cases h

theorem dropNames_g : ∀ {ns : List Nat} {s s' : S}, dropNames s ns = some s' → s'.g = s.g := by
  intro ns
  induction ns with
  | nil => intro s s' h; simp only [dropNames] at h; cases h; rfl
  | cons n ns ih =>
    intro s s' h
    simp only [dropNames] at h
    split at h
    · rename_i s1 h1
      rw [ih h]
      unfold dropName at h1
      split at h1
      · cases h1
      · cases h1; rfl
    · cases h

/-- A row's list, known from now on. -/
theorem run_frzRow {s s' : S} {cs : List Code} {Q : Exit → S → Prop} (hB : B.Fn) (k r n e sz : Nat) (css : List (List C)) (f : Nat → List C) (ks ns : List Nat) (ht : s.t[k]? = some (.b (.v (.c (.row r n))))) (hm : s.m[r]? = some (some (.row e sz css)))
    (hn : n = css.length) (hf : ∀ i, i < n → f i = css.getD i []) (hz : frz s k r (.lst sz n f) ks ns = some s') (h : Run P B s' cs Q) (hne : cs ≠ []) : Run P B s cs Q := by
  cases cs with
  | nil => exact absurd rfl hne
  | cons c cs =>
  intro E a w hs
  unfold frz at hz
  split at hz
  case h_2 => cases hz
  rename_i s1 hs1
  cases hz
  -- the value, and its block
  have hk := hs.slot k _ ht
  obtain ⟨hd, len, hrw, hle, hu⟩ : ∃ hd len, E.rw r = some (hd, len) ∧ n ≤ len ∧ (n = len → a.tmps.getD k undef = hd) := hk.1
  have hlen := row_len hs.core hm hrw
  subst hlen
  replace hu := hu hn
  have hs0 : Sim B E { s with t := s.t.set k .junk } a w := hs.setSlot trivial
  obtain ⟨E1, hs1', hK1, hc1, hh1⟩ := wk_slim hs1 _ _ _ _ hs0
  obtain ⟨hszp, hlens, hd', xs, hrw', hown, hrel⟩ := hs.core.row hm
  rw [hrw] at hrw'
  cases hrw'
  -- what is let go is held no more
  have hgone : ∀ g, hd.ownBlock = some g → ∀ j, ¬ E1.holds j g := by
    intro g hg j hj
    have hj' := hh1 j g hj
    have hjr : j = r := hs.core.inj j r g hj' (.inr (.inr ⟨hd, _, hrw, hg⟩))
    subst hjr
    have hmn : s1.m[j]? = some none := by
      unfold S.slim at hs1
      obtain ⟨s2, h2, h3⟩ := dropNames_append hs1
      unfold dropName at h3
      split at h3
      · cases h3
      · cases h3
        have hlt : j < s2.m.length := by
          have hl : ∀ {ns : List Nat} {s s' : S}, dropNames s ns = some s' → s'.m.length = s.m.length := by
            intro ns
            induction ns with
            | nil => intro s s' h; simp only [dropNames] at h; cases h; rfl
            | cons n ns ih =>
              intro s s' h
              simp only [dropNames] at h
              split at h
              · rename_i s1 h1
                rw [ih h]
                unfold dropName at h1
                split at h1
                · cases h1
                · cases h1; simp
              · cases h
          rw [hl h2]
          exact (List.getElem?_eq_some_iff.1 hm).1
        simp [hlt]
    obtain ⟨h1, h2, h3⟩ := hs1'.core.nothing hmn
    rcases hj with h | h | ⟨_, _, h, _⟩
    · rw [h1] at h; cases h
    · rw [h3] at h; cases h
    · rw [h2] at h; cases h
  rcases hown.2 with ⟨h0, h1⟩ | ⟨g, cap, cur, hv, hb, hg, hnc, hcm, hcs, htake⟩
  · have hz : n = 0 := by omega
    subst hz
    refine h E1 a w (hs1'.setSlot (x := .b (.v (.c (.lst sz 0 f)))) ⟨?_, ?_⟩)
    · rw [hu, h0]; exact RelK.lst0 sz f
    · rw [hu, h0]; rfl
  · obtain ⟨arr, hg2, hsz2, hcap2, hcl2, hcm2, hrel2⟩ := row_cells (hs.core.row hm) hrw hv
    have hgn : E1.c.w0.heap.size ≤ g := by
      rw [hc1]
      rcases hs.core.new r g (.inr (.inr ⟨hd, _, hrw, by rw [hv]; rfl⟩)) with h | h
      · exact h
      · exact absurd h (hB.W g)
    obtain ⟨E2, hle2, hKg, hc2⟩ := hs1'.core.learn (hgone g (by rw [hv]; rfl)) hg2 hgn
    have hs2 : Sim B E2 s1 a w := hs1'.le hle2 hc2
    have hl : RelK E2.K (.lst sz n f) (a.tmps.getD k undef) := by
      rw [hu, hv]
      rw [← hn]
      refine relK_lst_of hKg (fun i hi => ?_) (by rw [hn]; exact hsz2) (by omega) (fun i j hi hj => ?_)
      · rw [hf i hi]
        refine hlens _ ?_
        have hi' : i < css.length := by omega
        simp only [List.getD_eq_getElem?_getD, List.getElem?_eq_getElem hi', Option.getD_some]
        exact List.getElem_mem hi'
      · rw [hf i hi]
        obtain ⟨g1, g2⟩ := hrel2 i j (by omega) hj
        have hKK : E.K.le E2.K := by rw [← hK1]; exact hle2.K
        exact ⟨g1.mono hKK, g2⟩
    exact h E2 a w (hs2.setSlot (x := .b (.v (.c (.lst sz n f)))) ⟨hl, hl.one (by simp)⟩)

theorem slim_none {s s' : S} {ks ns : List Nat} {n : Nat} (h : s.slim ks (ns ++ [n]) = some s') (hn : n < s.m.length) : s'.m[n]? = some none := by
  unfold S.slim at h
  obtain ⟨s2, h2, h3⟩ := dropNames_append h
  unfold dropName at h3
  split at h3
  · cases h3
  · cases h3
    have hl : ∀ {ns : List Nat} {s s' : S}, dropNames s ns = some s' → s'.m.length = s.m.length := by
      intro ns
      induction ns with
      | nil => intro s s' h; simp only [dropNames] at h; cases h; rfl
      | cons n ns ih =>
        intro s s' h
        simp only [dropNames] at h
        split at h
        · rename_i s1 h1
          rw [ih h]
          unfold dropName at h1
          split at h1
          · cases h1
          · cases h1; simp
        · cases h
    have hlt : n < s2.m.length := by rw [hl h2]; exact hn
    simp [hlt]

/-- A map, known from now on. -/
theorem run_frzMap {s s' : S} {cs : List Code} {Q : Exit → S → Prop} (hB : B.Fn) (k r : Nat) (kagg agg : Bool) (ents : List (List C × List C)) (ks ns : List Nat) (ht : s.t[k]? = some (.b (.v (.c (.omap r))))) (hm : s.m[r]? = some (some (.omap kagg agg ents)))
    (hz : frz s k r (.kmap kagg agg ents) ks ns = some s') (h : Run P B s' cs Q) (hne : cs ≠ []) : Run P B s cs Q := by
  cases cs with
  | nil => exact absurd rfl hne
  | cons c cs =>
  intro E a w hs
  unfold frz at hz
  split at hz
  case h_2 => cases hz
  rename_i s1 hs1
  cases hz
  have hk := hs.slot k _ ht
  obtain ⟨b, hmp, hu⟩ : ∃ b, E.mp r = some b ∧ a.tmps.getD k undef = .map (some b) := hk.1
  have hs0 : Sim B E { s with t := s.t.set k .junk } a w := hs.setSlot trivial
  obtain ⟨E1, hs1', hK1, hc1, hh1⟩ := wk_slim hs1 _ _ _ _ hs0
  obtain ⟨b', es, hmp', hb, hrel⟩ := hs.core.mem r _ hm
  rw [hmp] at hmp'
  cases hmp'
  have hheld : E.holds r b := .inr (.inl hmp)
  have hgone : ∀ j, ¬ E1.holds j b := by
    intro j hj
    have hjr : j = r := hs.core.inj j r b (hh1 j b hj) hheld
    subst hjr
    have hmn := slim_none hs1 ((List.getElem?_eq_some_iff.1 hm).1)
    obtain ⟨h1, h2, h3⟩ := hs1'.core.nothing hmn
    rcases hj with h | h | ⟨_, _, h, _⟩
    · rw [h1] at h; cases h
    · rw [h3] at h; cases h
    · rw [h2] at h; cases h
  have hgn : E1.c.w0.heap.size ≤ b := by
    rw [hc1]
    rcases hs.core.new r b hheld with h | h
    · exact h
    · exact absurd h (hB.W b)
  obtain ⟨E2, hle2, hKg, hc2⟩ := hs1'.core.learn hgone hb hgn
  have hs2 : Sim B E2 s1 a w := hs1'.le hle2 hc2
  have hKK : E.K.le E2.K := by rw [← hK1]; exact hle2.K
  have hget : ∀ j, j < ents.length → es[j]? = some (es.getD j default) := fun j hj => by
    have : j < es.size := by rw [hrel.1]; exact hj
    simp [this]
  have hl : RelK E2.K (.kmap kagg agg ents) (a.tmps.getD k undef) := by
    rw [hu]
    refine .kmap kagg agg ents b es (fun j => es.getD j default) hKg hrel.1 (fun j hj => ?_) hget (fun j hj => ?_) (fun j i hj hi => ?_) (fun j i hj hi => ?_) (fun j hj => ?_) (fun j hj => ?_) (fun j i hj hi => ?_) (fun j i hj hi => ?_) (fun j hj => ?_)
    · exact (hrel.2 j _ (hget j hj)).2.2
    · exact (hrel.2 j _ (hget j hj)).1.1.1
    · exact ((hrel.2 j _ (hget j hj)).1.1.2 i hi).1.mono hKK
    · exact ((hrel.2 j _ (hget j hj)).1.1.2 i hi).2
    · exact (hrel.2 j _ (hget j hj)).1.2
    · exact (hrel.2 j _ (hget j hj)).2.1.1.1
    · exact ((hrel.2 j _ (hget j hj)).2.1.1.2 i hi).1.mono hKK
    · exact ((hrel.2 j _ (hget j hj)).2.1.1.2 i hi).2
    · exact (hrel.2 j _ (hget j hj)).2.1.2
  exact h E2 a w (hs2.setSlot (x := .b (.v (.c (.kmap kagg agg ents)))) ⟨hl, hl.one (by simp)⟩)

/-- A box, known from now on. -/
theorem run_frzBox {s s' : S} {cs : List Code} {Q : Exit → S → Prop} (hB : B.Fn) (k r off : Nat) (xs : List C) (ks ns : List Nat) (ht : s.t[k]? = some (.b (.v (.c (.ptr r off))))) (hm : s.m[r]? = some (some (.cells xs)))
    (hz : frz s k r (.kptr xs off) ks ns = some s') (h : Run P B s' cs Q) (hne : cs ≠ []) : Run P B s cs Q := by
  cases cs with
  | nil => exact absurd rfl hne
  | cons c cs =>
  intro E a w hs
  unfold frz at hz
  split at hz
  case h_2 => cases hz
  rename_i s1 hs1
  cases hz
  have hk := hs.slot k _ ht
  obtain ⟨b, hcel, hu⟩ : RelP E r off (a.tmps.getD k undef) := hk.1
  have hs0 : Sim B E { s with t := s.t.set k .junk } a w := hs.setSlot trivial
  obtain ⟨E1, hs1', hK1, hc1, hh1⟩ := wk_slim hs1 _ _ _ _ hs0
  obtain ⟨b', arr, T, hcel', hb, hrel⟩ := hs.core.cells hm
  rw [hcel] at hcel'
  cases hcel'
  have hheld : E.holds r b := .inl hcel
  have hgone : ∀ j, ¬ E1.holds j b := by
    intro j hj
    have hjr : j = r := hs.core.inj j r b (hh1 j b hj) hheld
    subst hjr
    have hmn := slim_none hs1 ((List.getElem?_eq_some_iff.1 hm).1)
    obtain ⟨h1, h2, h3⟩ := hs1'.core.nothing hmn
    rcases hj with h | h | ⟨_, _, h, _⟩
    · rw [h1] at h; cases h
    · rw [h3] at h; cases h
    · rw [h2] at h; cases h
  have hgn : E1.c.w0.heap.size ≤ b := by
    rw [hc1]
    rcases hs.core.new r b hheld with h | h
    · exact h
    · exact absurd h (hB.W b)
  obtain ⟨E2, hle2, hKg, hc2⟩ := hs1'.core.learn hgone hb hgn
  have hs2 : Sim B E2 s1 a w := hs1'.le hle2 hc2
  have hKK : E.K.le E2.K := by rw [← hK1]; exact hle2.K
  have hl : RelK E2.K (.kptr xs off) (a.tmps.getD k undef) := by
    rw [hu]
    exact .kptr xs off b arr T (0, 0) hKg hrel.1 (fun j hj => (hrel.2 j hj).1.mono hKK) (fun j hj => (hrel.2 j hj).2)
  exact h E2 a w (hs2.setSlot (x := .b (.v (.c (.kptr xs off)))) ⟨hl, hl.one (by simp)⟩)

/-! ### nil -/

/-- A slot that holds nil holds an empty list. -/
theorem wk_nilLst {s : S} (k sz : Nat) (f : Nat → List C) (ht : s.t[k]? = some (.b (.v (.c .nil)))) : Wk P s { s with t := s.t.set k (.b (.v (.c (.lst sz 0 f)))) } := by
  intro B E a w hs
  refine ⟨E, hs.setSlot ?_, rfl, rfl, fun _ _ h => h⟩
  have hk := hs.slot k _ ht
  have h1 : RelK E.K .nil (a.tmps.getD k undef) := hk.1
  generalize a.tmps.getD k undef = u at h1
  cases h1
  exact ⟨RelK.lst0 sz f, rfl⟩

theorem core_nilRow {m : List (Option MO)} {r e sz : Nat} (hc : Core B E m w) (hm : m[r]? = some none) (hsz : 0 < sz) :
    ∃ E', E.Le E' ∧ E'.K = E.K ∧ E'.rw r = some (.slice none 0 0, 0) ∧ (∀ n b, E'.holds n b → E.holds n b) ∧ Core B E' (m.set r (some (.row e sz []))) w := by
  obtain ⟨hcn, hrn, hmn⟩ := hc.nothing hm
  let E' : Env := { E with rw := fun k => if k = r then some (.slice none 0 0, 0) else E.rw k }
  have hrw : E'.rw r = some (.slice none 0 0, 0) := if_pos rfl
  have hle : E.Le E' := ⟨Know.le_refl _, fun _ _ h => h, fun _ _ h => h, rfl, fun q hd k h => by
      refine ⟨hd, k, ?_, Nat.le_refl _, fun _ => rfl⟩
      show (if q = r then _ else E.rw q) = _
      by_cases hk : q = r
      · subst hk; rw [hrn] at h; cases h
      · rw [if_neg hk]; exact h⟩
  have hh : ∀ b, ¬ E'.holds r b := fun b h => by
    rcases h with h | h | ⟨hd, k, h, h'⟩
    · rw [show E'.cel r = E.cel r from rfl, hcn] at h; cases h
    · rw [show E'.mp r = E.mp r from rfl, hmn] at h; cases h
    · rw [hrw] at h; cases h; cases h'
  refine ⟨E', hle, rfl, hrw, fun n b h => ?_, hc.step ⟨_, hm⟩ hle rfl (fun k hk => ⟨rfl, if_neg hk, rfl⟩) (fun b h => ?_) (fun x h => rfl) (fun b h => ?_) ?_ (fun b' h => absurd h (hh b')) (Nat.le_refl _) rfl rfl rfl (fun _ _ _ => rfl)⟩
  · by_cases hn : n = r
    · subst hn; exact absurd h (hh b)
    · rcases h with h | h | ⟨hd, k, h, h'⟩
      · exact .inl h
      · exact .inr (.inl h)
      · exact .inr (.inr ⟨hd, k, (if_neg hn).symm.trans h, h'⟩)
  · rw [show E'.cel r = E.cel r from rfl, hcn] at h; cases h
  · rw [show E'.mp r = E.mp r from rfl, hmn] at h; cases h
  · exact ⟨hsz, by simp, _, [], hrw, World.ownsRow_nil w 0 e sz, by simp, fun j hj => by simp at hj⟩

/-- A slot that holds nil holds an own row without elements. -/
theorem wk_nilRow {s : S} (k r e sz : Nat) (ht : s.t[k]? = some (.b (.v (.c .nil)))) (hm : s.m[r]? = some none) (hsz : 0 < sz) :
    Wk P s { s with t := s.t.set k (.b (.v (.c (.row r 0)))), m := s.m.set r (some (.row e sz [])) } := by
  intro B E a w hs
  obtain ⟨E', hle, hK, hrw, hh, hc⟩ := core_nilRow (e := e) hs.core hm hsz
  refine ⟨E', (hs.le hle hc).setSlot (x := .b (.v (.c (.row r 0)))) ?_, hK, hle.c, hh⟩
  have hk := hs.slot k _ ht
  have h1 : RelK E.K .nil (a.tmps.getD k undef) := hk.1
  generalize a.tmps.getD k undef = u at h1
  cases h1
  exact ⟨⟨_, _, hrw, Nat.le_refl _, fun _ => rfl⟩, rfl⟩

/-- A cell of an own box that holds nil holds an own row without elements. -/
theorem wk_nilCell {s : S} (n i r e sz : Nat) (cs : List C) (hn : s.m[n]? = some (some (.cells cs))) (hi : cs[i]? = some .nil) (hm : s.m[r]? = some none) (hsz : 0 < sz) :
    Wk P s { s with m := (s.m.set r (some (.row e sz []))).set n (some (.pcells (cs.set i (.row r 0)))) } := by
  intro B E a w hs
  obtain ⟨E', hle, hK, hrw, hh, hc⟩ := core_nilRow (e := e) hs.core hm hsz
  have hne : n ≠ r := fun e => by rw [e, hm] at hn; cases hn
  have hn' : (s.m.set r (some (.row e sz [])))[n]? = some (some (.cells cs)) := by rw [getElem?_set_ne hne]; exact hn
  refine ⟨E', ?_, hK, hle.c, hh⟩
  have hc2 : Core B E' ((s.m.set r (some (.row e sz []))).set n (some (.pcells (cs.set i (.row r 0))))) w := by
    obtain ⟨b, arr, T, hb, hheap, hrel⟩ := hc.cells hn'
    obtain ⟨hrn, hmn⟩ := hc.noRow hb
    refine hc.step ⟨_, hn'⟩ (Env.Le.refl E') rfl (fun _ _ => ⟨rfl, rfl, rfl⟩) (fun b h => ⟨_, .inr rfl⟩) (fun x h => ?_) (fun b h => ?_) ?_ (fun b' h => ⟨.inr h, hc.lt n b' h⟩) (Nat.le_refl _) rfl rfl rfl (fun _ _ _ => rfl)
    · rw [hrn] at h; cases h
    · rw [hmn] at h; cases h
    · refine ⟨b, arr, T, hb, hheap, by rw [List.length_set]; exact hrel.1, fun j hj => ?_⟩
      rw [List.length_set] at hj
      obtain ⟨g1, g2⟩ := hrel.2 j hj
      refine ⟨?_, g2⟩
      by_cases hij : i = j
      · subst hij
        have e1 : cs.getD i .junk = .nil := by simp [List.getD_eq_getElem?_getD, hi]
        have e2 : (cs.set i (.row r 0)).getD i .junk = .row r 0 := by simp [List.getD_eq_getElem?_getD, hj]
        rw [e1] at g1
        rw [e2]
        generalize arr.getD i undef = u at g1
        cases g1
        exact ⟨_, _, hrw, Nat.le_refl _, fun _ => rfl⟩
      · have e2 : (cs.set i (.row r 0)).getD j .junk = cs.getD j .junk := by simp [List.getD_eq_getElem?_getD, hij]
        rw [e2]
        exact Rel.of_relK g1
  exact hs.le hle hc2

end Go.Sym

namespace Go.Sym
variable {P : Program} {B : Base P}

def getS : Option S → S
  | some s => s
  | none => ⟨[], [], []⟩
theorem getS_eq {x : Option S} (h : x.isSome = true) : x = some (getS x) := by
  cases x with
  | none => cases h
  | some s => rfl

theorem frzMap {s : S} {cs : List Code} {Q : Exit → S → Prop} (hB : B.Fn) (k r : Nat) (kagg agg : Bool) (ents : List (List C × List C)) (ks ns : List Nat) (ht : s.t[k]? = some (.b (.v (.c (.omap r))))) (hm : s.m[r]? = some (some (.omap kagg agg ents)))
    (hz : (frz s k r (.kmap kagg agg ents) ks ns).isSome = true) (h : Run P B (getS (frz s k r (.kmap kagg agg ents) ks ns)) cs Q) (hne : cs ≠ []) : Run P B s cs Q :=
  run_frzMap hB k r kagg agg ents ks ns ht hm (getS_eq hz) h hne
theorem frzBox {s : S} {cs : List Code} {Q : Exit → S → Prop} (hB : B.Fn) (k r off : Nat) (xs : List C) (ks ns : List Nat) (ht : s.t[k]? = some (.b (.v (.c (.ptr r off))))) (hm : s.m[r]? = some (some (.cells xs)))
    (hz : (frz s k r (.kptr xs off) ks ns).isSome = true) (h : Run P B (getS (frz s k r (.kptr xs off) ks ns)) cs Q) (hne : cs ≠ []) : Run P B s cs Q :=
  run_frzBox hB k r off xs ks ns ht hm (getS_eq hz) h hne
theorem frzRow {s : S} {cs : List Code} {Q : Exit → S → Prop} (hB : B.Fn) (k r n e sz : Nat) (css : List (List C)) (f : Nat → List C) (ks ns : List Nat) (ht : s.t[k]? = some (.b (.v (.c (.row r n))))) (hm : s.m[r]? = some (some (.row e sz css)))
    (hn : n = css.length) (hf : ∀ i, i < n → f i = css.getD i []) (hz : (frz s k r (.lst sz n f) ks ns).isSome = true) (h : Run P B (getS (frz s k r (.lst sz n f) ks ns)) cs Q) (hne : cs ≠ []) : Run P B s cs Q :=
  run_frzRow hB k r n e sz css f ks ns ht hm hn hf (getS_eq hz) h hne
theorem wkSlim {s : S} (ks ns : List Nat) (h : (s.slim ks ns).isSome = true) : Wk P s (getS (s.slim ks ns)) := wk_slim (getS_eq h)

end Go.Sym
