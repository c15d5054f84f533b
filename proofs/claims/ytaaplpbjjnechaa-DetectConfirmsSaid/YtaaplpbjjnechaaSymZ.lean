/-
  THE SYMBOLIC LAYER, PART Z: the own row in a cell of an own box becomes a known list.
-/
import Derived.Test.YtaaplpbjjnechaaSymX
namespace Go.Sym
set_option linter.unusedVariables false
variable {P : Program} {B : Base P} {E : Env} {w : World}

def boxOf (cs : List C) : MO := match cs.all C.isImm with
  | true => .cells cs
  | false => .pcells cs

theorem boxOf_rel {cs : List C} {arr : Array Value} {n b : Nat} {T : TypeId} (hb : E.cel n = some b) (hh : w.heap[b]? = some (.cells arr T (0, 0))) (hr : RelL E cs arr) : MRel E w n (boxOf cs) ∧ ∃ cs', boxOf cs = .cells cs' ∨ boxOf cs = .pcells cs' := by
  unfold boxOf
  cases h : cs.all C.isImm with
  | true =>
    refine ⟨⟨b, arr, T, hb, hh, hr.1, fun j hj => ⟨?_, (hr.2 j hj).2⟩⟩, cs, .inl rfl⟩
    exact Rel.imm (all_getD h j hj) (hr.2 j hj).1
  | false => exact ⟨⟨b, arr, T, hb, hh, hr⟩, cs, .inr rfl⟩

/-- The cell i of the box n is let go, and the row r that it held; then it has its value for good: c. -/
def frzC (s : S) (n i r : Nat) (c : C) (ks ns : List Nat) : Option S :=
  match s.m[n]? with
  | some (some (.pcells cs)) => match ({ s with m := s.m.set n (some (.pcells (cs.set i .junk))) } : S).slim ks (ns ++ [r]) with
    | some s1 => match s1.m[n]? with
      | some (some (.pcells cs')) => match Nat.beq cs'.length cs.length with
        | true => some { s1 with m := s1.m.set n (some (boxOf (cs'.set i c))) }
        | false => none
      | _ => none
    | none => none
  | _ => none

theorem setCell_core {m : List (Option MO)} {n i : Nat} {cs : List C} {c : C} (hc : Core B E m w) (hn : m[n]? = some (some (.pcells cs))) (hx : ∀ b arr T, E.cel n = some b → w.heap[b]? = some (.cells arr T (0, 0)) → i < cs.length → Rel E c (arr.getD i undef)) :
    Core B E (m.set n (some (boxOf (cs.set i c)))) w := by
  obtain ⟨b, arr, T, hb, hheap, hrel⟩ := hc.pcells hn
  obtain ⟨hrn, hmn⟩ := hc.noRow hb
  have hr2 : RelL E (cs.set i c) arr := by
    refine ⟨by rw [List.length_set]; exact hrel.1, fun j hj => ?_⟩
    rw [List.length_set] at hj
    obtain ⟨g1, g2⟩ := hrel.2 j hj
    refine ⟨?_, g2⟩
    by_cases hij : i = j
    · subst hij
      have e2 : (cs.set i c).getD i .junk = c := by simp [List.getD_eq_getElem?_getD, hj]
      rw [e2]
      exact hx b arr T hb hheap hj
    · have e2 : (cs.set i c).getD j .junk = cs.getD j .junk := by simp [List.getD_eq_getElem?_getD, hij]
      rw [e2]; exact g1
  obtain ⟨h1, cs', h2⟩ := boxOf_rel (w := w) hb hheap hr2
  refine hc.step ⟨_, hn⟩ (Env.Le.refl E) rfl (fun _ _ => ⟨rfl, rfl, rfl⟩) (fun b h => ⟨cs', ?_⟩) (fun x h => ?_) (fun b h => ?_) h1 (fun b' h => ⟨.inr h, hc.lt n b' h⟩) (Nat.le_refl _) rfl rfl rfl (fun _ _ _ => rfl)
  · rcases h2 with h2 | h2
    · exact .inl h2
    · exact .inr h2
  · rw [hrn] at h; cases h
  · rw [hmn] at h; cases h

/-- A row's list, in a cell of a box, known from now on. -/
theorem run_frzCell {s s' : S} {cs : List Code} {Q : Exit → S → Prop} (hB : B.Fn) (n i r k e sz : Nat) (bs : List C) (css : List (List C)) (f : Nat → List C) (ks ns : List Nat) (hn : s.m[n]? = some (some (.pcells bs))) (hi : bs[i]? = some (.row r k)) (hm : s.m[r]? = some (some (.row e sz css)))
    (hk : k = css.length) (hf : ∀ i, i < k → f i = css.getD i []) (hz : frzC s n i r (.lst sz k f) ks ns = some s') (h : Run P B s' cs Q) (hne : cs ≠ []) : Run P B s cs Q := by
  cases cs with
  | nil => exact absurd rfl hne
  | cons c cs =>
  intro E a w hs
  unfold frzC at hz
  rw [hn] at hz
  simp only at hz
  split at hz
  case h_2 => cases hz
  rename_i s1 hs1
  split at hz
  case h_2 => cases hz
  rename_i cs' hn1
  split at hz
  case h_2 => cases hz
  rename_i hlen
  cases hz
  have hlen := Nat.eq_of_beq_eq_true hlen
  have hil : i < bs.length := (List.getElem?_eq_some_iff.1 hi).1
  -- the value, and its block
  obtain ⟨bb, barr, bT, hbb, hbh, hbr⟩ := hs.core.pcells hn
  have hkc := (hbr.2 i hil).1
  have ei : bs.getD i .junk = .row r k := by simp [List.getD_eq_getElem?_getD, hi]
  rw [ei] at hkc
  obtain ⟨hd, len, hrw, hle, hu⟩ : ∃ hd len, E.rw r = some (hd, len) ∧ k ≤ len ∧ (k = len → barr.getD i undef = hd) := hkc
  have hlen2 := row_len hs.core hm hrw
  subst hlen2
  replace hu := hu hk
  have hc0 : Core B E (s.m.set n (some (boxOf (bs.set i .junk)))) w := setCell_core hs.core hn (fun _ _ _ _ _ _ => RelK.junk _)
  have hc0' : Core B E (s.m.set n (some (.pcells (bs.set i .junk)))) w := by
    obtain ⟨hrn, hmn⟩ := hs.core.noRow hbb
    refine hs.core.step ⟨_, hn⟩ (Env.Le.refl E) rfl (fun _ _ => ⟨rfl, rfl, rfl⟩) (fun b h => ⟨_, .inr rfl⟩) (fun x h => ?_) (fun b h => ?_) ?_ (fun b' h => ⟨.inr h, hs.core.lt n b' h⟩) (Nat.le_refl _) rfl rfl rfl (fun _ _ _ => rfl)
    · rw [hrn] at h; cases h
    · rw [hmn] at h; cases h
    · refine ⟨bb, barr, bT, hbb, hbh, by rw [List.length_set]; exact hbr.1, fun j hj => ?_⟩
      rw [List.length_set] at hj
      obtain ⟨g1, g2⟩ := hbr.2 j hj
      refine ⟨?_, g2⟩
      by_cases hij : i = j
      · subst hij
        have e2 : (bs.set i C.junk).getD i .junk = C.junk := by simp [List.getD_eq_getElem?_getD, hj]
        rw [e2]; exact RelK.junk _
      · have e2 : (bs.set i C.junk).getD j .junk = bs.getD j .junk := by simp [List.getD_eq_getElem?_getD, hij]
        rw [e2]; exact g1
  have hs0 : Sim B E { s with m := s.m.set n (some (.pcells (bs.set i .junk))) } a w := hs.le (Env.Le.refl E) hc0'
  obtain ⟨E1, hs1', hK1, hc1, hh1⟩ := wk_slim hs1 _ _ _ _ hs0
  obtain ⟨hszp, hlens, hd', xs, hrw', hown, hrel⟩ := hs.core.row hm
  rw [hrw] at hrw'
  cases hrw'
  -- what is let go is held no more
  have hgone : ∀ g, hd.ownBlock = some g → ∀ j, ¬ E1.holds j g := by
    intro g hg j hj
    have hj' := hh1 j g hj
    have hjr : j = r := hs.core.inj j r g hj' (.inr (.inr ⟨hd, _, hrw, hg⟩))
    subst hjr
    have hnj : n ≠ j := fun e => by rw [e, hm] at hn; cases hn
    have hmn : s1.m[j]? = some none := slim_none hs1 (by simp only [List.length_set]; exact (List.getElem?_eq_some_iff.1 hm).1)
    obtain ⟨h1, h2, h3⟩ := hs1'.core.nothing hmn
    rcases hj with h | h | ⟨_, _, h, _⟩
    · rw [h1] at h; cases h
    · rw [h3] at h; cases h
    · rw [h2] at h; cases h
  -- the box is as it was
  have hbox : ∀ {E' : Env}, Core B E' s1.m w → (∀ j g, E'.holds j g → E1.holds j g) → ∀ b arr T, E'.cel n = some b → w.heap[b]? = some (.cells arr T (0, 0)) → arr = barr := by
    intro E' hc' hh b arr T hb hh2
    have h1 : E.holds n b := hh1 n b (hh n b (.inl hb))
    obtain ⟨q1, q2⟩ := hs.core.noRow hbb
    have : b = bb := holds_cel q1 q2 hbb h1
    subst this
    rw [hbh] at hh2
    cases hh2; rfl
  rcases hown.2 with ⟨h0, h1⟩ | ⟨g, cap, cur, hv, hb, hg, hnc, hcm, hcs, htake⟩
  · have hz : k = 0 := by omega
    subst hz
    have hc2 := setCell_core (i := i) (c := .lst sz 0 f) hs1'.core hn1 (fun b arr T hb hh2 _ => by
      rw [hbox hs1'.core (fun _ _ h => h) b arr T hb hh2, hu, h0]; exact RelK.lst0 sz f)
    exact h E1 a w (hs1'.le (Env.Le.refl E1) hc2)
  · obtain ⟨arr, hg2, hsz2, hcap2, hcl2, hcm2, hrel2⟩ := row_cells (hs.core.row hm) hrw hv
    have hgn : E1.c.w0.heap.size ≤ g := by
      rw [hc1]
      rcases hs.core.new r g (.inr (.inr ⟨hd, _, hrw, by rw [hv]; rfl⟩)) with h | h
      · exact h
      · exact absurd h (hB.W g)
    have hcell1 : E1.cel n = some bb := by
      obtain ⟨b, arr2, T2, hb2, _, _⟩ := hs1'.core.pcells hn1
      obtain ⟨q1, q2⟩ := hs.core.noRow hbb
      rw [hb2, holds_cel q1 q2 hbb (hh1 n b (.inl hb2))]
    obtain ⟨E2, hle2, hKg, hc2⟩ := hs1'.core.learn (hgone g (by rw [hv]; rfl)) hg2 hgn
    have hl : RelK E2.K (.lst sz k f) hd := by
      rw [hv]
      rw [← hk]
      refine relK_lst_of hKg (fun i hi => ?_) (by rw [hk]; exact hsz2) (by omega) (fun i j hi hj => ?_)
      · rw [hf i hi]
        refine hlens _ ?_
        have hi' : i < css.length := by omega
        simp only [List.getD_eq_getElem?_getD, List.getElem?_eq_getElem hi', Option.getD_some]
        exact List.getElem_mem hi'
      · rw [hf i hi]
        obtain ⟨g1, g2⟩ := hrel2 i j (by omega) hj
        have hKK : E.K.le E2.K := by rw [← hK1]; exact hle2.K
        exact ⟨g1.mono hKK, g2⟩
    have hc3 := setCell_core (i := i) (c := .lst sz k f) hc2 hn1 (fun b arr T hb hh2 _ => by
      have e1 := hle2.cel n bb hcell1
      rw [e1] at hb
      cases hb
      rw [hbh] at hh2
      cases hh2
      rw [hu]; exact hl)
    exact h E2 a w (hs1'.le hle2 hc3)

theorem frzCell {s : S} {cs : List Code} {Q : Exit → S → Prop} (hB : B.Fn) (n i r k e sz : Nat) (bs : List C) (css : List (List C)) (f : Nat → List C) (ks ns : List Nat) (hn : s.m[n]? = some (some (.pcells bs))) (hi : bs[i]? = some (.row r k)) (hm : s.m[r]? = some (some (.row e sz css)))
    (hk : k = css.length) (hf : ∀ i, i < k → f i = css.getD i []) (hz : (frzC s n i r (.lst sz k f) ks ns).isSome = true) (h : Run P B (getS (frzC s n i r (.lst sz k f) ks ns)) cs Q) (hne : cs ≠ []) : Run P B s cs Q :=
  run_frzCell hB n i r k e sz bs css f ks ns hn hi hm hk hf (getS_eq hz) h hne
/-- A cell of an own box of own things that holds nil holds an own row without elements. -/
theorem wk_nilCellP {s : S} (n i r e sz : Nat) (cs : List C) (hn : s.m[n]? = some (some (.pcells cs))) (hi : cs[i]? = some .nil) (hm : s.m[r]? = some none) (hsz : 0 < sz) :
    Wk P s { s with m := (s.m.set r (some (.row e sz []))).set n (some (.pcells (cs.set i (.row r 0)))) } := by
  intro B E a w hs
  obtain ⟨E', hle, hK, hrw, hh, hc⟩ := core_nilRow (e := e) hs.core hm hsz
  have hne : n ≠ r := fun e => by rw [e, hm] at hn; cases hn
  have hn' : (s.m.set r (some (.row e sz [])))[n]? = some (some (.pcells cs)) := by rw [getElem?_set_ne hne]; exact hn
  refine ⟨E', ?_, hK, hle.c, hh⟩
  have hc2 : Core B E' ((s.m.set r (some (.row e sz []))).set n (some (.pcells (cs.set i (.row r 0))))) w := by
    obtain ⟨b, arr, T, hb, hheap, hrel⟩ := hc.pcells hn'
    obtain ⟨hrn, hmn⟩ := hc.noRow hb
    refine hc.step ⟨_, hn'⟩ (Env.Le.refl E') rfl (fun _ _ => ⟨rfl, rfl, rfl⟩) (fun b h => ⟨_, .inr rfl⟩) (fun x h => ?_) (fun b h => ?_) ?_ (fun b' h => ⟨.inr h, hc.lt n b' h⟩) (Nat.le_refl _) rfl rfl rfl (fun _ _ _ => rfl)
    · rw [hrn] at h; cases h
    · rw [hmn] at h; cases h
    · refine ⟨b, arr, T, hb, hheap, by rw [List.length_set]; exact hrel.1, fun j hj => ?_⟩
      rw [List.length_set] at hj
      obtain ⟨g1, g2⟩ := hrel.2 j hj
      refine ⟨?_, g2⟩
      by_cases hij : i = j
      · subst hij
        have e1 : cs.getD i .junk = .nil := by simp [List.getD_eq_getElem?_getD, hi]
        have e2 : (cs.set i (.row r 0)).getD i .junk = .row r 0 := by simp [List.getD_eq_getElem?_getD, hj]
        rw [e1] at g1
        rw [e2]
        have g1' : RelK E'.K .nil (arr.getD i undef) := g1
        generalize arr.getD i undef = u at g1'
        cases g1'
        exact ⟨_, _, hrw, Nat.le_refl _, fun _ => rfl⟩
      · have e2 : (cs.set i (.row r 0)).getD j .junk = cs.getD j .junk := by simp [List.getD_eq_getElem?_getD, hij]
        rw [e2]
        exact g1
  exact hs.le hle hc2
end Go.Sym
