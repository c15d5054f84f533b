/-
  THE SYMBOLIC LAYER, PART W: contracts of the library's that work in place on a row, in the layer's words.
-/
import Derived.Test.YtaaplpbjjnechaaSymV
import Derived.Sort.OwnSortedInts
import Derived.Lib.OwnBridge
import Derived.Lib.SlicesCompact
namespace Go.Sym
open Go.RowKit
set_option linter.unusedVariables false
set_option linter.unusedSimpArgs false

variable {P : Program}

theorem World.grownBy_refl (w : World) (r : Option Nat) : w.grownBy w r := ⟨rfl, rfl, rfl, Nat.le_refl _, fun _ _ _ => rfl⟩

/-- What is known of the row that is handed. -/
theorem own_row_in {E : Env} {w : World} {r e sz : Nat} {css : List (List C)} {u : Value} (hat : OwnAt E [(r, .row e sz css)] w) (hu : Rel E (.row r css.length) u) :
    0 < sz ∧ (∀ c, c ∈ css → c.length = sz) ∧ E.rw r = some (u, css.length) ∧ ∃ xs, w.ownsRow 0 e sz u css.length xs ∧ RelLK E.K css.flatten xs.toArray := by
  obtain ⟨h1, h2, hd, xs, h3, h4, h5⟩ : MRel E w r (.row e sz css) := hat.mem r _ List.mem_cons_self
  obtain ⟨hd', len, g1, g2, g3⟩ := hu
  rw [h3] at g1
  cases g1
  have := g3 rfl
  subst this
  exact ⟨h1, h2, h3, xs, h4, h5⟩

theorem own_row_out {hid : List Nat} {E : Env} {w w' : World} {r e sz : Nat} {css css' : List (List C)} {u u' : Value} {xs' : List Value} (hK : Knows E.K w) (hat : OwnAt E [(r, .row e sz css)] w) (hrw : E.rw r = some (u, css.length)) (hsz : 0 < sz) (hl : ∀ c, c ∈ css' → c.length = sz)
    (hg : w.grownBy w' u.ownBlock) (hown : w'.ownsRow 0 e sz u' css'.length xs') (hrel : RelLK E.K css'.flatten xs'.toArray) (hb : u'.ownBlock = u.ownBlock) (hh : hasN hid r = true ∨ (u', css'.length) = (u, css.length)) :
    OwnOut hid E [(r, .row e sz css')] w E.K (fun n => if n = r then some (u', css'.length) else E.rw n) w' := by
  have hblk : ∀ b, u.ownBlock = some b → E.holds r b := fun b h => .inr (.inr ⟨u, _, hrw, h⟩)
  have hne : ∀ b, b < w.heap.size → (∀ n, ¬ E.holds n b) → w'.heap[b]? = w.heap[b]? := fun b h1 h2 => hg.block b h1 fun e => h2 r (hblk b e.symm)
  have hholds : ∀ n b, (E.upd E.K (fun n => if n = r then some (u', css'.length) else E.rw n)).holds n b → E.holds n b := fun n b h => by
    rcases h with h | h | ⟨hd, len, h, h'⟩
    · exact .inl h
    · exact .inr (.inl h)
    · simp only [Env.upd] at h
      by_cases hn : n = r
      · subst hn
        rw [if_pos rfl] at h
        cases h
        exact hblk b (by rw [← hb]; exact h')
      · rw [if_neg hn] at h
        exact .inr (.inr ⟨hd, len, h, h'⟩)
  refine
  { le := Know.le_refl _
    nk := fun b _ h => h
    know := fun b o h => by
      have h1 := hK b o h
      rw [hne b (Array.getElem?_eq_some_iff.1 h1).1 fun n hn => by have := (hat.place n b hn).1; rw [h] at this; cases this]
      exact h1
    same := fun n hn => ?_
    mem := fun n o h => ?_
    inj := fun n n' b h h' => hat.inj n n' b (hholds n b h) (hholds n' b h')
    place := fun n b h => by
      have h1 := hholds n b h
      have h2 := hat.place n b h1
      exact ⟨h2.1, Nat.lt_of_lt_of_le h2.2 hg.size, .inr ⟨n, h1⟩⟩
    os := hg.os
    tape := hg.tape
    output := hg.output
    size := hg.size
    old := hne }
  · by_cases hr : n = r
    · subst hr
      rcases hh with hh | hh
      · rw [hn] at hh; cases hh
      · rw [if_pos rfl, hrw, hh]
    · rw [if_neg hr]
  · simp only [List.mem_singleton, Prod.mk.injEq] at h
    obtain ⟨rfl, rfl⟩ := h
    exact ⟨hsz, hl, u', xs', by simp [Env.upd], hown, hrel⟩

def rowI (zs : List Int) : List (List C) := zs.map fun z => [cI z]
theorem rowI_len (zs : List Int) : (rowI zs).length = zs.length := by simp [rowI]
theorem rowI_mem {zs : List Int} : ∀ c, c ∈ rowI zs → c.length = 1 := by
  intro c hc
  simp only [rowI, List.mem_map] at hc
  obtain ⟨z, _, rfl⟩ := hc
  rfl
theorem rowI_flat (zs : List Int) : (rowI zs).flatten = zs.map cI := by
  induction zs with
  | nil => rfl
  | cons z zs ih => simp only [rowI, List.map_cons, List.flatten_cons] at ih ⊢; rw [ih]; rfl
theorem rowI_vals {K : Know} {zs : List Int} {xs : List Value} (h : RelLK K (rowI zs).flatten xs.toArray) : xs = zs.map (Value.int .i64) := by
  rw [rowI_flat] at h
  refine List.ext_getElem (by simpa using h.1) fun j h1 h2 => ?_
  have hj : j < zs.length := by simpa using h2
  have := (h.2 j (by simpa using hj)).1
  have e1 : (zs.map cI).getD j .junk = cI zs[j] := by simp [List.getD_eq_getElem?_getD, hj]
  have e2 : xs.toArray.getD j undef = xs[j] := by simp [h1]
  rw [e1, e2] at this
  generalize xs[j] = v at this
  cases this
  simp
theorem rowI_rel (K : Know) (zs : List Int) : RelLK K (rowI zs).flatten (zs.map (Value.int .i64)).toArray := by
  rw [rowI_flat]
  refine ⟨by simp, fun j hj => ?_⟩
  have hj : j < zs.length := by simpa using hj
  have e1 : (zs.map cI).getD j .junk = cI zs[j] := by simp [List.getD_eq_getElem?_getD, hj]
  have e2 : (zs.map (Value.int .i64)).toArray.getD j undef = .int .i64 zs[j] := by simp [hj]
  rw [e1, e2]
  exact ⟨RelK.int _ _, rfl⟩

def sortI (zs : List Int) : List Int := zs.mergeSort fun x y => decide (x ≤ y)
theorem sortI_len (zs : List Int) : (sortI zs).length = zs.length := by simp [sortI]

/-- slices.Sort at integers. -/
theorem fown_sortI {f : FuncId} {r e : Nat} {zs : List Int} (hf : ∃ fn, P.funcs[f]? = some fn ∧ fn.body.isSome = true ∧ (fn.name == "runtime.NumGoroutine") = false) (hlen : zs.length < 4611686018427387904)
    (h : ∀ (blk off cap : Nat) (w : World), Sort.Holds (Value.int .i64) w blk off zs.toArray → blk < w.heap.size →
      Calls P f #[.slice (some ⟨blk, off, none⟩) zs.length cap] w fun e w' => e = .returned (.tuple #[]) ∧ ∃ n os, w' = Sort.grow (Sort.putRow (Value.int .i64) (Sort.ahead w n) blk off (zs.mergeSort fun x y => decide (x ≤ y)).toArray) os)
    (h0 : ∀ (p : Option Addr) (cap : Nat) (w : World), Calls P f #[.slice p 0 cap] w fun e w' => e = .returned (.tuple #[]) ∧ w' = w) :
    FOwn P f [] [.c (.row r zs.length)] [(r, .row e 1 (rowI zs))] (.tup []) [(r, .row e 1 (rowI (sortI zs)))] := by
  refine ⟨hf, fun E w vs hK hat hsz hrel => ?_⟩
  have hu : Rel E (.row r zs.length) (vs.getD 0 undef) := (hrel 0 (by simp)).1
  obtain ⟨u, rfl⟩ : ∃ u, vs = #[u] := by
    have : vs.size = 1 := by simpa using hsz
    exact ⟨vs[0], by apply Array.ext <;> simp [this]; intro i hi; have : i = 0 := by omega
                     subst this; rfl⟩
  have hu : Rel E (.row r (rowI zs).length) u := by rw [rowI_len]; exact hu
  obtain ⟨hs1, hl, hrw, xs, hown, hrl⟩ := own_row_in hat hu
  have hxs := rowI_vals hrl
  subst hxs
  have tupR : ∀ (K' : Know) (rw' : Nat → Option (Value × Nat)), RelSB (E.upd K' rw') (.tup []) (.tuple #[]) := fun _ _ => ⟨#[], rfl, rfl, fun j hj => by simp at hj⟩
  have hl' : (rowI (sortI zs)).length = (rowI zs).length := by rw [rowI_len, rowI_len, sortI_len]
  rcases hown.2 with ⟨hnil, hz⟩ | ⟨g, cap, cur, hv, hb, hg, hn, hm, hs, ht⟩
  · subst hnil
    have hz0 : zs = [] := by rw [rowI_len] at hz; exact List.eq_nil_of_length_eq_zero hz
    subst hz0
    refine (h0 none 0 w).mono ?_
    rintro en w' ⟨rfl, rfl⟩
    refine ⟨E.K, _, _, rfl, own_row_out (hid := []) (css' := rowI (sortI [])) (u' := .slice none 0 0) hK hat hrw hs1 rowI_mem (World.grownBy_refl _ _) ?_ (rowI_rel _ _) rfl (.inr (by rw [hl'])), tupR _ _⟩
    have e0 : sortI [] = [] := by simp [sortI]
    rw [e0]; exact hown
  · subst hv
    have hlt : g < w.heap.size := (Array.getElem?_eq_some_iff.1 hg).1
    rw [rowI_len, Nat.mul_one] at ht
    rw [rowI_len] at hn
    have hH : Sort.Holds (Value.int .i64) w g 0 zs.toArray := holds_of_blockI hg ht
    rw [rowI_len]
    refine (h g 0 cap w hH hlt).mono ?_
    rintro en w' ⟨rfl, n, os, rfl⟩
    refine ⟨E.K, _, _, rfl, own_row_out (hid := []) (css' := rowI (sortI zs)) (u' := .slice (some ⟨g, 0, none⟩) (rowI zs).length cap) hK hat hrw hs1 rowI_mem (grownBy_sortedI _) ?_ (rowI_rel _ _) rfl (.inr (by rw [hl'])), tupR _ _⟩
    rw [hl', rowI_len]
    exact ownsRow_sortedI (ss := zs) (ts := sortI zs) (sortI_len zs) hb hg hn hm hs

/-- slices.Compact at integers. -/
theorem fown_compactI {f : FuncId} {r e : Nat} {zs : List Int} (hf : ∃ fn, P.funcs[f]? = some fn ∧ fn.body.isSome = true ∧ (fn.name == "runtime.NumGoroutine") = false) (hlen : zs.length ≤ 9223372036854775807)
    (h : ∀ (blk off cap : Nat) (w : World), Sort.Holds (Value.int .i64) w blk off zs.toArray → zs.length ≤ cap →
      Calls P f #[.slice (some ⟨blk, off, none⟩) zs.length cap] w fun e w' => e = .returned (.slice (some ⟨blk, off, none⟩) (Lib.compact zs).length cap) ∧
        ∃ q, w' = Sort.putRow (Value.int .i64) (Sort.ahead w q) blk off (Lib.compact zs ++ List.replicate (zs.length - (Lib.compact zs).length) 0).toArray)
    (h0 : ∀ (p : Option Addr) (cap : Nat) (w : World), Calls P f #[.slice p 0 cap] w fun e w' => e = .returned (.slice p 0 cap) ∧ w' = w) (hle : (Lib.compact zs).length ≤ zs.length) :
    FOwn P f [r] [.c (.row r zs.length)] [(r, .row e 1 (rowI zs))] (.v (.c (.row r (Lib.compact zs).length))) [(r, .row e 1 (rowI (Lib.compact zs)))] := by
  refine ⟨hf, fun E w vs hK hat hsz hrel => ?_⟩
  have hu : Rel E (.row r zs.length) (vs.getD 0 undef) := (hrel 0 (by simp)).1
  obtain ⟨u, rfl⟩ : ∃ u, vs = #[u] := by
    have : vs.size = 1 := by simpa using hsz
    exact ⟨vs[0], by apply Array.ext <;> simp [this]; intro i hi; have : i = 0 := by omega
                     subst this; rfl⟩
  have hu : Rel E (.row r (rowI zs).length) u := by rw [rowI_len]; exact hu
  obtain ⟨hs1, hl, hrw, xs, hown, hrl⟩ := own_row_in hat hu
  have hxs := rowI_vals hrl
  subst hxs
  have hhid : hasN [r] r = true := hasN_iff.2 List.mem_cons_self
  rcases hown.2 with ⟨hnil, hz⟩ | ⟨g, cap, cur, hv, hb, hg, hn, hm, hs, ht⟩
  · subst hnil
    have hz0 : zs = [] := by rw [rowI_len] at hz; exact List.eq_nil_of_length_eq_zero hz
    subst hz0
    refine (h0 none 0 w).mono ?_
    rintro en w' ⟨rfl, rfl⟩
    refine ⟨E.K, _, _, rfl, own_row_out (hid := [r]) (css' := rowI (Lib.compact [])) (u' := .slice none 0 0) hK hat hrw hs1 rowI_mem (World.grownBy_refl _ _) ?_ (rowI_rel _ _) rfl (.inl hhid), ?_⟩
    · exact hown
    · exact ⟨⟨.slice none 0 0, (rowI (Lib.compact [])).length, if_pos rfl, by rw [rowI_len]; exact Nat.le_refl _, fun _ => rfl⟩, rfl⟩
  · subst hv
    have hlt : g < w.heap.size := (Array.getElem?_eq_some_iff.1 hg).1
    rw [rowI_len, Nat.mul_one] at ht
    rw [rowI_len] at hn
    have hH : Sort.Holds (Value.int .i64) w g 0 zs.toArray := holds_of_blockI hg ht
    rw [rowI_len]
    refine (h g 0 cap w hH hn).mono ?_
    rintro en w' ⟨rfl, q, rfl⟩
    refine ⟨E.K, _, _, rfl, own_row_out (hid := [r]) (css' := rowI (Lib.compact zs)) (u' := .slice (some ⟨g, 0, none⟩) (Lib.compact zs).length cap) hK hat hrw hs1 rowI_mem ?_ ?_ (rowI_rel _ _) rfl (.inl hhid), ?_⟩
    · have := grownBy_sortedI (w := w) (g := g) (n := q) (os := #[]) (Lib.compact zs ++ List.replicate (zs.length - (Lib.compact zs).length) 0).toArray
      rw [Sort.grow_empty] at this
      exact this
    · rw [rowI_len]
      have hown' : w.ownsRow 0 e 1 (.slice (some ⟨g, 0, none⟩) zs.length cap) zs.length (zs.map (Value.int .i64)) := by rw [← rowI_len zs]; exact hown
      have := Lib.ownsRow_putRow (q := q) (k := (Lib.compact zs).length) (ys := Lib.compact zs ++ List.replicate (zs.length - (Lib.compact zs).length) 0) hown' (by simp; omega) hle
      rwa [List.take_append_of_le_length (Nat.le_refl _), List.take_length] at this
    · exact ⟨⟨.slice (some ⟨g, 0, none⟩) (Lib.compact zs).length cap, (rowI (Lib.compact zs)).length, if_pos rfl, by rw [rowI_len]; exact Nat.le_refl _, fun _ => rfl⟩, rfl⟩

end Go.Sym
