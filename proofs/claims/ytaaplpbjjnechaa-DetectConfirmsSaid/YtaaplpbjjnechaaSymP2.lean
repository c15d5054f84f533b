/-
  THE SYMBOLIC LAYER, PART F'': rows that grow.
-/
import Derived.Test.YtaaplpbjjnechaaSymP1
namespace Go.Sym
open Go.RowKit

variable {P : Program} {B : Base P} {E : Env} {m : List (Option MO)} {w : World}

/-- The info of a row's element type. -/
theorem info_of {e : TypeId} {z : Value} (hz : zeroT P e = some z) : ∃ i, P.info? e = some i ∧ i.zero = some z ∧ i.size = sizeT P e ∧ i.bytes = bytesT P e := by
  unfold zeroT at hz
  unfold sizeT bytesT
  cases hi : P.info? e with
  | none => simp [hi] at hz
  | some i => exact ⟨i, rfl, by simpa [hi] using hz, by simp, by simp⟩

/-- Where the block of a row behind an 'append' lies. -/
theorem append_block {t ty e : TypeId} {i : TypeInfo} {z : Value} {size bytes : Nat} (ht : P.underlying t = some (.slice e)) (hi : P.info? e = some i) (hz : i.zero = some z) (hsize : i.size = size) (hby : i.bytes = bytes) 
    {v : Value} {n : Nat} {xs : List Value} (hown : w.ownsRow 0 e size v n xs)
    {a : Addr} {k c : Nat} {news : List Value} (hl : news.length = k * size) (hnews : ∀ j u, news[j]? = some u → w.cell? (a.add j) = some u) (h1 : ∀ u ∈ news, u.oneCell' = true)
    (h63 : n + k ≤ maxLen) (hbytes : (n + k) * bytes ≤ 140737488355328) {v' : Value} {w' : World}
    (hr : (Builtin.append_ #[t, t] ty #[v, .slice (some a) k c]).run P w = .ok v' w') : v'.ownBlock = v.ownBlock ∨ v'.ownBlock = some w.heap.size := by
  subst hsize
  subst hby
  have hsmall : n + k ≤ 9223372036854775807 := by simp only [maxLen] at h63; omega
  rcases hown.2 with ⟨rfl, rfl⟩ | ⟨g, cap, cur, rfl, hbg, hg, hnc, hcm, hcs, htake⟩
  · by_cases hm : k = 0
    · subst hm
      have hn : news = [] := List.eq_nil_of_length_eq_zero (by simpa using hl)
      subst hn
      have : (Builtin.append_ #[t, t] ty #[.slice none 0 0, .slice (some a) 0 c]).run P w = .ok (.slice none 0 0) w := by
        simp [Builtin.append_, run_underlying ht, sizeOf, typeInfo, hi, Builtin.lenOf, Builtin.firstCells, loadCells, loadCellsFrom]
      rw [this] at hr
      cases hr
      exact .inl rfl
    · have h2 := run_append_nil (P := P) w t ty e i z ht hi hz a k c news hl hnews (by omega) (by omega) (by have hb := hbytes; simp only [Nat.zero_add] at hb; omega)
      rw [h2] at hr
      cases hr
      exact .inr rfl
  · by_cases hroom : n + k ≤ cap
    · have hfit : n * i.size + news.length ≤ cur.size := by rw [hl, hcs, ← Nat.add_mul]; exact Nat.mul_le_mul_right _ hroom
      have h2 := run_append_room (P := P) w t ty e i ht hi g n cap cur hg a k c news hl hnews h1 hroom hfit
      rw [h2] at hr
      cases hr
      exact .inl rfl
    · have holds : ∀ j u, xs[j]? = some u → w.cell? ((⟨g, 0, none⟩ : Addr).add j) = some u := hown.cells (g := g) rfl
      have h2 := run_append_grow (P := P) w t ty e i z ht hi hz ⟨g, 0, none⟩ n cap xs hown.1 holds a k c news hl hnews (by omega) (by omega) (growslice_fits (by omega) hbytes)
      rw [h2] at hr
      cases hr
      exact .inr rfl

theorem run_append_none {t ty e : TypeId} {i : TypeInfo} {v : Value} {n size : Nat} {xs : List Value} (ht : P.underlying t = some (.slice e)) (hi : P.info? e = some i) (hown : w.ownsRow 0 e size v n xs) :
    (Builtin.append_ #[t, t] ty #[v, .slice none 0 0]).run P w = .ok v w := by
  rcases hown.2 with ⟨rfl, rfl⟩ | ⟨g, cap, cur, rfl, hbg, hg, hnc, hcm, hcs, htake⟩
  · simp [Builtin.append_, run_underlying ht, sizeOf, typeInfo, hi, Builtin.lenOf, Builtin.firstCells]
  · simp [Builtin.append_, run_underlying ht, sizeOf, typeInfo, hi, Builtin.lenOf, Builtin.firstCells, hnc, storeCells]

/-- What is appended, in memory. -/
theorem news_lst {K : Know} {sz k : Nat} {f : Nat → List C} {u : Value} (hk : Knows K w) (hsz : 0 < sz) (h : RelK K (.lst sz k f) u) :
    (u = .slice none 0 0 ∧ k = 0) ∨ ∃ a c, ∃ news : List Value, u = .slice (some a) k c ∧ news.length = k * sz ∧ (∀ j v, news[j]? = some v → w.cell? (a.add j) = some v) ∧ (∀ v, v ∈ news → v.oneCell' = true) ∧
      (∀ i, i < k → (f i).length = sz) ∧ RelLK K ((List.range k).map f).flatten news.toArray := by
  cases h with
  | lst0 => exact .inl ⟨rfl, rfl⟩
  | lst1 _ _ a => exact .inr ⟨a, 0, [], rfl, by simp, by simp, by simp, fun i hi => by omega, by simp, by simp⟩
  | lst _ _ _ b off cap arr T fz g hK hg hl hr ho hcap =>
    right
    have hdiv : ∀ j, j < k * sz → j / sz < k ∧ j % sz < sz ∧ j / sz * sz + j % sz = j := fun j hj =>
      ⟨(Nat.div_lt_iff_lt_mul hsz).2 hj, Nat.mod_lt _ hsz, by rw [Nat.mul_comm]; exact Nat.div_add_mod j sz⟩
    refine ⟨⟨b, off, none⟩, cap, (List.range (k * sz)).map fun j => g (j / sz) (j % sz), rfl, by simp, ?_, ?_, hl, ?_⟩
    · intro j v hj
      simp only [List.getElem?_map, Option.map_eq_some_iff] at hj
      obtain ⟨j', hj', rfl⟩ := hj
      have hlt : j < k * sz := by
        have := (List.getElem?_eq_some_iff.1 hj').1
        simpa using this
      have hje : j' = j := by simpa [hlt] using hj'.symm
      subst hje
      obtain ⟨h1, h2, h3⟩ := hdiv j' hlt
      rw [Addr.add_lit]
      have hcell := hg (j' / sz) (j' % sz) h1 h2
      rw [cell_of_row w b (off + j') arr T fz (hk _ _ hK)]
      rw [show off + j' = off + j' / sz * sz + j' % sz by omega]
      exact hcell
    · intro v hv
      simp only [List.mem_map, List.mem_range] at hv
      obtain ⟨j, hj, rfl⟩ := hv
      obtain ⟨h1, h2, h3⟩ := hdiv j hj
      exact ho _ _ h1 h2
    · refine rel_flat hsz (fun c hc => ?_) (by simp) (fun i j hi hj => ?_)
      · simp only [List.mem_map, List.mem_range] at hc
        obtain ⟨i, hi, rfl⟩ := hc
        exact hl i hi
      · simp only [List.length_map, List.length_range] at hi
        have hlt : i * sz + j < k * sz := by
          have : (i + 1) * sz ≤ k * sz := Nat.mul_le_mul_right _ hi
          rw [Nat.add_mul, Nat.one_mul] at this
          omega
        have e1 : ((List.range k).map f).getD i [] = f i := by simp [List.getD_eq_getElem?_getD, hi]
        have e2 : ((List.range (k * sz)).map fun j => g (j / sz) (j % sz)).toArray.getD (i * sz + j) undef = g i j := by
          have h1 : (i * sz + j) / sz = i := by
            rw [Nat.mul_comm, Nat.mul_add_div hsz, Nat.div_eq_of_lt hj]; rfl
          have h2 : (i * sz + j) % sz = j := by
            rw [Nat.mul_comm, Nat.mul_add_mod]; exact Nat.mod_eq_of_lt hj
          simp [hlt, h1, h2]
        rw [e1, e2]
        exact ⟨hr i j hi hj, ho i j hi hj⟩

theorem news_row {q e sz : Nat} {css : List (List C)} {hd : Value} (h : MRel E w q (.row e sz css)) (hrw : E.rw q = some (hd, css.length)) :
    (hd = .slice none 0 0 ∧ css.length = 0) ∨ ∃ a c, ∃ news : List Value, hd = .slice (some a) css.length c ∧ news.length = css.length * sz ∧ (∀ j v, news[j]? = some v → w.cell? (a.add j) = some v) ∧ (∀ v, v ∈ news → v.oneCell' = true) ∧
      RelLK E.K css.flatten news.toArray := by
  obtain ⟨hsz, hl, hd', xs, hrw', hown, hrel⟩ := h
  rw [hrw] at hrw'
  cases hrw'
  have hone := oneCells_of hrel
  rcases hown.2 with ⟨h0, h1⟩ | ⟨g, cap, cur, hv, hb, hg, rest⟩
  · exact .inl ⟨h0, h1⟩
  · exact .inr ⟨⟨g, 0, none⟩, cap, xs, hv, hown.1, hown.cells (by rw [hv]; rfl), by simpa using hone, hrel⟩

/-- A row has grown. -/
theorem Core.grown {n e sz k : Nat} {css news' : List (List C)} {hd v' : Value} {w' : World} {xs news : List Value} (hc : Core B E m w) (hm : m[n]? = some (some (.row e sz css))) (hrw : E.rw n = some (hd, css.length))
    (_hown : w.ownsRow 0 e sz hd css.length xs) (hx : RelLK E.K css.flatten xs.toArray) (hl : ∀ c, c ∈ news' → c.length = sz) (hk : news'.length = k) (hnew : RelLK E.K news'.flatten news.toArray)
    (h1 : w'.ownsRow 0 e sz v' (css.length + k) (xs ++ news)) (h2 : w.grownBy w' hd.ownBlock) (h3 : v'.ownBlock = hd.ownBlock ∨ v'.ownBlock = some w.heap.size) (h0 : k = 0 → v' = hd) :
    ∃ E', E.Le E' ∧ E'.K = E.K ∧ E'.rw n = some (v', css.length + k) ∧ Core B E' (m.set n (some (.row e sz (css ++ news')))) w' := by
  obtain ⟨hcn, hmn⟩ := hc.noCel hrw
  obtain ⟨hszp, hlens, _⟩ := hc.row hm
  subst hk
  let E' : Env := { E with rw := fun j => if j = n then some (v', css.length + news'.length) else E.rw j }
  have hrw' : E'.rw n = some (v', css.length + news'.length) := if_pos rfl
  have hle : E.Le E' := ⟨Know.le_refl _, fun _ _ h => h, fun _ _ h => h, rfl, fun r hd1 j h => by
      by_cases hr : r = n
      · subst hr
        rw [hrw] at h
        cases h
        exact ⟨v', _, hrw', by omega, fun e => h0 (by omega)⟩
      · exact ⟨hd1, j, (if_neg hr).trans h, Nat.le_refl _, fun _ => rfl⟩⟩
  have hholds : ∀ b, hd.ownBlock = some b → E.holds n b := fun b hb => .inr (.inr ⟨hd, _, hrw, hb⟩)
  refine ⟨E', hle, rfl, hrw', hc.step ⟨_, hm⟩ hle rfl (fun j hj => ⟨rfl, if_neg hj, rfl⟩) (fun b h => ?_) (fun x h => rfl) (fun b h => ?_) ?_ (fun b' h => ?_) h2.size h2.os h2.tape h2.output (fun b' hb' hh => ?_)⟩
  · rw [show E'.cel n = E.cel n from rfl, hcn] at h; cases h
  · rw [show E'.mp n = E.mp n from rfl, hmn] at h; cases h
  · refine ⟨hszp, fun c hcm => ?_, v', xs ++ news, by rw [List.length_append]; exact hrw', by rw [List.length_append]; exact h1, ?_⟩
    · rcases List.mem_append.1 hcm with h | h
      · exact hlens c h
      · exact hl c h
    · rw [List.flatten_append]
      have hxs := hx.1
      refine ⟨by rw [List.length_append, ← hnew.1, ← hx.1]; simp, fun j hj => ?_⟩
      rw [List.length_append] at hj
      rw [getElem?_toArray_getD]
      by_cases hjx : j < css.flatten.length
      · have := hx.2 j hjx
        rw [getElem?_toArray_getD] at this
        have hxl : j < xs.length := by simpa using (by omega : j < xs.toArray.size)
        simp only [List.getD_eq_getElem?_getD, List.getElem?_append_left hjx, List.getElem?_append_left hxl] at this ⊢
        exact this
      · have := hnew.2 (j - css.flatten.length) (by omega)
        rw [getElem?_toArray_getD] at this
        have hxl : xs.length = css.flatten.length := by simpa using hx.1
        simp only [List.getD_eq_getElem?_getD, List.getElem?_append_right (Nat.le_of_not_lt hjx), List.getElem?_append_right (show xs.length ≤ j by omega), hxl] at this ⊢
        exact this
  · have hb : v'.ownBlock = some b' := by
      rcases h with h | h | ⟨hd1, j, h, h'⟩
      · rw [show E'.cel n = E.cel n from rfl, hcn] at h; cases h
      · rw [show E'.mp n = E.mp n from rfl, hmn] at h; cases h
      · rw [hrw'] at h; cases h; exact h'
    refine ⟨?_, (h1.lt b' hb).2⟩
    rcases h3 with h3 | h3
    · exact .inr (hholds b' (by rw [← h3]; exact hb))
    · rw [h3] at hb
      cases hb
      exact .inl (Nat.le_refl _)
  · exact h2.block b' hb' (fun e => hh (hholds b' e.symm))

/-- The row is known from now on: its name stands for nothing. -/
theorem Core.frozen {n e sz : Nat} {css : List (List C)} {hd : Value} (hc : Core B E m w) (hW : ∀ b, ¬ B.W b) (hm : m[n]? = some (some (.row e sz css))) (hrw : E.rw n = some (hd, css.length)) :
    ∃ E', E.Le E' ∧ (∀ k f, k = css.length → (∀ i, i < k → f i = css.getD i []) → RelK E'.K (.lst sz k f) hd) ∧ Core B E' (m.set n (some .gone)) w := by
  obtain ⟨hcn, hmn⟩ := hc.noCel hrw
  have hM := hc.row hm
  obtain ⟨hszp, hlens, hd', xs, hrw', hown, hrel⟩ := hM
  rw [hrw] at hrw'
  cases hrw'
  let K' : Know := fun b => if hd.ownBlock = some b then w.heap[b]? else E.K b
  let E' : Env := { E with K := K', rw := fun j => if j = n then some (.slice none 0 0, css.length + 1) else E.rw j }
  have hrwn : E'.rw n = some (.slice none 0 0, css.length + 1) := if_pos rfl
  have hholds : ∀ b, hd.ownBlock = some b → E.holds n b := fun b hb => .inr (.inr ⟨hd, _, hrw, hb⟩)
  have hKle : E.K.le K' := fun b x h => by
    show (if hd.ownBlock = some b then _ else _) = _
    by_cases hb : hd.ownBlock = some b
    · rw [hc.apart n b (hholds b hb)] at h; cases h
    · rw [if_neg hb]; exact h
  have hle : E.Le E' := ⟨hKle, fun _ _ h => h, fun _ _ h => h, rfl, fun r hd1 j h => by
      by_cases hr : r = n
      · subst hr
        rw [hrw] at h
        cases h
        exact ⟨_, _, hrwn, by omega, fun e => by omega⟩
      · exact ⟨hd1, j, (if_neg hr).trans h, Nat.le_refl _, fun _ => rfl⟩⟩
  have hoth : ∀ j b, E'.holds j b → j ≠ n ∧ E.holds j b := fun j b h => by
    by_cases hj : j = n
    · subst hj
      rcases h with h | h | ⟨hd1, l, h, h'⟩
      · rw [show E'.cel j = E.cel j from rfl, hcn] at h; cases h
      · rw [show E'.mp j = E.mp j from rfl, hmn] at h; cases h
      · rw [hrwn] at h; cases h; cases h'
    · refine ⟨hj, ?_⟩
      rcases h with h | h | ⟨hd1, l, h, h'⟩
      · exact .inl h
      · exact .inr (.inl h)
      · exact .inr (.inr ⟨hd1, l, (if_neg hj).symm.trans h, h'⟩)
  refine ⟨E', hle, ?_, ?_⟩
  · intro k f hk hf
    subst hk
    rcases hown.2 with ⟨h0, h1⟩ | ⟨g, cap, cur, hv, hb, hg, hnc, hcm, hcs, htake⟩
    · rw [h0, h1]
      exact .lst0 sz f
    · obtain ⟨arr, hg2, hsz2, hcap2, hcl2, hcm2, hrel2⟩ := row_cells (hc.row hm) hrw hv
      have hKg : K' g = some (.cells arr e (0, 0)) := by
        show (if hd.ownBlock = some g then _ else _) = _
        rw [if_pos (by rw [hv]; rfl)]; exact hg2
      have := relK_lst_of (f := f) hKg (fun i hi => by
        rw [hf i hi]
        refine hlens _ ?_
        simp only [List.getD_eq_getElem?_getD, List.getElem?_eq_getElem hi, Option.getD_some]
        exact List.getElem_mem hi) hsz2 hcl2 (fun i j hi hj => by
          rw [hf i hi]
          obtain ⟨g1, g2⟩ := hrel2 i j hi hj
          exact ⟨g1.mono hKle, g2⟩)
      rw [hv]
      exact this
  · exact
    { know := fun b x h => by
        change (if hd.ownBlock = some b then w.heap[b]? else E.K b) = some x at h
        by_cases hb : hd.ownBlock = some b
        · rw [if_pos hb] at h; exact h
        · rw [if_neg hb] at h; exact hc.know b x h
      base := Know.le_trans hc.base hKle
      nk := fun b h1 h2 => by
        show (if hd.ownBlock = some b then _ else _) = _
        rw [if_neg]
        · exact hc.nk b h1 h2
        · intro hb
          rcases hc.new n b (hholds b hb) with h | h
          · exact absurd h1 (Nat.not_lt.2 h)
          · exact hW b h
      mem := fun j x hx => by
        rcases getElem?_set_some hx with ⟨rfl, hx2⟩ | ⟨hk, hx2⟩
        · cases hx2; exact ⟨_, _, hrwn, rfl⟩
        · exact (hc.mem j x hx2).mono hle (if_neg hk)
      cel := fun j b h => by
        by_cases hj : j = n
        · subst hj; rw [show E'.cel j = E.cel j from rfl, hcn] at h; cases h
        · rw [getElem?_set_ne hj]; exact hc.cel j b h
      rw := fun j x h => by
        by_cases hj : j = n
        · subst hj; exact ⟨_, getElem?_set_eq hm, rfl⟩
        · rw [getElem?_set_ne hj]; exact hc.rw j x ((if_neg hj).symm.trans h)
      mp := fun j b h => by
        by_cases hj : j = n
        · subst hj; rw [show E'.mp j = E.mp j from rfl, hmn] at h; cases h
        · rw [getElem?_set_ne hj]; exact hc.mp j b h
      inj := fun j j' b h h' => hc.inj j j' b (hoth j b h).2 (hoth j' b h').2
      apart := fun j b h => by
        obtain ⟨hj, h⟩ := hoth j b h
        show (if hd.ownBlock = some b then _ else _) = _
        rw [if_neg]
        · exact hc.apart j b h
        · intro hb
          exact hj (hc.inj j n b h (hholds b hb))
      new := fun j b h => hc.new j b (hoth j b h).2
      lt := fun j b h => hc.lt j b (hoth j b h).2
      os := hc.os
      tape := hc.tape
      output := hc.output
      size := hc.size
      old := hc.old
      j := hc.j
      y := hc.y
      dsk := fun D hD => ⟨hKle _ _ (hc.dsk D hD).1, (hc.dsk D hD).2⟩
      dsn := hc.dsn }

end Go.Sym
