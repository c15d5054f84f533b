import Derived.Test.YtakaeaekeeoicaaT19F
namespace Go.Proofs.Ytakaeaekeeoicaa
open Go.Sym
set_option linter.unusedVariables false
set_option linter.unusedSimpArgs false

/-! ### The greedy walk, plainly -/
def gi (l : List Sp) (x : Int) : List Int → List Int
  | [] => []
  | i :: O => if (l.getD i.toNat zSp).frm ≤ x then gi l x O else i :: gi l (l.getD i.toNat zSp).til O
def gr (x : Int) : List Sp → List Sp
  | [] => []
  | s :: S => if s.frm ≤ x then gr x S else s :: gr s.til S
theorem gi_gr (l : List Sp) : ∀ (O : List Int) (x : Int), (gi l x O).map (fun i => l.getD i.toNat zSp) = gr x (O.map fun i => l.getD i.toNat zSp)
  | [], x => rfl
  | i :: O, x => by
    rw [gi, List.map_cons, gr]
    split
    · exact gi_gr l O x
    · rw [List.map_cons, gi_gr l O]
theorem gi_sub (l : List Sp) : ∀ (O : List Int) (x i : Int), i ∈ gi l x O → i ∈ O
  | [], x, i, h => h
  | j :: O, x, i, h => by
    rw [gi] at h
    split at h
    · exact List.mem_cons_of_mem _ (gi_sub l O x i h)
    · rcases List.mem_cons.1 h with h | h
      · exact h ▸ List.mem_cons_self ..
      · exact List.mem_cons_of_mem _ (gi_sub l O _ i h)
def top (p : Pl) (x : Int) : Prop := if p.pts = [] then x = -40000 else x = lastI p.pts
theorem fold_gi {l : List Sp} (hv : valid l = true) : ∀ (O : List Int) (p : Pl) (x : Int), (∀ i, i ∈ O → 0 ≤ i ∧ i < l.length) → top p x →
    O.foldl (stepP l) p = ⟨p.pts ++ (gi l x O).map (keyS l), p.aps ++ gi l x O⟩
  | [], p, x, hm, ht => by simp [gi]
  | i :: O, p, x, hm, ht => by
    have hi := hm i (List.mem_cons_self ..)
    have hva := valid_at hv (i := i.toNat) (by omega)
    have hm' := fun j hj => hm j (List.mem_cons_of_mem i hj)
    have hs : skips p (l.getD i.toNat zSp) = decide ((l.getD i.toNat zSp).frm ≤ x) := by
      unfold top at ht
      split at ht
      · rename_i h
        rw [skips, h, decide_eq_false (by omega : ¬ (l.getD i.toNat zSp).frm ≤ x)]; rfl
      · rename_i h
        have : (p.pts.length : Int) > 0 := by have := List.length_pos_iff.2 h; omega
        rw [skips, decide_eq_true this, ht]; rfl
    rw [List.foldl_cons, gi, stepP, addP, hs]
    by_cases h : (l.getD i.toNat zSp).frm ≤ x
    · rw [if_pos (decide_eq_true h), if_pos h]; exact fold_gi hv O p x hm' ht
    · rw [if_neg (by rw [decide_eq_false h]; exact Bool.false_ne_true), if_neg h,
        fold_gi hv O _ (l.getD i.toNat zSp).til hm' (by rw [top, if_neg (by simp)]; rw [lastI_put])]
      simp [keyS]
def pln (l : List Sp) : Pl := planP l l.length
def spn (l : List Sp) : List Sp := (order l).map fun i => l.getD i.toNat zSp
theorem pln_eq {l : List Sp} (hv : valid l = true) : pln l = ⟨(gi l (-40000) (order l)).map (keyS l), gi l (-40000) (order l)⟩ := by
  rw [pln, planP, List.take_of_length_le (by rw [order_len]; exact Nat.le_refl _), fold_gi hv (order l) ⟨[], []⟩ (-40000) (fun i hi => order_mem.1 hi) rfl]
  simp
theorem pts_gr {l : List Sp} (hv : valid l = true) : (pln l).pts = (gr (-40000) (spn l)).map Sp.til := by
  rw [pln_eq hv, spn, ← gi_gr, List.map_map]; rfl
theorem cho_gr {l : List Sp} (hv : valid l = true) : chosen l (pln l).aps = gr (-40000) (spn l) := by
  rw [pln_eq hv, spn, ← gi_gr]; rfl
theorem pln_len {l : List Sp} (hv : valid l = true) : (pln l).pts.length = (pln l).aps.length := by rw [pln_eq hv]; simp
theorem spn_mem {l : List Sp} {s : Sp} : s ∈ spn l ↔ s ∈ l := by
  simp only [spn, List.mem_map, order_mem]
  constructor
  · rintro ⟨i, h, rfl⟩; simp [List.getD_eq_getElem?_getD, show i.toNat < l.length by omega]
  · intro h
    obtain ⟨j, hj, rfl⟩ := List.getElem_of_mem h
    exact ⟨(j : Int), by omega, by simp [List.getD_eq_getElem?_getD, hj]⟩
abbrev Srt (S : List Sp) : Prop := S.Pairwise fun a b => a.til ≤ b.til
abbrev Ok (S : List Sp) : Prop := ∀ s, s ∈ S → -39399 ≤ s.frm ∧ s.frm ≤ s.til
theorem spn_srt (l : List Sp) : Srt (spn l) := by
  rw [Srt, spn, List.pairwise_map]; exact isort_sorted (keyS l) (ixs l.length)
theorem spn_ok {l : List Sp} (hv : valid l = true) : Ok (spn l) := fun s hs => by
  have := valid_get hv (spn_mem.1 hs); omega

theorem gr_sub : ∀ (S : List Sp) (x : Int) (s : Sp), s ∈ gr x S → s ∈ S
  | [], x, s, h => h
  | a :: S, x, s, h => by
    rw [gr] at h
    split at h
    · exact List.mem_cons_of_mem _ (gr_sub S x s h)
    · rcases List.mem_cons.1 h with h | h
      · exact h ▸ List.mem_cons_self ..
      · exact List.mem_cons_of_mem _ (gr_sub S _ s h)
theorem gr_gt : ∀ (S : List Sp) (x : Int), Ok S → ∀ s, s ∈ gr x S → x < s.frm
  | [], x, ho, s, h => by cases h
  | a :: S, x, ho, s, h => by
    have ho' : Ok S := fun t ht => ho t (List.mem_cons_of_mem _ ht)
    have ha := ho a (List.mem_cons_self ..)
    rw [gr] at h
    split at h
    · exact gr_gt S x ho' s h
    · rcases List.mem_cons.1 h with h | h
      · subst h; omega
      · have := gr_gt S _ ho' s h; omega
theorem gr_pair : ∀ (S : List Sp) (x : Int), Ok S → (gr x S).Pairwise fun a b => a.til < b.frm
  | [], x, ho => List.Pairwise.nil
  | a :: S, x, ho => by
    have ho' : Ok S := fun t ht => ho t (List.mem_cons_of_mem _ ht)
    rw [gr]
    split
    · exact gr_pair S x ho'
    · exact List.pairwise_cons.2 ⟨fun b hb => gr_gt S _ ho' b hb, gr_pair S _ ho'⟩
theorem gr_meet : ∀ (S : List Sp) (x : Int), Ok S → Srt S → ∀ s, s ∈ S → s.frm ≤ x ∨ ∃ g, g ∈ gr x S ∧ hit s g.til = true
  | [], x, ho, hs, s, h => by cases h
  | a :: S, x, ho, hs, s, h => by
    have ho' : Ok S := fun t ht => ho t (List.mem_cons_of_mem _ ht)
    have ha := ho a (List.mem_cons_self ..)
    obtain ⟨hs1, hs2⟩ := List.pairwise_cons.1 hs
    rw [gr]
    by_cases hx : a.frm ≤ x
    · rw [if_pos hx]
      rcases List.mem_cons.1 h with h | h
      · subst h; exact .inl hx
      · exact gr_meet S x ho' hs2 s h
    · rw [if_neg hx]
      rcases List.mem_cons.1 h with h | h
      · subst h; exact .inr ⟨s, List.mem_cons_self .., by simp [hit]; omega⟩
      · rcases gr_meet S a.til ho' hs2 s h with h2 | ⟨g, hg, h2⟩
        · have := hs1 s h
          exact .inr ⟨a, List.mem_cons_self .., by simp [hit]; omega⟩
        · exact .inr ⟨g, List.mem_cons_of_mem _ hg, h2⟩

/-- As many points as there are spans that are pairwise disjoint, at least. -/
theorem pigeon : ∀ (D : List Sp) (Q : List Int), (D.Pairwise fun a b => dj a b = true) → (∀ s, s ∈ D → Q.any (hit s) = true) → D.length ≤ Q.length
  | [], Q, _, _ => by simp
  | d :: D, Q, hp, hm => by
    obtain ⟨h1, h2⟩ := List.pairwise_cons.1 hp
    obtain ⟨q, hq, hd⟩ := List.any_eq_true.1 (hm d (List.mem_cons_self ..))
    have hl := List.length_erase_of_mem hq
    have hpos : 0 < Q.length := List.length_pos_of_mem hq
    have := pigeon D (Q.erase q) h2 fun s hs => by
      obtain ⟨r, hr, hrs⟩ := List.any_eq_true.1 (hm s (List.mem_cons_of_mem _ hs))
      refine List.any_eq_true.2 ⟨r, (List.mem_erase_of_ne fun hrq => ?_).2 hr, hrs⟩
      subst hrq
      have := h1 s hs
      simp only [hit, dj, Bool.and_eq_true, Bool.or_eq_true, decide_eq_true_eq] at hd hrs this
      omega
    simp only [List.length_cons]; omega
theorem pln_meets {l : List Sp} (hv : valid l = true) : meets l (pln l).pts = true := by
  refine List.all_eq_true.2 fun s hs => ?_
  rcases gr_meet (spn l) (-40000) (spn_ok hv) (spn_srt l) s (spn_mem.2 hs) with h | ⟨g, hg, h⟩
  · have := valid_get hv hs; omega
  · rw [pts_gr hv]
    exact List.any_eq_true.2 ⟨g.til, List.mem_map_of_mem hg, h⟩
theorem pln_dis {l : List Sp} (hv : valid l = true) : (chosen l (pln l).aps).Pairwise fun a b => dj a b = true := by
  rw [cho_gr hv]
  refine (gr_pair _ _ (spn_ok hv)).imp fun {a b} h => ?_
  simp [dj, h]
/-- Whatever meets a list has as many points as its plan, at least. -/
theorem pln_least {l : List Sp} (hv : valid l = true) {Q : List Int} (hq : meets l Q = true) : (pln l).pts.length ≤ Q.length := by
  have h1 := pigeon (chosen l (pln l).aps) Q (pln_dis hv) fun s hs => by
    rw [cho_gr hv] at hs
    exact List.all_eq_true.1 hq s (spn_mem.1 (gr_sub _ _ _ hs))
  rw [pln_len hv]; simpa [chosen] using h1
theorem pln_chk {l : List Sp} (hv : valid l = true) : Chk l (pln l).pts (pln l).aps where
  val := hv
  len := pln_len hv
  inc := fun i hi => by
    rw [pts_gr hv] at hi ⊢
    have hi' : i + 1 < (gr (-40000) (spn l)).length := by simpa using hi
    have h1 := List.pairwise_iff_getElem.1 (gr_pair (spn l) (-40000) (spn_ok hv)) i (i + 1) (by omega) hi' (by omega)
    have h2 := spn_ok hv _ (gr_sub _ _ _ (List.getElem_mem hi'))
    simp only [List.getD_eq_getElem?_getD, List.getElem?_map, hi', show i < (gr (-40000) (spn l)).length by omega, List.getElem?_eq_getElem, Option.map_some, Option.getD_some]
    omega
  met := pln_meets hv
  inn := fun i hi => by
    have h1 : (pln l).aps.getD i 0 ∈ (pln l).aps := by simp [List.getD_eq_getElem?_getD, hi]
    have h2 : ∀ j, j ∈ (pln l).aps → j ∈ order l := by
      intro j hj; rw [pln_eq hv] at hj; exact gi_sub l _ _ j hj
    exact order_mem.1 (h2 _ h1)
  dis := (dis_pair l _).2 (pln_dis hv)
theorem chk_len {l : List Sp} {pts aps : List Int} (h : Chk l pts aps) : pts.length = (pln l).pts.length := by
  have h1 := pln_least h.val h.met
  have h2 := pigeon (chosen l aps) (pln l).pts ((dis_pair l aps).1 h.dis) fun s hs => by
    simp only [chosen, List.mem_map] at hs
    obtain ⟨a, ha, rfl⟩ := hs
    obtain ⟨j, hj, rfl⟩ := List.getElem_of_mem ha
    have := h.inn j hj
    rw [show aps.getD j 0 = aps[j] by simp [List.getD_eq_getElem?_getD, hj]] at this
    exact List.all_eq_true.1 (pln_meets h.val) _ (by simp [List.getD_eq_getElem?_getD, show (aps[j]).toNat < l.length by omega])
  have h3 := h.len
  simp only [chosen, List.length_map] at h2
  omega

/-! ### The points are told by the members -/
theorem gr_low {x y : Int} : ∀ {S : List Sp}, (∀ s, s ∈ S → x < s.frm) → (∀ s, s ∈ S → y < s.frm) → gr x S = gr y S
  | [], _, _ => rfl
  | a :: S, hx, hy => by
    have h1 := hx a (List.mem_cons_self ..)
    have h2 := hy a (List.mem_cons_self ..)
    rw [gr, gr, if_neg (by omega), if_neg (by omega)]
theorem gr_unf : ∀ (S : List Sp) (x : Int), Ok S → Srt S → ((∀ s, s ∈ S → s.frm ≤ x) ∧ gr x S = []) ∨
    ∃ g, g ∈ S ∧ x < g.frm ∧ (∀ s, s ∈ S → x < s.frm → g.til ≤ s.til) ∧ gr x S = g :: gr g.til S
  | [], x, ho, hs => .inl ⟨fun s h => (by cases h), rfl⟩
  | a :: S, x, ho, hs => by
    have ho' : Ok S := fun t ht => ho t (List.mem_cons_of_mem _ ht)
    have ha := ho a (List.mem_cons_self ..)
    obtain ⟨hs1, hs2⟩ := List.pairwise_cons.1 hs
    by_cases hx : a.frm ≤ x
    · rw [show gr x (a :: S) = gr x S by rw [gr, if_pos hx]]
      rcases gr_unf S x ho' hs2 with ⟨h1, h2⟩ | ⟨g, hg, h1, h2, h3⟩
      · refine .inl ⟨fun s h => ?_, h2⟩
        rcases List.mem_cons.1 h with h | h
        · subst h; exact hx
        · exact h1 s h
      · refine .inr ⟨g, List.mem_cons_of_mem _ hg, h1, fun s h hxs => ?_, ?_⟩
        · rcases List.mem_cons.1 h with h | h
          · subst h; omega
          · exact h2 s h hxs
        · rw [h3, show gr g.til (a :: S) = gr g.til S by rw [gr, if_pos (by have := ho' g hg; omega)]]
    · refine .inr ⟨a, List.mem_cons_self .., by omega, fun s h hxs => ?_, ?_⟩
      · rcases List.mem_cons.1 h with h | h
        · subst h; omega
        · exact hs1 s h
      · rw [show gr x (a :: S) = a :: gr a.til S by rw [gr, if_neg hx], show gr a.til (a :: S) = gr a.til S by rw [gr, if_pos (by omega)]]
def mvS (c : Int) (s : Sp) : Sp := ⟨s.frm + c, s.til + c⟩
theorem gr_shift (c : Int) : ∀ (n : Nat) (S T : List Sp) (x : Int), Ok S → Srt S → Ok T → Srt T → (∀ s, s ∈ S → mvS c s ∈ T) → (∀ t, t ∈ T → ∃ s, s ∈ S ∧ t = mvS c s) →
    (gr x S).length ≤ n → (gr (x + c) T).map Sp.til = (gr x S).map fun s => s.til + c
  | n, S, T, x, oS, sS, oT, sT, h1, h2, hn => by
    rcases gr_unf S x oS sS with ⟨a1, a2⟩ | ⟨g, hg, a1, a2, a3⟩
    · rcases gr_unf T (x + c) oT sT with ⟨b1, b2⟩ | ⟨k, hk, b1, b2, b3⟩
      · rw [a2, b2]; rfl
      · obtain ⟨s, hs, rfl⟩ := h2 k hk
        have := a1 s hs
        simp only [mvS] at b1; omega
    · rcases gr_unf T (x + c) oT sT with ⟨b1, b2⟩ | ⟨k, hk, b1, b2, b3⟩
      · have := b1 _ (h1 g hg)
        simp only [mvS] at this; omega
      · obtain ⟨s, hs, rfl⟩ := h2 k hk
        have c1 := a2 s hs (by simp only [mvS] at b1; omega)
        have c2 := b2 _ (h1 g hg) (by simp only [mvS]; omega)
        simp only [mvS] at c2
        rw [a3] at hn ⊢
        rw [b3]
        cases n with
        | zero => simp at hn
        | succ n =>
          have ih := gr_shift c n S T g.til oS sS oT sT h1 h2 (by simpa using hn)
          rw [List.map_cons, List.map_cons, show (mvS c s).til = g.til + c by simp only [mvS]; omega, ih]
theorem gr_same {S T : List Sp} {x : Int} (oS : Ok S) (sS : Srt S) (oT : Ok T) (sT : Srt T) (h : ∀ s, s ∈ S ↔ s ∈ T) : (gr x T).map Sp.til = (gr x S).map Sp.til := by
  have e : ∀ s, mvS 0 s = s := fun s => by simp [mvS]
  have := gr_shift 0 (gr x S).length S T x oS sS oT sT (fun s hs => by rw [e]; exact (h s).1 hs) (fun t ht => ⟨t, (h t).2 ht, (e t).symm⟩) (Nat.le_refl _)
  simpa using this
theorem pts_same {a b : List Sp} (ha : valid a = true) (hb : valid b = true) (h : ∀ s, s ∈ a ↔ s ∈ b) : (pln a).pts = (pln b).pts := by
  rw [pts_gr ha, pts_gr hb]
  exact gr_same (spn_ok hb) (spn_srt b) (spn_ok ha) (spn_srt a) fun s => by rw [spn_mem, spn_mem, h]
theorem pts_shift (c : Int) {a b : List Sp} (ha : valid a = true) (hb : valid b = true) (h1 : ∀ s, s ∈ a → mvS c s ∈ b) (h2 : ∀ t, t ∈ b → ∃ s, s ∈ a ∧ t = mvS c s) :
    (pln b).pts = (pln a).pts.map (· + c) := by
  rw [pts_gr ha, pts_gr hb, List.map_map]
  have := gr_shift c _ (spn a) (spn b) (-40000) (spn_ok ha) (spn_srt a) (spn_ok hb) (spn_srt b) (fun s hs => spn_mem.2 (h1 s (spn_mem.1 hs))) (fun t ht => by
    obtain ⟨s, hs, e⟩ := h2 t (spn_mem.1 ht)
    exact ⟨s, spn_mem.2 hs, e⟩) (Nat.le_refl _)
  rw [show ((fun x => x + c) ∘ Sp.til) = fun s => s.til + c from rfl, ← this]
  congr 1
  by_cases hc : c ≤ 0
  · refine gr_low (fun s hs => ?_) (fun s hs => ?_)
    · have := spn_ok hb s hs; omega
    · have := spn_ok hb s hs; omega
  · refine gr_low (fun s hs => ?_) (fun s hs => ?_)
    · have := spn_ok hb s hs; omega
    · obtain ⟨t, ht, rfl⟩ := h2 s (spn_mem.1 hs)
      have := valid_get ha ht
      simp only [mvS]; omega
theorem gr_app {x : Int} : ∀ {A B : List Sp}, (∀ a, a ∈ A → ∀ b, b ∈ B → a.til < b.frm) → (∀ b, b ∈ B → x < b.frm) → ∀ {y : Int}, (∀ b, b ∈ B → y < b.frm) → gr y (A ++ B) = gr y A ++ gr x B
  | [], B, h, hx, y, hy => by rw [List.nil_append]; exact gr_low hy hx
  | a :: A, B, h, hx, y, hy => by
    have h' := fun b hb => h b (List.mem_cons_of_mem a hb)
    rw [List.cons_append, gr, gr]
    split
    · exact gr_app h' hx hy
    · rw [gr_app h' hx (h a (List.mem_cons_self ..))]; rfl
theorem pts_app {a b : List Sp} (ha : valid a = true) (hb : valid b = true) (hab : valid (a ++ b) = true) (h : ∀ s, s ∈ a → ∀ t, t ∈ b → s.til < t.frm) : (pln (a ++ b)).pts = (pln a).pts ++ (pln b).pts := by
  rw [pts_gr ha, pts_gr hb, pts_gr hab, ← List.map_append, ← gr_app (x := -40000) (A := spn a) (B := spn b) (fun s hs t ht => h s (spn_mem.1 hs) t (spn_mem.1 ht)) (fun t ht => by have := spn_ok hb t ht; omega) (fun t ht => by have := spn_ok hb t ht; omega)]
  refine gr_same (fun s hs => ?_) ?_ (spn_ok hab) (spn_srt _) fun s => ?_
  · rcases List.mem_append.1 hs with hs | hs
    · exact spn_ok ha s hs
    · exact spn_ok hb s hs
  · refine List.pairwise_append.2 ⟨spn_srt a, spn_srt b, fun s hs t ht => ?_⟩
    have h1 := h s (spn_mem.1 hs) t (spn_mem.1 ht)
    have h2 := spn_ok hb t ht
    omega
  · rw [List.mem_append, spn_mem, spn_mem, spn_mem, List.mem_append]
end Go.Proofs.Ytakaeaekeeoicaa
