/-
  THE SYMBOLIC LAYER, PART O: the rule of a loop over a function.
-/
import Derived.Test.YtaaplpbjjnechaaSymN
namespace Go.Sym
open Go.RowKit

variable {P : Program} {B : Base P} {E : Env} {w : World}

/-- The jump that a round has left. -/
def Left (Q : Exit → S → Prop) (c : Code) (s : S) : Prop := s.noY = true ∧ ((c = .ret ∧ Q .ret s) ∨ ∃ id, c = .exit id ∧ Q (.exit id) s)

theorem unpin_noYt : ∀ {l : List SV} {k : Nat}, noYt l = true → noYt (unpinAll l k) = true := by
  intro l
  induction l with
  | nil => intro k _; rfl
  | cons x l ih =>
    intro k h
    simp only [noYt, Bool.and_eq_true] at h
    cases x with
    | pin j x =>
      simp only [unpinAll, noYt, Bool.and_eq_true]
      refine ⟨?_, ih h.2⟩
      split
      · exact h.1
      · rfl
    | _ => simp only [unpinAll, noYt, Bool.and_eq_true]; exact ⟨rfl, ih h.2⟩
theorem unpin_noY {s : S} {n : Nat} (h : s.fits n = true) : (unpin s).noY = true := by
  simp only [S.fits, S.noY, Bool.and_eq_true] at h
  simp only [S.noY, unpin, Bool.and_eq_true]
  exact ⟨unpin_noYt h.1.1, h.1.2⟩

def loopRec (fn : FuncId) (tmps : Array Value) (ps : Array Tmp) (assign body : Code) (D : Nat) (st : LoopState) (pe : Option Code) : Loop := { state := st, pending := pe, fn := fn, tmps := tmps, params := ps, assign := assign, body := body, defers := D }

/-- What is true between rounds. -/
def RangeJ (B : Base P) (E0 : Env) (a : Act) (D l : Nat) (rec : LoopState → Option Code → Loop) (Q : Exit → S → Prop) (I : Nat → S) (k n : Nat) (i : Nat) (K : Know) (W : World) : Prop :=
  (i ≤ k ∧ Mid B E0 a D l (.loop (rec .ready none)) (I i) K W) ∨ (i = k + 1 ∧ k < n ∧ ∃ c sx, Left Q c sx ∧ Mid B E0 a D l (.loop (rec .done (some c))) sx K W)

/-- What is held are cells, or a map. -/
theorem Core.held {m : List (Option MO)} {n b : Nat} (hc : Core B E m w) (h : E.holds n b) : ∃ o, w.heap[b]? = some o ∧ walks o = false := by
  rcases h with h | h | ⟨hd, len, h, h2⟩
  · obtain ⟨cs, h1 | h1⟩ := hc.cel n b h
    · obtain ⟨b', arr, T, g1, g2, _⟩ := hc.mem n _ h1
      rw [h] at g1; cases g1
      exact ⟨_, g2, rfl⟩
    · obtain ⟨b', arr, T, g1, g2, _⟩ := hc.mem n _ h1
      rw [h] at g1; cases g1
      exact ⟨_, g2, rfl⟩
  · obtain ⟨kagg, agg, ents, h1⟩ := hc.mp n b h
    obtain ⟨b', es, g1, g2, _⟩ := hc.mem n _ h1
    rw [h] at g1; cases g1
    exact ⟨_, g2, rfl⟩
  · obtain ⟨o, h1, h3⟩ := hc.rw n _ h
    cases o with
    | row e sz css =>
      obtain ⟨_, _, hd', xs, g1, g2, _⟩ := hc.mem n _ h1
      rw [h] at g1; cases g1
      rcases g2.2 with ⟨rfl, _⟩ | ⟨g, cap, cur, rfl, _, g3, _⟩
      · cases h2
      · cases h2; exact ⟨_, g3, rfl⟩
    | bag e sz css =>
      obtain ⟨css', _, _, _, hd', xs, g1, g2, _⟩ := hc.mem n _ h1
      rw [h] at g1; cases g1
      rcases g2.2 with ⟨rfl, _⟩ | ⟨g, cap, cur, rfl, _, g3, _⟩
      · cases h2
      · cases h2; exact ⟨_, g3, rfl⟩
    | gone =>
      obtain ⟨hd', len', g1, g2⟩ := hc.mem n _ h1
      rw [h] at g1; cases g1
      rw [h2] at g2; cases g2
    | _ => cases h3

theorem zip_fold (ps : Array Tmp) (vs : Array Value) (tmps : Array Value) : (ps.zip vs).foldl (fun t (p, v) => t.setIfInBounds p v) tmps = (ps.toList.zip vs.toList).foldl (fun t (p, v) => t.setIfInBounds p v) tmps := by
  rw [← Array.foldl_toList, Array.toList_zip]

theorem range_yields {E0 : Env} {a : Act} {D l : Nat} {fn : FuncId} {ps : Array Tmp} {assign body : Code} {Q : Exit → S → Prop} {I : Nat → S} {xs : List (List CV)} {k : Nat} (hDl : D ≠ l) (hl0 : E0.c.w0.heap.size ≤ l)
    (hps : ∀ i, i < xs.length → (xs.getD i []).length = ps.size) (hY : ∀ i, i ≤ k → (I i).noY = true)
    (round : ∀ i, i < xs.length → i ≤ k → ∀ B1 : Base P, Run P B1 (startR (I i) ps.toList (xs.getD i [])) [assign] (fun e s1 => e = .normal ∧ s1.noY = true ∧ ∀ B2 : Base P, Run P B2 s1 [body] (roundR P Q I i k))) :
    YieldsTo P l xs k (RangeJ B E0 a D l (loopRec fn a.tmps ps assign body D) Q I k xs.length) := by
  intro i K W K' W' vs hJ hsi hi hik hvs hx
  rcases hJ with ⟨_, E1, rfl, hcE, hs, hl, hD, hKl, hKD, hnl, hnD⟩ | ⟨h, _⟩
  case inr => omega
  have hlW : l < W.heap.size := (Array.getElem?_eq_some_iff.1 hl).1
  have hDW : D < W.heap.size := (Array.getElem?_eq_some_iff.1 hD).1
  have hl' := (hsi.old l hlW).trans hl
  refine ⟨fn, _, assign, body, run_yield hl' (by rw [hvs, hps i hi]; rfl), ?_⟩
  have e0 : (((loopRec fn a.tmps ps assign body D .ready none).params.zip vs).foldl (fun tmps (t, a) => tmps.setIfInBounds t a) (loopRec fn a.tmps ps assign body D .ready none).tmps) = (ps.toList.zip vs.toList).foldl (fun t (p, v) => t.setIfInBounds p v) a.tmps := zip_fold ps vs a.tmps
  rw [e0]
  refine roundIn_of_wpIn trivial ?_
  have hst := round_start (l := l) (ps := ps.toList) (us := vs.toList) hs (hY i hik) hsi (by simpa using hvs) (fun j hj => by simpa [List.getD_eq_getElem?_getD] using hx j hj)
  refine wpIn_mono (run_tri (round i hi hik _) _ _ _ hst) ?_
  rintro e a1 w1 ⟨Ea, s1, ⟨rfl, hn1, hb2⟩, hs1⟩
  have hca := hs1.core
  obtain ⟨hj1, hj1'⟩ : Ea.c.K0 = K' ∧ Ea.c.w0 = W' := hca.j
  have sz1 : W.heap.size ≤ W'.heap.size := hsi.size
  have notheld : ∀ n, ¬ Ea.holds n l := fun n h => by
    have := hca.new n l h
    rw [hj1'] at this
    rcases this with h1 | ⟨n', h1⟩
    · omega
    · exact hnl n' h1
  have hl1 : w1.heap[l]? = some (.loop (loopRec fn a.tmps ps assign body D .ready none)) := by
    have := hca.old l (by rw [hj1']; omega) (fun ⟨n', h1⟩ => hnl n' h1)
    rw [hj1'] at this
    exact this.trans hl'
  have kl1 : Ea.K l = none := hca.nk l (by rw [hj1']; omega) (by rw [hj1]; exact hsi.nk l hlW hKl)
  refine ⟨_, run_beginRound hl1 rfl, ?_⟩
  refine wpIn_mono (run_tri (hb2 _) _ _ _ (round_body (o := .loop { loopRec fn a.tmps ps assign body D .ready none with state := .busy }) hs1 hn1 kl1 notheld)) ?_
  rintro e a2 w2 ⟨Eb, s2, hq2, hs2⟩
  have back : ∀ (s' : S) (o : Obj), Wk P s2 s' → s'.fits (I i).t.length = true → ∃ K'', K'.le K'' ∧ (∀ b, b < W'.heap.size → K' b = none → K'' b = none) ∧ Knows K'' (w2.putObj l o) ∧ Mid B E0 a D l o (unpin s') K'' (w2.putObj l o) ∧ w2.heap[l]? = some (.loop { loopRec fn a.tmps ps assign body D .ready none with state := .busy }) ∧
      (∀ (b : Nat) (o' : Obj), W'.heap[b]? = some o' → walks o' = true → (w2.putObj l o).heap[b]? = some o') := by
    intro s' o hw hf
    obtain ⟨Eb', hs3, _⟩ := hw _ _ _ _ hs2
    obtain ⟨h1, h2, h3, h4, h5⟩ := round_back (o := o) hcE hs hsi hca hs3 hf hl0 hlW hDW hDl hD hKl hKD hnl hnD
    have hsz : W'.heap.size ≤ w1.heap.size := by have := hca.size; rw [hj1'] at this; exact this
    refine ⟨Eb'.K, h2, h3, h4, h1, ?_, fun b o' hb hwk => ?_⟩
    · rw [h5]
      exact World.putObj_heap_same (by omega)
    · have hbW : b < W'.heap.size := (Array.getElem?_eq_some_iff.1 hb).1
      have hne1 : ∀ n, ¬ E1.holds n b := fun n h => by
        obtain ⟨o2, g1, g2⟩ := hs.core.held h
        have g3 := hsi.old b (hs.core.lt n b h)
        rw [hb, g1] at g3
        cases g3
        rw [g2] at hwk; cases hwk
      have hbl : b ≠ l := fun e => by
        rw [e, hl'] at hb
        cases hb
        cases hwk
      have hnea : ¬ ∃ n, Ea.holds n b := fun ⟨n, h⟩ => by
        have := hca.new n b h
        rw [hj1'] at this
        rcases this with h1 | ⟨n', h1⟩
        · omega
        · exact hne1 n' h1
      have k1 : w1.heap[b]? = some o' := by
        have := hca.old b (by rw [hj1']; omega) (fun ⟨n', h1⟩ => hne1 n' h1)
        rw [hj1'] at this
        exact this.trans hb
      obtain ⟨hj2, hj2'⟩ : Eb'.c.K0 = Ea.K ∧ Eb'.c.w0 = w1.putObj l (.loop { loopRec fn a.tmps ps assign body D .ready none with state := .busy }) := hs3.core.j
      have k2 := hs3.core.old b (by rw [hj2', World.putObj_size]; omega) hnea
      rw [hj2', World.putObj_heap_other hbl] at k2
      rw [World.putObj_heap_other hbl]
      exact k2.trans k1
  cases e with
  | normal =>
    obtain ⟨hlt, s', hw, hf, hI⟩ := hq2
    obtain ⟨K'', h1, h2, h3, h4, h5, h6⟩ := back s' (.loop (loopRec fn a.tmps ps assign body D .ready none)) hw hf
    refine ⟨_, _, run_endRound none h5, ?_, h6, K'', h1, h2, h3, .inl ⟨by omega, ?_⟩⟩
    · simp [hlt]
    · obtain ⟨E3, g1, g2, g3, g4, g5, g6, g7, g8, g9⟩ := h4
      obtain ⟨E4, f1, f2, f3, f4⟩ := hI _ _ _ _ g3
      exact ⟨E4, f2.trans g1, f3.trans g2, f1, g4, g5, g6, g7, fun n h => g8 n (f4 n l h), fun n h => g9 n (f4 n D h)⟩
  | ret =>
    obtain ⟨rfl, s', hw, hf, hI⟩ := hq2
    obtain ⟨K'', h1, h2, h3, h4, h5, h6⟩ := back s' (.loop (loopRec fn a.tmps ps assign body D .done (some .ret))) hw hf
    refine ⟨_, _, run_endRound (some .ret) h5, ?_, h6, K'', h1, h2, h3, .inr ⟨rfl, hi, .ret, _, ⟨unpin_noY hf, .inl ⟨rfl, hI⟩⟩, h4⟩⟩
    simp
  | exit id =>
    obtain ⟨rfl, s', hw, hf, hI⟩ := hq2
    obtain ⟨K'', h1, h2, h3, h4, h5, h6⟩ := back s' (.loop (loopRec fn a.tmps ps assign body D .done (some (.exit id)))) hw hf
    refine ⟨_, _, run_endRound (some (.exit id)) h5, ?_, h6, K'', h1, h2, h3, .inr ⟨rfl, hi, .exit id, _, ⟨unpin_noY hf, .inr ⟨id, rfl, hI⟩⟩, h4⟩⟩
    simp
  | goto t => exact hq2.elim
  | panic ch => exact hq2.elim
  | outgrown => exact hq2.elim

/-- The loop ends: what has been done with own memory stays; the block of the rounds' deferred calls is the activation's. -/
theorem range_end {E0 : Env} {a : Act} {D l : Nat} {rec : Obj} {o : Obj} {s : S} {K1 K' : Know} {w1 w' : World} (hm : Mid B E0 a D l rec s K1 w1) (hsi : Since K1 w1 K' w') (hn : s.noY = true) (hDl : D ≠ l) (hl0 : E0.c.w0.heap.size ≤ l) (hD0 : E0.c.w0.heap.size ≤ D) (hN : B.N ≤ D) (hfn : B.fn = true) :
    ∃ E', Sim B E' s { a with defers := markOf D :: a.defers } (w'.putObj l o) := by
  obtain ⟨E1, rfl, hcE, hs, hl, hD, hKl, hKD, hnl, hnD⟩ := hm
  have hc := hs.core
  simp only [S.noY, Bool.and_eq_true] at hn
  have hlW : l < w1.heap.size := (Array.getElem?_eq_some_iff.1 hl).1
  have hDW : D < w1.heap.size := (Array.getElem?_eq_some_iff.1 hD).1
  have kl : K' l = none := hsi.nk l hlW hKl
  have kD : K' D = none := hsi.nk D hDW hKD
  have hw0 : E0.c.w0.heap.size ≤ w1.heap.size := by have := hc.size; rw [hcE] at this; exact this
  have keep : ∀ b, b < w1.heap.size → b ≠ l → (w'.putObj l o).heap[b]? = w1.heap[b]? := fun b hb hbl => by rw [World.putObj_heap_other hbl]; exact hsi.old b hb
  refine ⟨E1.re (fun b => if b = D then some (.deferred (some [])) else K' b) { E0.c with ds := D :: E0.c.ds }, ?_, hs.size, ?_, fun k x hk => ?_⟩
  · refine hc.re hn.2 (fun b x hb => ?_) (fun b x hb => ?_) (fun b x hb => ?_) (fun b hb h => ?_) (fun n b h => ?_) (fun n b h => ?_) (fun n b h => ?_) ?_ ?_ ?_ ?_ (fun b hb hbW => ?_) ?_ ?_ (fun D' hD' => ?_) ?_
    · have : b ≠ D := fun e => by rw [e, hKD] at hb; cases hb
      simp only [if_neg this]
      exact hsi.le b x hb
    · by_cases hbD : b = D
      · subst hbD
        simp only [if_pos] at hb
        cases hb
        rw [keep b hDW hDl]; exact hD
      · simp only [if_neg hbD] at hb
        rw [World.putObj_heap_other (fun e => by rw [e, kl] at hb; cases hb)]
        exact hsi.know b x hb
    · have h1 := hc.base
      rw [hcE] at h1
      have h2 := h1 b x hb
      have : b ≠ D := fun e => by rw [e, hKD] at h2; cases h2
      simp only [if_neg this]
      exact hsi.le b x h2
    · have h1 := hc.nk b (by rw [hcE]; exact hb) (by rw [hcE]; exact h)
      have hbD : b ≠ D := fun e => by
        subst e
        exact absurd hb (by show ¬ b < E0.c.w0.heap.size; omega)
      simp only [if_neg hbD]
      exact hsi.nk b (by have : b < E0.c.w0.heap.size := hb; omega) h1
    · exact keep b (hc.lt n b h) (fun e => hnl n (e ▸ h))
    · have hbD : b ≠ D := fun e => hnD n (e ▸ h)
      simp only [if_neg hbD]
      exact hsi.nk b (hc.lt n b h) (hc.apart n b h)
    · have := hc.new n b h
      rw [hcE] at this
      exact this
    · have h0 := hc.os; rw [hcE] at h0; exact hsi.os.trans h0
    · have h0 := hc.tape; rw [hcE] at h0; exact hsi.tape.trans h0
    · have h0 := hc.output; rw [hcE] at h0; exact hsi.output.trans h0
    · rw [World.putObj_size]; exact Nat.le_trans hw0 hsi.size
    · have h0 := hc.old b (by rw [hcE]; exact hb) hbW
      rw [hcE] at h0
      have hb' : b < E0.c.w0.heap.size := hb
      exact (keep b (by omega) (by omega)).trans h0
    · have := hc.j; rw [hcE] at this; exact this
    · have := hc.y; rw [hcE] at this; exact this
    · rcases List.mem_cons.1 hD' with rfl | hD'
      · exact ⟨by simp, hN, hfn⟩
      · have := hc.dsk D' (by rw [hcE]; exact hD')
        have hne : D' ≠ D := fun e => by rw [e, hKD] at this; cases this.1
        simp only [if_neg hne]
        exact ⟨hsi.le _ _ this.1, this.2⟩
    · refine List.nodup_cons.2 ⟨fun hm => ?_, by have := hc.dsn; rw [hcE] at this; exact this⟩
      have := hc.dsk D (by rw [hcE]; exact hm)
      rw [hKD] at this
      cases this.1
  · have := hs.defers
    rw [hcE] at this
    show markOf D :: a.defers = _
    rw [this]; rfl
  · refine relSV_re (fun b x hb => ?_) (by rw [hcE]) (noYt_get hn.1 hk) (hs.slot k x hk)
    have : b ≠ D := fun e => by rw [e, hKD] at hb; cases hb
    simp only [if_neg this]
    exact hsi.le b x hb

/-- **A LOOP OVER A FUNCTION**: k is the round that leaves it, or the number of rounds. -/
theorem run_rangeFunc {s : S} {g : Operand} {ps : Array Tmp} {assign body : Code} {cs : List Code} {Q : Exit → S → Prop} {f : FuncId} {caps : List C} {xs : List (List CV)} (hB : B.r = none) (hBf : B.fn = true) (hg : s.ev [] g = some (.v (.c (.clo f caps)))) (hit : FIter P f caps xs)
    (hps : ∀ i, i < xs.length → (xs.getD i []).length = ps.size) (k : Nat) (hk : k ≤ xs.length) (I : Nat → S) (hI : Wk P s (I 0)) (hY : ∀ i, i ≤ k → (I i).noY = true)
    (round : ∀ i, i < xs.length → i ≤ k → ∀ B1 : Base P, Run P B1 (startR (I i) ps.toList (xs.getD i [])) [assign] (fun e s1 => e = .normal ∧ s1.noY = true ∧ ∀ B2 : Base P, Run P B2 s1 [body] (roundR P (thenQ (fun s' => Run P B s' cs Q) Q) I i k)))
    (after : k = xs.length → Run P B (I k) cs Q) : Run P B s (.rangeFunc g ps assign body :: cs) Q := by
  intro E a w hs
  have hv : RelSB E (.v (.c (.clo f caps))) (a.eval g) := ev_rel (p := []) hs rfl hg
  have hkv : RelK E.K (.clo f caps) (a.eval g) := relSB_c hv
  obtain ⟨cvs, hcv, hcs, hcr, hco⟩ : ∃ cvs, a.eval g = .func (.func f) #[] cvs ∧ cvs.size = caps.length ∧ (∀ j, j < caps.length → RelK E.K (caps.getD j .junk) (cvs.getD j undef)) ∧ (∀ j, j < caps.length → (cvs.getD j undef).oneCell' = true) := by
    generalize a.eval g = u at hkv
    cases hkv
    rename_i vs h1 h2 h3
    exact ⟨vs, rfl, h1, h2, h3⟩
  obtain ⟨fnc, hfn, hbody, hname⟩ := hit.known
  obtain ⟨E0, hs0, hK0, hc0, hh0⟩ := hI _ _ _ _ hs
  have hc := hs.core
  have hcz := hs0.core
  refine wpIn_rangeFunc ?_
  intro fn _
  have hro : (FB B.r).round = none := hB
  rw [hro]
  obtain ⟨W1, hW1⟩ : ∃ W1, (w.alloc (.deferred (some []))).alloc (.loop (loopRec fn a.tmps ps assign body w.heap.size .ready none)) = W1 := ⟨_, rfl⟩
  have hL1 : W1.heap[w.heap.size + 1]? = some (.loop (loopRec fn a.tmps ps assign body w.heap.size .ready none)) := by
    rw [← hW1]
    have := World.alloc_heap_new (w.alloc (.deferred (some []))) (.loop (loopRec fn a.tmps ps assign body w.heap.size .ready none))
    rwa [World.size_alloc] at this
  have hD1 : W1.heap[w.heap.size]? = some (.deferred (some [])) := by
    rw [← hW1]; exact (Below.heap_alloc _ _ _ (by simp)).trans (World.alloc_heap_new w _)
  have hold1 : ∀ b, b < w.heap.size → W1.heap[b]? = w.heap[b]? := fun b hb => by
    rw [← hW1]; exact (Below.heap_alloc _ _ _ (by simp; omega)).trans (Below.heap_alloc _ _ _ hb)
  have hsz1 : w.heap.size ≤ W1.heap.size := by rw [← hW1]; simp; omega
  have hkn1 : Knows E0.K W1 := fun b x hb => by
    have := hcz.know b x hb
    rw [hold1 b (Array.getElem?_eq_some_iff.1 this).1]; exact this
  have fresh : ∀ b, w.heap.size ≤ b → E0.K b = none := fun b hb => by
    cases h : E0.K b with
    | none => rfl
    | some x => have := (Array.getElem?_eq_some_iff.1 (hcz.know b x h)).1; omega
  have freshH : ∀ n b, w.heap.size ≤ b → ¬ E0.holds n b := fun n b hb h => by have := hcz.lt n b h; omega
  have hw0 : E0.c.w0.heap.size ≤ w.heap.size := hcz.size
  have hmid : Mid B E0 a w.heap.size (w.heap.size + 1) (.loop (loopRec fn a.tmps ps assign body w.heap.size .ready none)) (I 0) E0.K W1 := by
    refine ⟨E0, rfl, rfl, ⟨?_, hs0.size, hs0.defers, hs0.slot⟩, hL1, hD1, fresh _ (by omega), fresh _ (by omega), fun n => freshH n _ (by omega), fun n => freshH n _ (by omega)⟩
    exact { hcz with
      know := hkn1
      mem := fun n o h => (hcz.mem n o h).other fun b hb => hold1 b (hcz.lt n b hb)
      lt := fun n b h => by have := hcz.lt n b h; omega
      os := by rw [← hW1]; exact hcz.os
      tape := by rw [← hW1]; exact hcz.tape
      output := by rw [← hW1]; exact hcz.output
      size := by omega
      old := fun b hb hbW => (hold1 b (by omega)).trans (hcz.old b hb hbW) }
  have hN : B.N ≤ w.heap.size := by
    have := B.fnN hBf _ _ _ hc.j
    have := hc.size
    omega
  refine ⟨w.heap.size + 1, [{ target := .collected w.heap.size, args := #[] }], W1, { target := .fn (.func f) cvs, args := #[.func (.yield (w.heap.size + 1)) #[] #[]] }, W1, f,
    #[.func (.yield (w.heap.size + 1)) #[] #[]] ++ cvs, W1, ?_, ?_, ?_, ?_, fun h => absurd h (by simp [FB]), ?_⟩
  · rw [← hW1]; exact run_enterLoop_outer _ _ _ _ _
  · simp only [resolve, hcv]
    simp [go_sem]
  · intro f' _; trivial
  · have hb : fnc.body.isNone = false := by cases hfb : fnc.body <;> simp [hfb] at hbody ⊢
    simp only [invoke, callFunc, Sem.run_bind, Sem.run_pure, Result.andThen_ok, run_program, hfn, hname, hb, Bool.false_eq_true, if_false]
  · have hy := range_yields (B := B) (E0 := E0) (a := a) (D := w.heap.size) (l := w.heap.size + 1) (fn := fn) (ps := ps) (assign := assign) (body := body) (Q := thenQ (fun s' => Run P B s' cs Q) Q) (I := I) (xs := xs) (k := k) (by omega) (by omega) hps hY round
    have hcall := hit.calls (w.heap.size + 1) k _ E0.K W1 cvs hk hy (.inl ⟨Nat.zero_le _, hmid⟩) hkn1 hcs (fun j hj => by rw [hK0]; exact ⟨hcr j hj, hco j hj⟩)
    have hFB : FB B.r = FB none := by rw [hB]
    rw [hFB]
    refine CallsIn.mono hcall ?_
    rintro e w' ⟨⟨v, rfl⟩, K1, w1, K', hJ, hsi⟩
    have fin : ∀ (sx : S) (rec : Loop) (jump : Option Code), rec.pending = jump → rec.state ≠ .busy → sx.noY = true → Mid B E0 a w.heap.size (w.heap.size + 1) (.loop rec) sx K1 w1 →
        ∃ w4, (Instr.endLoop (w.heap.size + 1)).run P w' = .ok jump w4 ∧ ∃ E', Sim B E' sx { a with defers := { target := .collected w.heap.size, args := #[] } :: a.defers } w4 := by
      intro sx rec jump hp hb hn hm
      have hl : w'.heap[w.heap.size + 1]? = some (.loop rec) := by
        obtain ⟨_, _, _, _, h, _⟩ := hm
        rw [hsi.old _ (Array.getElem?_eq_some_iff.1 h).1]; exact h
      have := run_endLoop (P := P) hl hb
      rw [hp] at this
      exact ⟨_, this, range_end hm hsi hn (by omega) (by omega) (by omega) hN hBf⟩
    rcases hJ with ⟨hle, hm⟩ | ⟨hj, hlt, c, sx, hleft, hm⟩
    · have hkk : k = xs.length ∧ stopN k xs.length = k := by
        rcases Nat.lt_or_ge k xs.length with h | h
        · rw [stopN_lt h] at hle; omega
        · have : k = xs.length := by omega
          exact ⟨this, by rw [this]; exact stopN_eq _⟩
      rw [hkk.2] at hm
      obtain ⟨w4, h1, E', h2⟩ := fin _ _ none rfl (by simp [loopRec]) (hY k (Nat.le_refl _)) hm
      exact ⟨none, w4, h1, E', _, after hkk.1, h2⟩
    · obtain ⟨hn, hleft⟩ := hleft
      obtain ⟨w4, h1, E', h2⟩ := fin _ _ (some c) rfl (by simp [loopRec]) hn hm
      refine ⟨some c, w4, h1, ?_⟩
      rcases hleft with ⟨rfl, hq⟩ | ⟨id, rfl, hq⟩
      · exact wpIn_ret ⟨E', _, hq, h2⟩
      · exact wpIn_exit ⟨E', _, hq, h2⟩

end Go.Sym
