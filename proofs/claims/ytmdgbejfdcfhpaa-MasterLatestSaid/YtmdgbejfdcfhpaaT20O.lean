import Derived.Test.YtmdgbejfdcfhpaaT20N
namespace Go.Proofs.Ytmdgbejfdcfhpaa
open Go.Sym
set_option linter.unusedVariables false
set_option linter.unusedSimpArgs false

/-! ### MasterRobust -/
theorem usedG_mem {l : List Ca} {p : Ca → Bool} {x : Ca} (h : x ∈ usedG l p) : x ∈ l.filter p := by
  have h1 := List.mem_of_mem_take h
  have h2 := (mem_isort keyCa).1 h1
  rw [sel, List.filter_reverse, List.mem_reverse] at h2
  exact h2
theorem usedG_perm {l : List Ca} {p : Ca → Bool} (h : (l.filter p).length = 5) : (usedG l p).Perm (l.filter p) := by
  have e : sel l p = (l.filter p).reverse := by rw [sel, List.filter_reverse]
  rw [usedG, List.take_of_length_le (by rw [isort_len, e, List.length_reverse]; omega)]
  refine (isort_perm keyCa _).trans ?_
  rw [e]; exact List.reverse_perm _
theorem rob_in {used ap : List Ca} (f : Ca → Int) (h0 : used.length ≠ 0) (hm : ∀ x, x ∈ used → x ∈ ap) : ∃ x, x ∈ ap ∧ medI (used.map f) = f x := by
  have := med_mem (l := used.map f) (by simpa using h0)
  obtain ⟨x, hx, e⟩ := List.mem_map.1 this
  exact ⟨x, hm x hx, e.symm⟩
theorem rob_five {used ap : List Ca} (f : Ca → Int) (hp : used.Perm ap) (h5 : ap.length = 5) {v : Int} (h3 : 3 ≤ ap.countP (fun x => f x == v)) : medI (used.map f) = v := by
  have hc : (used.map f).countP (fun y => y == v) = ap.countP (fun x => f x == v) := by
    rw [List.countP_map, hp.countP_eq]; rfl
  have hl : (used.map f).length = 5 := by rw [List.length_map, hp.length_eq, h5]
  have h6 := le_count (used.map f) v
  have h7 : (used.map f).countP (fun y => decide (y ≤ v)) ≤ (used.map f).length := List.countP_le_length
  refine med_unique (by omega) ?_ ?_
  · omega
  · omega
theorem mst_cases (l : List Ca) (kind tel flt at' known : Int) : ((mst l kind tel flt at' known).e ≠ 0 ∧ (mst l kind tel flt at' known).a = 0 ∧ (mst l kind tel flt at' known).b = 0 ∧ (mst l kind tel flt at' known).c = 0 ∧ (mst l kind tel flt at' known).d = 0) ∨
    ((mst l kind tel flt at' known).e = 0 ∧ (usedG l fun x => applies x kind tel flt at' known).length ≠ 0 ∧ (mst l kind tel flt at' known).a = medI ((usedG l fun x => applies x kind tel flt at' known).map (·.a)) ∧ (mst l kind tel flt at' known).b = medI ((usedG l fun x => applies x kind tel flt at' known).map (·.b)) ∧
      (mst l kind tel flt at' known).c = medI ((usedG l fun x => applies x kind tel flt at' known).map (·.c)) ∧ (mst l kind tel flt at' known).d = medI ((usedG l fun x => applies x kind tel flt at' known).map (·.d))) := by
  unfold mst masR
  split
  · exact .inl ⟨by decide, rfl, rfl, rfl, rfl⟩
  split
  · exact .inl ⟨by decide, rfl, rfl, rfl, rfl⟩
  split
  · exact .inl ⟨by decide, rfl, rfl, rfl, rfl⟩
  · rename_i h
    exact .inr ⟨rfl, h, rfl, rfl, rfl, rfl⟩
def lw6 (l : List Ca) (kind tel flt at' known : Int) (r : R4) (x : Int × Nat × List (List C)) : S := mkS 163 (laT l kind tel flt at' known ++ [(13, .b (.v (vB true))), (14, .b (.v (.c (.ptr 14 0)))), (16, .b (.v (.c (.row 1 x.2.1)))), (17, .b (.v (vI x.1)))]) [(14, .cells [cI r.a, cI r.b, cI r.c, cI r.d]), (1, .row 27 4 x.2.2)]
abbrev l6T (r : R4) (ap : List Ca) (p : Nat) : List (Nat × SV) := [(13, .b (.v (vB true))), (14, .b (.v (.c (.ptr 14 0)))), (16, .b (.v (lPx ap))), (18, .b (.v (vI p)))]
def lx6 (r : R4) (ap : List Ca) (p : Nat) : S := mkS 163 (l6T r ap p) [(14, .cells [cI r.a, cI r.b, cI r.c, cI r.d])]
structure L6 where
  i : Int
  lo : Int
  hi : Int
def ly6 (r : R4) (ap : List Ca) (p : Nat) (x : L6) : S := mkS 163 (l6T r ap p ++ [(19, .b (.v (vI x.lo))), (20, .b (.v (vI x.hi))), (21, .b (.v (vI x.i)))]) [(14, .cells [cI r.a, cI r.b, cI r.c, cI r.d])]
def lz6 (r : R4) (ap : List Ca) (p : Nat) (x : L6) (y : Int × Int) : S := mkS 163 (l6T r ap p ++ [(19, .b (.v (vI x.lo))), (20, .b (.v (vI x.hi))), (21, .b (.v (vI x.i))), (22, .b (.v (vI y.2))), (23, .b (.v (vI y.1)))]) [(14, .cells [cI r.a, cI r.b, cI r.c, cI r.d])]
theorem f6 (l : List Ca) (kind tel flt at' known : Int) : FCall Try.prog 6 [lCa l, vI kind, vI tel, vI flt, vI at', vI known] (.v (vB true)) := by
  have c11 := m11 l kind tel flt at' known
  have hcs := mst_cases l kind tel flt at' known
  have hum : ∀ x, x ∈ (usedG l fun x => applies x kind tel flt at' known) → x ∈ l.filter (fun x => applies x kind tel flt at' known) := fun x hx => usedG_mem hx
  have hup : (l.filter (fun x => applies x kind tel flt at' known)).length = 5 → (usedG l fun x => applies x kind tel flt at' known).Perm (l.filter (fun x => applies x kind tel flt at' known)) := usedG_perm
  generalize mst l kind tel flt at' known = r at c11 hcs
  generalize (usedG l fun x => applies x kind tel flt at' known) = used at hcs hum hup
  refine fcall_of Try.func6 rfl (by kernel_rfl) (fun B hB => ?_)
  refine reg0 mix (by kernel_rfl) ?_
  refine regC mix [(0, con f9)] (by kernel_rfl) ?_
  refine regC mix [(1, con (f10 l))] (by kernel_rfl) ?_
  refine rCond (!decide ((l.length : Int) ≤ 20)) (by kernel_rfl) (fun h => ?_) (fun h => ?_)
  · refine reg0 mix (by kernel_rfl) ?_
    exact run_ret (ret_of (.v (vB true)) (by kernel_rfl) rfl)
  simp only [Bool.not_eq_false', decide_eq_true_eq] at h
  have hl : l.length ≤ 20 := by omega
  refine regC mix [(6, con c11)] (by kernel_rfl) ?_
  refine reg0 mix (by kernel_rfl) ?_
  refine rCond (r.e != 0) (by kernel_rfl) (fun h => ?_) (fun h => ?_)
  · rcases hcs with ⟨_, h1, h2, h3, h4⟩ | ⟨h1, _⟩
    · refine regI mix [] [pf (fun _ : true = true => eq27)] (by kernel_rfl) ?_
      refine run_ret (ret_of (.v (vB (r.a == 0 && (r.b == 0 && (r.c == 0 && (r.d == 0 && true)))))) (by kernel_rfl) ?_)
      rw [h1, h2, h3, h4]; rfl
    · rw [h1] at h; simp at h
  have hr0 : r.e = 0 := by simpa using h
  obtain ⟨hu0, Ha, Hb, Hc, Hd⟩ : used.length ≠ 0 ∧ r.a = medI (used.map (·.a)) ∧ r.b = medI (used.map (·.b)) ∧ r.c = medI (used.map (·.c)) ∧ r.d = medI (used.map (·.d)) := by
    rcases hcs with ⟨h1, _⟩ | ⟨_, h2⟩
    · exact absurd hr0 h1
    · exact h2
  clear hcs h
  refine reg0 mix (by kernel_rfl) ?_
  refine run_weaken (wk_nilRow 16 1 27 4 (by kernel_rfl) (by kernel_rfl) (by omega)) ?_ (List.cons_ne_nil _ _)
  refine reg0 mix (by kernel_rfl) ?_
  refine rBlock ?_
  refine rLoop (lw6 l kind tel flt at' known r) (fun x => 0 ≤ x.1 ∧ x.1 ≤ l.length ∧ x.2.1 = ((l.take x.1.toNat).filter (fun x => applies x kind tel flt at' known)).length ∧ x.2.2 = rowPx ((l.take x.1.toNat).filter (fun x => applies x kind tel flt at' known))) (fun x => (l.length - x.1).toNat) (0, 0, []) (wkTo [0, 1, 2, 3, 4, 5, 13, 14, 16, 17] [] (by kernel_rfl)) ⟨by simp, by simp, rfl, rfl⟩ ?_
  rintro ⟨i, n, css⟩ ⟨hi0, hi1, hn, hcss⟩
  simp only at hi0 hi1 hn hcss
  have hnl : n ≤ l.length := by
    rw [hn]; exact Nat.le_trans (List.length_filter_le _ _) (by simp; omega)
  have hcn : css.length = n := by rw [hcss, rowPx_len, hn]
  refine reg0 mix (by kernel_rfl) ?_
  refine rCond (decide (i < (l.length : Int))) (by kernel_rfl) (fun hc => ?_) (fun hc => ?_)
  · have hc : i < l.length := of_decide_eq_true hc
    have e1 : IntKind.i64.wrap (i + 1) = i + 1 := w64 _ (by omega) (by omega)
    have hs : (i + 1).toNat = i.toNat + 1 := by omega
    have ht := takeCa (show i.toNat < l.length by omega)
    refine rJoin (fun x : Nat × List (List C) => lw6 l kind tel flt at' known r (i, x.1, x.2)) (fun x => x.1 = ((l.take (i.toNat + 1)).filter (fun x => applies x kind tel flt at' known)).length ∧ x.2 = rowPx ((l.take (i.toNat + 1)).filter (fun x => applies x kind tel flt at' known))) (List.cons_ne_nil _ _) ?_ ?_
    · refine rBlock ?_
      refine reg mix [(9, hcon (f15 (l.getD i.toNat zCa) kind tel flt at' known))] [pf (⟨hi0, hc⟩ : 0 ≤ i ∧ i < (l.length : Int)), pf (f15 (l.getD i.toNat zCa) kind tel flt at' known)] (by kernel_rfl) ?_
      refine rCond (applies (l.getD i.toNat zCa) kind tel flt at' known) (by kernel_rfl) (fun h => ?_) (fun h => ?_)
      · refine reg mix [] [pf (⟨hi0, hc⟩ : 0 ≤ i ∧ i < (l.length : Int)), pf hcn.symm, pf (by omega : (n + 1) * 33 ≤ 140737488355328), pf (rfl : 1 = [encPx (l.getD i.toNat zCa)].length)] (by kernel_rfl) ?_
        refine run_nil (blockR_normal (run_nil (joined (n + 1, css ++ [encPx (l.getD i.toNat zCa)]) ⟨?_, ?_⟩ (wkTo [0, 1, 2, 3, 4, 5, 13, 14, 16, 17] [69] (by kernel_rfl)))))
        · have hf : [l.getD i.toNat zCa].filter (fun x => applies x kind tel flt at' known) = [l.getD i.toNat zCa] := by rw [List.filter_cons, if_pos h]; rfl
          rw [ht, List.filter_append, hf, List.length_append, hn]; rfl
        · have hf : [l.getD i.toNat zCa].filter (fun x => applies x kind tel flt at' known) = [l.getD i.toNat zCa] := by rw [List.filter_cons, if_pos h]; rfl
          rw [ht, List.filter_append, hcss, hf]; simp [rowPx]
      · refine run_nil (blockR_normal (run_nil (joined (n, css) ⟨?_, ?_⟩ (wkTo [0, 1, 2, 3, 4, 5, 13, 14, 16, 17] [] (by kernel_rfl)))))
        · have hf : [l.getD i.toNat zCa].filter (fun x => applies x kind tel flt at' known) = [] := by rw [List.filter_cons, if_neg (by rw [h]; exact Bool.false_ne_true)]; rfl
          rw [ht, List.filter_append, hf, List.append_nil, hn]
        · have hf : [l.getD i.toNat zCa].filter (fun x => applies x kind tel flt at' known) = [] := by rw [List.filter_cons, if_neg (by rw [h]; exact Bool.false_ne_true)]; rfl
          rw [ht, List.filter_append, hf, List.append_nil, hcss]
    · rintro ⟨n', css'⟩ ⟨g1, g2⟩
      refine reg0 mix (by kernel_rfl) ?_
      refine run_nil (loopR_next (IntKind.i64.wrap (i + 1), n', css') (wkTo [0, 1, 2, 3, 4, 5, 13, 14, 16, 17] [] (by kernel_rfl)) ?_ ?_)
      · simp only [e1, hs]
        exact ⟨by omega, by omega, g1, g2⟩
      · simp only [e1]; omega
  have hc' : ¬ i < l.length := of_decide_eq_false hc
  rw [show i.toNat = l.length by omega, List.take_of_length_le (Nat.le_refl _)] at hn hcss
  generalize l.filter (fun x => applies x kind tel flt at' known) = ap at hum hup hn hcss
  subst hn hcss
  refine run_exit (loopR_exit (blockR_exit ?_))
  refine reg mix [] [pf hcn.symm] (by kernel_rfl) ?_
  have hap : ap.length ≠ 0 := by
    intro h
    have h2 := List.eq_nil_of_length_eq_zero h
    cases used with
    | nil => exact hu0 rfl
    | cons x used => have := hum x (List.mem_cons_self ..); rw [h2] at this; cases this
  refine rCondF ((ap.length : Int) == 0) (by kernel_rfl) (by simpa using hap) ?_
  refine frzRow hB 16 1 ap.length 27 4 (rowPx ap) (elPx ap) [13, 14] [] (by kernel_rfl) (by kernel_rfl) hcn.symm (fun j hj => by simp [rowPx, elPx, List.getD_eq_getElem?_getD, hj]) (by kernel_rfl) ?_ (List.cons_ne_nil _ _)
  refine reg0 mix (by kernel_rfl) ?_
  refine rBlock ?_
  refine rLoop (lx6 r ap) (fun i => i ≤ 4) (fun i => 4 - i) 0 (wkTo [13, 14, 16, 18] [] (by kernel_rfl)) (by omega) ?_
  intro p hp
  refine reg0 mix (by kernel_rfl) ?_
  rcases (by omega : p = 0 ∨ p = 1 ∨ p = 2 ∨ p = 3 ∨ p = 4) with rfl | rfl | rfl | rfl | rfl
  · refine rCondT true (by kernel_rfl) rfl ?_
    have hp4 : (0 : Int) ≤ 0 ∧ (0 : Int) < 4 := by omega
    have h0a : (0 : Int) ≤ 0 ∧ (0 : Int) < (ap.length : Int) := by omega
    refine rBlock ?_
    refine reg mix [] [pf h0a, pf hp4, pf h0a, pf hp4] (by kernel_rfl) ?_
    refine reg0 mix (by kernel_rfl) ?_
    refine rBlock ?_
    refine rLoop (ly6 r ap 0) (fun x => 0 ≤ x.i ∧ x.i ≤ ap.length ∧ ∀ j, j < x.i.toNat → x.lo ≤ (ap.getD j zCa).a ∧ (ap.getD j zCa).a ≤ x.hi) (fun x => (ap.length - x.i).toNat) ⟨0, (ap.getD (0 : Int).toNat zCa).a, (ap.getD (0 : Int).toNat zCa).a⟩ (wkTo [13, 14, 16, 18, 19, 20, 21] [] (by kernel_rfl)) ⟨by simp, by simp, fun j hj => by simp at hj⟩ ?_
    rintro ⟨i, lo, hi⟩ ⟨hi0, hi1, hlh⟩
    simp only at hi0 hi1 hlh
    refine reg0 mix (by kernel_rfl) ?_
    refine rCond (decide (i < (ap.length : Int))) (by kernel_rfl) (fun hc => ?_) (fun hc => ?_)
    · have hc : i < ap.length := of_decide_eq_true hc
      have e1 : IntKind.i64.wrap (i + 1) = i + 1 := w64 _ (by omega) (by omega)
      have hia : 0 ≤ i ∧ i < (ap.length : Int) := ⟨hi0, hc⟩
      refine rJoin (fun _ : Unit => ly6 r ap 0 ⟨i, if (ap.getD i.toNat zCa).a < lo then (ap.getD i.toNat zCa).a else lo, if (ap.getD i.toNat zCa).a > hi then (ap.getD i.toNat zCa).a else hi⟩) (fun _ => True) (List.cons_ne_nil _ _) ?_ ?_
      · refine rBlock ?_
        refine reg mix [] [pf hia, pf hp4, pf hia, pf hp4] (by kernel_rfl) ?_
        refine reg0 mix (by kernel_rfl) ?_
        refine reg0 mix (by kernel_rfl) ?_
        refine rBlock ?_
        refine rLoop (lz6 r ap 0 ⟨i, if (ap.getD i.toNat zCa).a < lo then (ap.getD i.toNat zCa).a else lo, if (ap.getD i.toNat zCa).a > hi then (ap.getD i.toNat zCa).a else hi⟩) (fun x => 0 ≤ x.1 ∧ x.1 ≤ ap.length ∧ x.2 = ((ap.take x.1.toNat).countP (fun y => y.a == (ap.getD i.toNat zCa).a) : Nat)) (fun x => (ap.length - x.1).toNat) (0, 0) (wkTo [13, 14, 16, 18, 19, 20, 21, 22, 23] [] (by kernel_rfl)) ⟨by simp, by simp, rfl⟩ ?_
        rintro ⟨k, n⟩ ⟨hk0, hk1, hkn⟩
        simp only at hk0 hk1 hkn
        have hcl : (ap.take k.toNat).countP (fun y => y.a == (ap.getD i.toNat zCa).a) ≤ ap.length := Nat.le_trans List.countP_le_length (by simp; omega)
        refine reg0 mix (by kernel_rfl) ?_
        refine rCond (decide (k < (ap.length : Int))) (by kernel_rfl) (fun hc2 => ?_) (fun hc2 => ?_)
        · have hc2 : k < ap.length := of_decide_eq_true hc2
          have e2 : IntKind.i64.wrap (k + 1) = k + 1 := w64 _ (by omega) (by omega)
          have e3 : IntKind.i64.wrap (n + 1) = n + 1 := w64 _ (by omega) (by omega)
          have hs : (k + 1).toNat = k.toNat + 1 := by omega
          have ht := takeCa (show k.toNat < ap.length by omega)
          refine rJoin (fun n' => lz6 r ap 0 ⟨i, if (ap.getD i.toNat zCa).a < lo then (ap.getD i.toNat zCa).a else lo, if (ap.getD i.toNat zCa).a > hi then (ap.getD i.toNat zCa).a else hi⟩ (k, n')) (fun n' => n' = ((ap.take (k.toNat + 1)).countP (fun y => y.a == (ap.getD i.toNat zCa).a) : Nat)) (List.cons_ne_nil _ _) ?_ ?_
          · refine rBlock ?_
            refine reg mix [] [pf (⟨hk0, hc2⟩ : 0 ≤ k ∧ k < (ap.length : Int)), pf hp4, pf hia, pf hp4] (by kernel_rfl) ?_
            refine rCond ((ap.getD k.toNat zCa).a == (ap.getD i.toNat zCa).a) (by kernel_rfl) (fun h => ?_) (fun h => ?_)
            · refine reg0 mix (by kernel_rfl) ?_
              refine run_nil (blockR_normal (run_nil (joined (IntKind.i64.wrap (n + 1)) ?_ (wkTo [13, 14, 16, 18, 19, 20, 21, 22, 23] [] (by kernel_rfl)))))
              rw [e3, ht, List.countP_append, List.countP_singleton, h, hkn]; rfl
            · refine run_nil (blockR_normal (run_nil (joined n ?_ (wkTo [13, 14, 16, 18, 19, 20, 21, 22, 23] [] (by kernel_rfl)))))
              rw [ht, List.countP_append, List.countP_singleton, h, hkn]; rfl
          · intro n' hn'
            refine reg0 mix (by kernel_rfl) ?_
            refine run_nil (loopR_next (IntKind.i64.wrap (k + 1), n') (wkTo [13, 14, 16, 18, 19, 20, 21, 22, 23] [] (by kernel_rfl)) ?_ ?_)
            · simp only [e2, hs]
              exact ⟨by omega, by omega, hn'⟩
            · simp only [e2]; omega
        have hc2 : ¬ k < ap.length := of_decide_eq_false hc2
        rw [show k.toNat = ap.length by omega, List.take_of_length_le (Nat.le_refl _)] at hkn
        refine run_exit (loopR_exit (blockR_exit ?_))
        refine regI mix [] [pf (fun _ : (((ap.length : Int) == 5) && decide (n ≥ 3)) = true => hp4), pf (fun _ : (((ap.length : Int) == 5) && decide (n ≥ 3)) = true => hia), pf (fun _ : (((ap.length : Int) == 5) && decide (n ≥ 3)) = true => hp4)] (by kernel_rfl) ?_
        refine rCondF ((((ap.length : Int) == 5) && decide (n ≥ 3)) && (r.a != (ap.getD i.toNat zCa).a)) (by kernel_rfl) ?_ ?_
        · cases h5 : (((ap.length : Int) == 5) && decide (n ≥ 3)) with
          | false => rfl
          | true =>
            simp only [Bool.and_eq_true, beq_iff_eq, decide_eq_true_eq] at h5
            have := rob_five (·.a) (hup (by omega)) (by omega) (v := (ap.getD i.toNat zCa).a) (by omega)
            rw [Ha, this]; simp
        · exact run_nil (blockR_normal (run_nil (joined () trivial (wkTo [13, 14, 16, 18, 19, 20, 21] [] (by kernel_rfl)))))
      · rintro _ _
        refine reg0 mix (by kernel_rfl) ?_
        refine run_nil (loopR_next (⟨IntKind.i64.wrap (i + 1), if (ap.getD i.toNat zCa).a < lo then (ap.getD i.toNat zCa).a else lo, if (ap.getD i.toNat zCa).a > hi then (ap.getD i.toNat zCa).a else hi⟩ : L6) (wkTo [13, 14, 16, 18, 19, 20, 21] [] (by kernel_rfl)) ?_ ?_)
        · simp only [e1]
          refine ⟨by omega, by omega, fun j hj => ?_⟩
          by_cases hji : j < i.toNat
          · have := hlh j hji
            constructor <;> split <;> omega
          · rw [show j = i.toNat by omega]
            constructor <;> split <;> omega
        · simp only [e1]; omega
    have hc : ¬ i < ap.length := of_decide_eq_false hc
    obtain ⟨x, hx, hm⟩ := rob_in (·.a) hu0 hum
    obtain ⟨j, hj, rfl⟩ := List.getElem_of_mem hx
    have hb2 := hlh j (by omega)
    rw [show ap.getD j zCa = ap[j] by simp [List.getD_eq_getElem?_getD, hj]] at hb2
    rw [← hm, ← Ha] at hb2
    refine run_exit (loopR_exit (blockR_exit ?_))
    refine regI mix [] [pf (fun _ : true = true => hp4), pf (fun _ : (!decide (r.a < lo)) = true => hp4)] (by kernel_rfl) ?_
    refine rCondF (decide (r.a < lo) || decide (r.a > hi)) (by kernel_rfl) (by rw [decide_eq_false (by omega), decide_eq_false (by omega)]; rfl) ?_
    refine run_nil (blockR_normal ?_)
    refine reg0 mix (by kernel_rfl) ?_
    exact run_nil (loopR_next 1 (wkTo [13, 14, 16, 18] [] (by kernel_rfl)) (by omega) (by omega))
  · refine rCondT true (by kernel_rfl) rfl ?_
    have hp4 : (0 : Int) ≤ 1 ∧ (1 : Int) < 4 := by omega
    have h0a : (0 : Int) ≤ 0 ∧ (0 : Int) < (ap.length : Int) := by omega
    refine rBlock ?_
    refine reg mix [] [pf h0a, pf hp4, pf h0a, pf hp4] (by kernel_rfl) ?_
    refine reg0 mix (by kernel_rfl) ?_
    refine rBlock ?_
    refine rLoop (ly6 r ap 1) (fun x => 0 ≤ x.i ∧ x.i ≤ ap.length ∧ ∀ j, j < x.i.toNat → x.lo ≤ (ap.getD j zCa).b ∧ (ap.getD j zCa).b ≤ x.hi) (fun x => (ap.length - x.i).toNat) ⟨0, (ap.getD (0 : Int).toNat zCa).b, (ap.getD (0 : Int).toNat zCa).b⟩ (wkTo [13, 14, 16, 18, 19, 20, 21] [] (by kernel_rfl)) ⟨by simp, by simp, fun j hj => by simp at hj⟩ ?_
    rintro ⟨i, lo, hi⟩ ⟨hi0, hi1, hlh⟩
    simp only at hi0 hi1 hlh
    refine reg0 mix (by kernel_rfl) ?_
    refine rCond (decide (i < (ap.length : Int))) (by kernel_rfl) (fun hc => ?_) (fun hc => ?_)
    · have hc : i < ap.length := of_decide_eq_true hc
      have e1 : IntKind.i64.wrap (i + 1) = i + 1 := w64 _ (by omega) (by omega)
      have hia : 0 ≤ i ∧ i < (ap.length : Int) := ⟨hi0, hc⟩
      refine rJoin (fun _ : Unit => ly6 r ap 1 ⟨i, if (ap.getD i.toNat zCa).b < lo then (ap.getD i.toNat zCa).b else lo, if (ap.getD i.toNat zCa).b > hi then (ap.getD i.toNat zCa).b else hi⟩) (fun _ => True) (List.cons_ne_nil _ _) ?_ ?_
      · refine rBlock ?_
        refine reg mix [] [pf hia, pf hp4, pf hia, pf hp4] (by kernel_rfl) ?_
        refine reg0 mix (by kernel_rfl) ?_
        refine reg0 mix (by kernel_rfl) ?_
        refine rBlock ?_
        refine rLoop (lz6 r ap 1 ⟨i, if (ap.getD i.toNat zCa).b < lo then (ap.getD i.toNat zCa).b else lo, if (ap.getD i.toNat zCa).b > hi then (ap.getD i.toNat zCa).b else hi⟩) (fun x => 0 ≤ x.1 ∧ x.1 ≤ ap.length ∧ x.2 = ((ap.take x.1.toNat).countP (fun y => y.b == (ap.getD i.toNat zCa).b) : Nat)) (fun x => (ap.length - x.1).toNat) (0, 0) (wkTo [13, 14, 16, 18, 19, 20, 21, 22, 23] [] (by kernel_rfl)) ⟨by simp, by simp, rfl⟩ ?_
        rintro ⟨k, n⟩ ⟨hk0, hk1, hkn⟩
        simp only at hk0 hk1 hkn
        have hcl : (ap.take k.toNat).countP (fun y => y.b == (ap.getD i.toNat zCa).b) ≤ ap.length := Nat.le_trans List.countP_le_length (by simp; omega)
        refine reg0 mix (by kernel_rfl) ?_
        refine rCond (decide (k < (ap.length : Int))) (by kernel_rfl) (fun hc2 => ?_) (fun hc2 => ?_)
        · have hc2 : k < ap.length := of_decide_eq_true hc2
          have e2 : IntKind.i64.wrap (k + 1) = k + 1 := w64 _ (by omega) (by omega)
          have e3 : IntKind.i64.wrap (n + 1) = n + 1 := w64 _ (by omega) (by omega)
          have hs : (k + 1).toNat = k.toNat + 1 := by omega
          have ht := takeCa (show k.toNat < ap.length by omega)
          refine rJoin (fun n' => lz6 r ap 1 ⟨i, if (ap.getD i.toNat zCa).b < lo then (ap.getD i.toNat zCa).b else lo, if (ap.getD i.toNat zCa).b > hi then (ap.getD i.toNat zCa).b else hi⟩ (k, n')) (fun n' => n' = ((ap.take (k.toNat + 1)).countP (fun y => y.b == (ap.getD i.toNat zCa).b) : Nat)) (List.cons_ne_nil _ _) ?_ ?_
          · refine rBlock ?_
            refine reg mix [] [pf (⟨hk0, hc2⟩ : 0 ≤ k ∧ k < (ap.length : Int)), pf hp4, pf hia, pf hp4] (by kernel_rfl) ?_
            refine rCond ((ap.getD k.toNat zCa).b == (ap.getD i.toNat zCa).b) (by kernel_rfl) (fun h => ?_) (fun h => ?_)
            · refine reg0 mix (by kernel_rfl) ?_
              refine run_nil (blockR_normal (run_nil (joined (IntKind.i64.wrap (n + 1)) ?_ (wkTo [13, 14, 16, 18, 19, 20, 21, 22, 23] [] (by kernel_rfl)))))
              rw [e3, ht, List.countP_append, List.countP_singleton, h, hkn]; rfl
            · refine run_nil (blockR_normal (run_nil (joined n ?_ (wkTo [13, 14, 16, 18, 19, 20, 21, 22, 23] [] (by kernel_rfl)))))
              rw [ht, List.countP_append, List.countP_singleton, h, hkn]; rfl
          · intro n' hn'
            refine reg0 mix (by kernel_rfl) ?_
            refine run_nil (loopR_next (IntKind.i64.wrap (k + 1), n') (wkTo [13, 14, 16, 18, 19, 20, 21, 22, 23] [] (by kernel_rfl)) ?_ ?_)
            · simp only [e2, hs]
              exact ⟨by omega, by omega, hn'⟩
            · simp only [e2]; omega
        have hc2 : ¬ k < ap.length := of_decide_eq_false hc2
        rw [show k.toNat = ap.length by omega, List.take_of_length_le (Nat.le_refl _)] at hkn
        refine run_exit (loopR_exit (blockR_exit ?_))
        refine regI mix [] [pf (fun _ : (((ap.length : Int) == 5) && decide (n ≥ 3)) = true => hp4), pf (fun _ : (((ap.length : Int) == 5) && decide (n ≥ 3)) = true => hia), pf (fun _ : (((ap.length : Int) == 5) && decide (n ≥ 3)) = true => hp4)] (by kernel_rfl) ?_
        refine rCondF ((((ap.length : Int) == 5) && decide (n ≥ 3)) && (r.b != (ap.getD i.toNat zCa).b)) (by kernel_rfl) ?_ ?_
        · cases h5 : (((ap.length : Int) == 5) && decide (n ≥ 3)) with
          | false => rfl
          | true =>
            simp only [Bool.and_eq_true, beq_iff_eq, decide_eq_true_eq] at h5
            have := rob_five (·.b) (hup (by omega)) (by omega) (v := (ap.getD i.toNat zCa).b) (by omega)
            rw [Hb, this]; simp
        · exact run_nil (blockR_normal (run_nil (joined () trivial (wkTo [13, 14, 16, 18, 19, 20, 21] [] (by kernel_rfl)))))
      · rintro _ _
        refine reg0 mix (by kernel_rfl) ?_
        refine run_nil (loopR_next (⟨IntKind.i64.wrap (i + 1), if (ap.getD i.toNat zCa).b < lo then (ap.getD i.toNat zCa).b else lo, if (ap.getD i.toNat zCa).b > hi then (ap.getD i.toNat zCa).b else hi⟩ : L6) (wkTo [13, 14, 16, 18, 19, 20, 21] [] (by kernel_rfl)) ?_ ?_)
        · simp only [e1]
          refine ⟨by omega, by omega, fun j hj => ?_⟩
          by_cases hji : j < i.toNat
          · have := hlh j hji
            constructor <;> split <;> omega
          · rw [show j = i.toNat by omega]
            constructor <;> split <;> omega
        · simp only [e1]; omega
    have hc : ¬ i < ap.length := of_decide_eq_false hc
    obtain ⟨x, hx, hm⟩ := rob_in (·.b) hu0 hum
    obtain ⟨j, hj, rfl⟩ := List.getElem_of_mem hx
    have hb2 := hlh j (by omega)
    rw [show ap.getD j zCa = ap[j] by simp [List.getD_eq_getElem?_getD, hj]] at hb2
    rw [← hm, ← Hb] at hb2
    refine run_exit (loopR_exit (blockR_exit ?_))
    refine regI mix [] [pf (fun _ : true = true => hp4), pf (fun _ : (!decide (r.b < lo)) = true => hp4)] (by kernel_rfl) ?_
    refine rCondF (decide (r.b < lo) || decide (r.b > hi)) (by kernel_rfl) (by rw [decide_eq_false (by omega), decide_eq_false (by omega)]; rfl) ?_
    refine run_nil (blockR_normal ?_)
    refine reg0 mix (by kernel_rfl) ?_
    exact run_nil (loopR_next 2 (wkTo [13, 14, 16, 18] [] (by kernel_rfl)) (by omega) (by omega))
  · refine rCondT true (by kernel_rfl) rfl ?_
    have hp4 : (0 : Int) ≤ 2 ∧ (2 : Int) < 4 := by omega
    have h0a : (0 : Int) ≤ 0 ∧ (0 : Int) < (ap.length : Int) := by omega
    refine rBlock ?_
    refine reg mix [] [pf h0a, pf hp4, pf h0a, pf hp4] (by kernel_rfl) ?_
    refine reg0 mix (by kernel_rfl) ?_
    refine rBlock ?_
    refine rLoop (ly6 r ap 2) (fun x => 0 ≤ x.i ∧ x.i ≤ ap.length ∧ ∀ j, j < x.i.toNat → x.lo ≤ (ap.getD j zCa).c ∧ (ap.getD j zCa).c ≤ x.hi) (fun x => (ap.length - x.i).toNat) ⟨0, (ap.getD (0 : Int).toNat zCa).c, (ap.getD (0 : Int).toNat zCa).c⟩ (wkTo [13, 14, 16, 18, 19, 20, 21] [] (by kernel_rfl)) ⟨by simp, by simp, fun j hj => by simp at hj⟩ ?_
    rintro ⟨i, lo, hi⟩ ⟨hi0, hi1, hlh⟩
    simp only at hi0 hi1 hlh
    refine reg0 mix (by kernel_rfl) ?_
    refine rCond (decide (i < (ap.length : Int))) (by kernel_rfl) (fun hc => ?_) (fun hc => ?_)
    · have hc : i < ap.length := of_decide_eq_true hc
      have e1 : IntKind.i64.wrap (i + 1) = i + 1 := w64 _ (by omega) (by omega)
      have hia : 0 ≤ i ∧ i < (ap.length : Int) := ⟨hi0, hc⟩
      refine rJoin (fun _ : Unit => ly6 r ap 2 ⟨i, if (ap.getD i.toNat zCa).c < lo then (ap.getD i.toNat zCa).c else lo, if (ap.getD i.toNat zCa).c > hi then (ap.getD i.toNat zCa).c else hi⟩) (fun _ => True) (List.cons_ne_nil _ _) ?_ ?_
      · refine rBlock ?_
        refine reg mix [] [pf hia, pf hp4, pf hia, pf hp4] (by kernel_rfl) ?_
        refine reg0 mix (by kernel_rfl) ?_
        refine reg0 mix (by kernel_rfl) ?_
        refine rBlock ?_
        refine rLoop (lz6 r ap 2 ⟨i, if (ap.getD i.toNat zCa).c < lo then (ap.getD i.toNat zCa).c else lo, if (ap.getD i.toNat zCa).c > hi then (ap.getD i.toNat zCa).c else hi⟩) (fun x => 0 ≤ x.1 ∧ x.1 ≤ ap.length ∧ x.2 = ((ap.take x.1.toNat).countP (fun y => y.c == (ap.getD i.toNat zCa).c) : Nat)) (fun x => (ap.length - x.1).toNat) (0, 0) (wkTo [13, 14, 16, 18, 19, 20, 21, 22, 23] [] (by kernel_rfl)) ⟨by simp, by simp, rfl⟩ ?_
        rintro ⟨k, n⟩ ⟨hk0, hk1, hkn⟩
        simp only at hk0 hk1 hkn
        have hcl : (ap.take k.toNat).countP (fun y => y.c == (ap.getD i.toNat zCa).c) ≤ ap.length := Nat.le_trans List.countP_le_length (by simp; omega)
        refine reg0 mix (by kernel_rfl) ?_
        refine rCond (decide (k < (ap.length : Int))) (by kernel_rfl) (fun hc2 => ?_) (fun hc2 => ?_)
        · have hc2 : k < ap.length := of_decide_eq_true hc2
          have e2 : IntKind.i64.wrap (k + 1) = k + 1 := w64 _ (by omega) (by omega)
          have e3 : IntKind.i64.wrap (n + 1) = n + 1 := w64 _ (by omega) (by omega)
          have hs : (k + 1).toNat = k.toNat + 1 := by omega
          have ht := takeCa (show k.toNat < ap.length by omega)
          refine rJoin (fun n' => lz6 r ap 2 ⟨i, if (ap.getD i.toNat zCa).c < lo then (ap.getD i.toNat zCa).c else lo, if (ap.getD i.toNat zCa).c > hi then (ap.getD i.toNat zCa).c else hi⟩ (k, n')) (fun n' => n' = ((ap.take (k.toNat + 1)).countP (fun y => y.c == (ap.getD i.toNat zCa).c) : Nat)) (List.cons_ne_nil _ _) ?_ ?_
          · refine rBlock ?_
            refine reg mix [] [pf (⟨hk0, hc2⟩ : 0 ≤ k ∧ k < (ap.length : Int)), pf hp4, pf hia, pf hp4] (by kernel_rfl) ?_
            refine rCond ((ap.getD k.toNat zCa).c == (ap.getD i.toNat zCa).c) (by kernel_rfl) (fun h => ?_) (fun h => ?_)
            · refine reg0 mix (by kernel_rfl) ?_
              refine run_nil (blockR_normal (run_nil (joined (IntKind.i64.wrap (n + 1)) ?_ (wkTo [13, 14, 16, 18, 19, 20, 21, 22, 23] [] (by kernel_rfl)))))
              rw [e3, ht, List.countP_append, List.countP_singleton, h, hkn]; rfl
            · refine run_nil (blockR_normal (run_nil (joined n ?_ (wkTo [13, 14, 16, 18, 19, 20, 21, 22, 23] [] (by kernel_rfl)))))
              rw [ht, List.countP_append, List.countP_singleton, h, hkn]; rfl
          · intro n' hn'
            refine reg0 mix (by kernel_rfl) ?_
            refine run_nil (loopR_next (IntKind.i64.wrap (k + 1), n') (wkTo [13, 14, 16, 18, 19, 20, 21, 22, 23] [] (by kernel_rfl)) ?_ ?_)
            · simp only [e2, hs]
              exact ⟨by omega, by omega, hn'⟩
            · simp only [e2]; omega
        have hc2 : ¬ k < ap.length := of_decide_eq_false hc2
        rw [show k.toNat = ap.length by omega, List.take_of_length_le (Nat.le_refl _)] at hkn
        refine run_exit (loopR_exit (blockR_exit ?_))
        refine regI mix [] [pf (fun _ : (((ap.length : Int) == 5) && decide (n ≥ 3)) = true => hp4), pf (fun _ : (((ap.length : Int) == 5) && decide (n ≥ 3)) = true => hia), pf (fun _ : (((ap.length : Int) == 5) && decide (n ≥ 3)) = true => hp4)] (by kernel_rfl) ?_
        refine rCondF ((((ap.length : Int) == 5) && decide (n ≥ 3)) && (r.c != (ap.getD i.toNat zCa).c)) (by kernel_rfl) ?_ ?_
        · cases h5 : (((ap.length : Int) == 5) && decide (n ≥ 3)) with
          | false => rfl
          | true =>
            simp only [Bool.and_eq_true, beq_iff_eq, decide_eq_true_eq] at h5
            have := rob_five (·.c) (hup (by omega)) (by omega) (v := (ap.getD i.toNat zCa).c) (by omega)
            rw [Hc, this]; simp
        · exact run_nil (blockR_normal (run_nil (joined () trivial (wkTo [13, 14, 16, 18, 19, 20, 21] [] (by kernel_rfl)))))
      · rintro _ _
        refine reg0 mix (by kernel_rfl) ?_
        refine run_nil (loopR_next (⟨IntKind.i64.wrap (i + 1), if (ap.getD i.toNat zCa).c < lo then (ap.getD i.toNat zCa).c else lo, if (ap.getD i.toNat zCa).c > hi then (ap.getD i.toNat zCa).c else hi⟩ : L6) (wkTo [13, 14, 16, 18, 19, 20, 21] [] (by kernel_rfl)) ?_ ?_)
        · simp only [e1]
          refine ⟨by omega, by omega, fun j hj => ?_⟩
          by_cases hji : j < i.toNat
          · have := hlh j hji
            constructor <;> split <;> omega
          · rw [show j = i.toNat by omega]
            constructor <;> split <;> omega
        · simp only [e1]; omega
    have hc : ¬ i < ap.length := of_decide_eq_false hc
    obtain ⟨x, hx, hm⟩ := rob_in (·.c) hu0 hum
    obtain ⟨j, hj, rfl⟩ := List.getElem_of_mem hx
    have hb2 := hlh j (by omega)
    rw [show ap.getD j zCa = ap[j] by simp [List.getD_eq_getElem?_getD, hj]] at hb2
    rw [← hm, ← Hc] at hb2
    refine run_exit (loopR_exit (blockR_exit ?_))
    refine regI mix [] [pf (fun _ : true = true => hp4), pf (fun _ : (!decide (r.c < lo)) = true => hp4)] (by kernel_rfl) ?_
    refine rCondF (decide (r.c < lo) || decide (r.c > hi)) (by kernel_rfl) (by rw [decide_eq_false (by omega), decide_eq_false (by omega)]; rfl) ?_
    refine run_nil (blockR_normal ?_)
    refine reg0 mix (by kernel_rfl) ?_
    exact run_nil (loopR_next 3 (wkTo [13, 14, 16, 18] [] (by kernel_rfl)) (by omega) (by omega))
  · refine rCondT true (by kernel_rfl) rfl ?_
    have hp4 : (0 : Int) ≤ 3 ∧ (3 : Int) < 4 := by omega
    have h0a : (0 : Int) ≤ 0 ∧ (0 : Int) < (ap.length : Int) := by omega
    refine rBlock ?_
    refine reg mix [] [pf h0a, pf hp4, pf h0a, pf hp4] (by kernel_rfl) ?_
    refine reg0 mix (by kernel_rfl) ?_
    refine rBlock ?_
    refine rLoop (ly6 r ap 3) (fun x => 0 ≤ x.i ∧ x.i ≤ ap.length ∧ ∀ j, j < x.i.toNat → x.lo ≤ (ap.getD j zCa).d ∧ (ap.getD j zCa).d ≤ x.hi) (fun x => (ap.length - x.i).toNat) ⟨0, (ap.getD (0 : Int).toNat zCa).d, (ap.getD (0 : Int).toNat zCa).d⟩ (wkTo [13, 14, 16, 18, 19, 20, 21] [] (by kernel_rfl)) ⟨by simp, by simp, fun j hj => by simp at hj⟩ ?_
    rintro ⟨i, lo, hi⟩ ⟨hi0, hi1, hlh⟩
    simp only at hi0 hi1 hlh
    refine reg0 mix (by kernel_rfl) ?_
    refine rCond (decide (i < (ap.length : Int))) (by kernel_rfl) (fun hc => ?_) (fun hc => ?_)
    · have hc : i < ap.length := of_decide_eq_true hc
      have e1 : IntKind.i64.wrap (i + 1) = i + 1 := w64 _ (by omega) (by omega)
      have hia : 0 ≤ i ∧ i < (ap.length : Int) := ⟨hi0, hc⟩
      refine rJoin (fun _ : Unit => ly6 r ap 3 ⟨i, if (ap.getD i.toNat zCa).d < lo then (ap.getD i.toNat zCa).d else lo, if (ap.getD i.toNat zCa).d > hi then (ap.getD i.toNat zCa).d else hi⟩) (fun _ => True) (List.cons_ne_nil _ _) ?_ ?_
      · refine rBlock ?_
        refine reg mix [] [pf hia, pf hp4, pf hia, pf hp4] (by kernel_rfl) ?_
        refine reg0 mix (by kernel_rfl) ?_
        refine reg0 mix (by kernel_rfl) ?_
        refine rBlock ?_
        refine rLoop (lz6 r ap 3 ⟨i, if (ap.getD i.toNat zCa).d < lo then (ap.getD i.toNat zCa).d else lo, if (ap.getD i.toNat zCa).d > hi then (ap.getD i.toNat zCa).d else hi⟩) (fun x => 0 ≤ x.1 ∧ x.1 ≤ ap.length ∧ x.2 = ((ap.take x.1.toNat).countP (fun y => y.d == (ap.getD i.toNat zCa).d) : Nat)) (fun x => (ap.length - x.1).toNat) (0, 0) (wkTo [13, 14, 16, 18, 19, 20, 21, 22, 23] [] (by kernel_rfl)) ⟨by simp, by simp, rfl⟩ ?_
        rintro ⟨k, n⟩ ⟨hk0, hk1, hkn⟩
        simp only at hk0 hk1 hkn
        have hcl : (ap.take k.toNat).countP (fun y => y.d == (ap.getD i.toNat zCa).d) ≤ ap.length := Nat.le_trans List.countP_le_length (by simp; omega)
        refine reg0 mix (by kernel_rfl) ?_
        refine rCond (decide (k < (ap.length : Int))) (by kernel_rfl) (fun hc2 => ?_) (fun hc2 => ?_)
        · have hc2 : k < ap.length := of_decide_eq_true hc2
          have e2 : IntKind.i64.wrap (k + 1) = k + 1 := w64 _ (by omega) (by omega)
          have e3 : IntKind.i64.wrap (n + 1) = n + 1 := w64 _ (by omega) (by omega)
          have hs : (k + 1).toNat = k.toNat + 1 := by omega
          have ht := takeCa (show k.toNat < ap.length by omega)
          refine rJoin (fun n' => lz6 r ap 3 ⟨i, if (ap.getD i.toNat zCa).d < lo then (ap.getD i.toNat zCa).d else lo, if (ap.getD i.toNat zCa).d > hi then (ap.getD i.toNat zCa).d else hi⟩ (k, n')) (fun n' => n' = ((ap.take (k.toNat + 1)).countP (fun y => y.d == (ap.getD i.toNat zCa).d) : Nat)) (List.cons_ne_nil _ _) ?_ ?_
          · refine rBlock ?_
            refine reg mix [] [pf (⟨hk0, hc2⟩ : 0 ≤ k ∧ k < (ap.length : Int)), pf hp4, pf hia, pf hp4] (by kernel_rfl) ?_
            refine rCond ((ap.getD k.toNat zCa).d == (ap.getD i.toNat zCa).d) (by kernel_rfl) (fun h => ?_) (fun h => ?_)
            · refine reg0 mix (by kernel_rfl) ?_
              refine run_nil (blockR_normal (run_nil (joined (IntKind.i64.wrap (n + 1)) ?_ (wkTo [13, 14, 16, 18, 19, 20, 21, 22, 23] [] (by kernel_rfl)))))
              rw [e3, ht, List.countP_append, List.countP_singleton, h, hkn]; rfl
            · refine run_nil (blockR_normal (run_nil (joined n ?_ (wkTo [13, 14, 16, 18, 19, 20, 21, 22, 23] [] (by kernel_rfl)))))
              rw [ht, List.countP_append, List.countP_singleton, h, hkn]; rfl
          · intro n' hn'
            refine reg0 mix (by kernel_rfl) ?_
            refine run_nil (loopR_next (IntKind.i64.wrap (k + 1), n') (wkTo [13, 14, 16, 18, 19, 20, 21, 22, 23] [] (by kernel_rfl)) ?_ ?_)
            · simp only [e2, hs]
              exact ⟨by omega, by omega, hn'⟩
            · simp only [e2]; omega
        have hc2 : ¬ k < ap.length := of_decide_eq_false hc2
        rw [show k.toNat = ap.length by omega, List.take_of_length_le (Nat.le_refl _)] at hkn
        refine run_exit (loopR_exit (blockR_exit ?_))
        refine regI mix [] [pf (fun _ : (((ap.length : Int) == 5) && decide (n ≥ 3)) = true => hp4), pf (fun _ : (((ap.length : Int) == 5) && decide (n ≥ 3)) = true => hia), pf (fun _ : (((ap.length : Int) == 5) && decide (n ≥ 3)) = true => hp4)] (by kernel_rfl) ?_
        refine rCondF ((((ap.length : Int) == 5) && decide (n ≥ 3)) && (r.d != (ap.getD i.toNat zCa).d)) (by kernel_rfl) ?_ ?_
        · cases h5 : (((ap.length : Int) == 5) && decide (n ≥ 3)) with
          | false => rfl
          | true =>
            simp only [Bool.and_eq_true, beq_iff_eq, decide_eq_true_eq] at h5
            have := rob_five (·.d) (hup (by omega)) (by omega) (v := (ap.getD i.toNat zCa).d) (by omega)
            rw [Hd, this]; simp
        · exact run_nil (blockR_normal (run_nil (joined () trivial (wkTo [13, 14, 16, 18, 19, 20, 21] [] (by kernel_rfl)))))
      · rintro _ _
        refine reg0 mix (by kernel_rfl) ?_
        refine run_nil (loopR_next (⟨IntKind.i64.wrap (i + 1), if (ap.getD i.toNat zCa).d < lo then (ap.getD i.toNat zCa).d else lo, if (ap.getD i.toNat zCa).d > hi then (ap.getD i.toNat zCa).d else hi⟩ : L6) (wkTo [13, 14, 16, 18, 19, 20, 21] [] (by kernel_rfl)) ?_ ?_)
        · simp only [e1]
          refine ⟨by omega, by omega, fun j hj => ?_⟩
          by_cases hji : j < i.toNat
          · have := hlh j hji
            constructor <;> split <;> omega
          · rw [show j = i.toNat by omega]
            constructor <;> split <;> omega
        · simp only [e1]; omega
    have hc : ¬ i < ap.length := of_decide_eq_false hc
    obtain ⟨x, hx, hm⟩ := rob_in (·.d) hu0 hum
    obtain ⟨j, hj, rfl⟩ := List.getElem_of_mem hx
    have hb2 := hlh j (by omega)
    rw [show ap.getD j zCa = ap[j] by simp [List.getD_eq_getElem?_getD, hj]] at hb2
    rw [← hm, ← Hd] at hb2
    refine run_exit (loopR_exit (blockR_exit ?_))
    refine regI mix [] [pf (fun _ : true = true => hp4), pf (fun _ : (!decide (r.d < lo)) = true => hp4)] (by kernel_rfl) ?_
    refine rCondF (decide (r.d < lo) || decide (r.d > hi)) (by kernel_rfl) (by rw [decide_eq_false (by omega), decide_eq_false (by omega)]; rfl) ?_
    refine run_nil (blockR_normal ?_)
    refine reg0 mix (by kernel_rfl) ?_
    exact run_nil (loopR_next 4 (wkTo [13, 14, 16, 18] [] (by kernel_rfl)) (by omega) (by omega))
  · refine rCondF false (by kernel_rfl) rfl ?_
    refine run_exit (loopR_exit (blockR_exit ?_))
    refine reg0 mix (by kernel_rfl) ?_
    exact run_ret (ret_of (.v (vB true)) (by kernel_rfl) rfl)
end Go.Proofs.Ytmdgbejfdcfhpaa
