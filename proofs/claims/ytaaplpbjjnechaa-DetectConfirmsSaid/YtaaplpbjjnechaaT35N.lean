import Derived.Test.YtaaplpbjjnechaaT35K
namespace Go.Proofs.Ytaaplpbjjnechaa
open Go.Sym
set_option linter.unusedVariables false
set_option linter.unusedSimpArgs false

/-! ### detect.Count -/
theorem eqPc (p q : Pc) : eqCells (encPc p) (encPc q) = some (decide (p = q)) := by
  have h : eqCells (encPc p) (encPc q) = some (p.t == q.t && (p.c == q.c && (p.f == q.f && true))) := rfl
  rw [h, Option.some_inj, Bool.eq_iff_iff]
  obtain ⟨a, b, c⟩ := p
  obtain ⟨a', b', c'⟩ := q
  simp
theorem mEn_key {D : Ens} {i : Nat} (h : i < D.length) : (mEn D).getD i ([], []) = encEn (enAt D i) := mEn_at h
theorem fi_before {D : Ens} {p : Pc} {j : Nat} (h : j < fi D p) : (enAt D j).1 ≠ p := by
  have hl : j < D.length := Nat.lt_of_lt_of_le h List.findIdx_le_length
  have := List.not_of_lt_findIdx h
  rw [decide_eq_false_iff_not] at this
  rw [enAt, List.getD_eq_getElem?_getD, List.getElem?_eq_getElem hl]
  exact this
theorem key_at {D : Ens} {p : Pc} (h : fi D p < D.length) : KeyAt (mEn D) (encPc p) (fi D p) where
  lt := by rw [mEn_len]; exact h
  no := fun j hj => by
    rw [mEn_key (by omega)]
    show eqCells (encPc p) (encPc (enAt D j).1) = _
    rw [eqPc, decide_eq_false fun e => fi_before hj e.symm]
  at' := by rw [mEn_key h]; show encPc (enAt D (fi D p)).1 = _; rw [fi_key h]
theorem key_no {D : Ens} {p : Pc} (h : ¬ fi D p < D.length) : KeyNo (mEn D) (encPc p) := fun j hj => by
  rw [mEn_len] at hj
  rw [mEn_key hj]
  show eqCells (encPc p) (encPc (enAt D j).1) = _
  rw [eqPc, decide_eq_false fun e => fi_none h _ (enAt_mem hj) e.symm]
theorem or_no {ents : List (List C × List C)} {kc z : List C} (h : KeyNo ents kc) : KeyNo ents kc ∨ ∃ i, KeyAt ents kc i ∧ (ents.getD i ([], [])).2 = z := .inl h
theorem key_val {D : Ens} {p : Pc} (h : fi D p < D.length) : ((mEn D).getD (fi D p) ([], [])).2 = [cI (valE D p)] := by rw [mEn_key h]; rfl
theorem set_key {D : Ens} {p : Pc} (h : fi D p < D.length) (n : Int) : setEnt (mEn D) (fi D p) [cI n] = mEn (D.set (fi D p) (p, n)) := by
  rw [setEnt, mEn_key h, mEn, mEn, List.map_set]
  congr 1
  show (encPc (enAt D (fi D p)).1, _) = _
  rw [fi_key h]; rfl
theorem set_new (D : Ens) (p : Pc) (z : List C) (n : Int) : setEnt (mEn D ++ [(encPc p, z)]) (mEn D).length [cI n] = mEn (D ++ [(p, n)]) := by
  rw [setEnt, mEn, mEn, List.map_append]
  simp [encEn]
def co11 (l : List De) (i : Int) (D : List (List C × List C)) : S := mkS 54 [(4, .b (.v (.c (.omap 13)))), (14, .b (.v (lDe l))), (15, .b (.v (vI l.length))), (16, .b (.v (vI i)))] [(13, .omap true false D)]
def cs11 (m : List (List C × List C)) (ks : List Pc) (j : Int) (n : Nat) (css : List (List C)) : S := mkS 54 [(4, .b (.v (.c (.kmap true false m)))), (7, .b (.v (.c (.row 1 n)))), (33, .b (.v (lPc ks))), (34, .b (.v (vI ks.length))), (35, .b (.v (vI j)))] [(1, .row 37 4 css)]
def ct11 (m : List (List C × List C)) (ks : List Pc) (j : Int) (n : Nat) (css : List (List C)) (p : Pc) : S := mkS 54 [(4, .b (.v (.c (.kmap true false m)))), (7, .b (.v (.c (.row 1 n)))), (9, .b (.v (.c (.ptr 9 0)))), (33, .b (.v (lPc ks))), (34, .b (.v (vI ks.length))), (35, .b (.v (vI j)))] [(1, .row 37 4 css), (9, .cells (encPc p))]
theorem f11 (l : List De) : FCall Try.prog 11 [lDe l] (.tup [lTa (cntR l).1, vI (cntR l).2]) := by
  refine fcall_of Try.func11 rfl (by kernel_rfl) (fun B hB => ?_)
  refine reg0 mix (by kernel_rfl) ?_
  refine reg0 mix (by kernel_rfl) ?_
  refine rCond (decide ((l.length : Int) > 1000)) (by kernel_rfl) (fun h => ?_) (fun h => ?_)
  · refine reg0 mix (by kernel_rfl) ?_
    refine run_weaken (wk_nilLst 2 4 (elTa []) (by kernel_rfl)) ?_ (List.cons_ne_nil _ _)
    refine run_ret (ret_of (.tup [lTa [], vI 2]) (by kernel_rfl) ?_)
    rw [cntR, if_pos (of_decide_eq_true h)]
  have hl : ¬ (l.length : Int) > 1000 := of_decide_eq_false h
  refine reg0 mix (by kernel_rfl) ?_
  refine reg0 mix (by kernel_rfl) ?_
  refine rBlock ?_
  refine rLoop (fun i => co11 l i (mEn (tal (l.take i.toNat)))) (fun i => 0 ≤ i ∧ i ≤ l.length ∧ ∀ k : Nat, (k : Int) < i → okDe (deAt l k) = true) (fun i => (l.length - i).toNat) 0 (wkTo [4, 14, 15, 16] [] (by kernel_rfl)) ⟨by omega, by omega, fun k hk => by omega⟩ ?_
  rintro i ⟨h0, h1, h2⟩
  refine reg0 mix (by kernel_rfl) ?_
  refine rCond (decide (i < (l.length : Int))) (by kernel_rfl) (fun hc => ?_) (fun hc => ?_)
  · have hc : i < l.length := of_decide_eq_true hc
    have e : IntKind.i64.wrap (i + 1) = i + 1 := w64 _ (by omega) (by omega)
    have hi : 0 ≤ i ∧ i < (l.length : Int) := ⟨h0, hc⟩
    obtain ⟨D, hD⟩ : ∃ D, D = tal (l.take i.toNat) := ⟨_, rfl⟩
    have hD1 : tal (l.take (i.toNat + 1)) = addE D (deAt l i.toNat).pl := by rw [take_snocD (by omega), tal_snoc, hD]
    rw [← hD]
    refine rJoin (fun _ : Unit => co11 l i (mEn (addE D (deAt l i.toNat).pl))) (fun _ => okDe (deAt l i.toNat) = true) (List.cons_ne_nil _ _) ?_ ?_
    · refine rBlock ?_
      refine reg mix [] [pf hi] (by kernel_rfl) ?_
      refine regC mix [(1, con (f23 (deAt l i.toNat)))] (by kernel_rfl) ?_
      refine rCond (!okDe (deAt l i.toNat)) (by kernel_rfl) (fun h => ?_) (fun h => ?_)
      · refine reg0 mix (by kernel_rfl) ?_
        refine run_weaken (wk_nilLst 2 4 (elTa []) (by kernel_rfl)) ?_ (List.cons_ne_nil _ _)
        refine run_ret (blockR_ret (left_ret (loopR_ret (blockR_ret (ret_of (.tup [lTa [], vI 1]) (by kernel_rfl) ?_)))))
        rw [cntR, if_neg hl, if_neg (all_bad (i := i.toNat) (by omega) (by simpa using h))]
      have hok : okDe (deAt l i.toNat) = true := by simpa using h
      have c24 := f24 (deAt l i.toNat)
      by_cases hf : fi D (deAt l i.toNat).pl < D.length
      · refine reg mix [(2, hcon c24), (3, .key (some (fi D (deAt l i.toNat).pl)) [cI (valE D (deAt l i.toNat).pl)]), (5, .key (some (fi D (deAt l i.toNat).pl)) [cI (valE D (deAt l i.toNat).pl)])]
          [pf c24, pf keyPc, pf (key_at hf), pf (key_val hf), pf keyPc, pf (key_at hf), pf (key_val hf), pf ((by rw [mEn_len]; omega) : (0 : Int) ≤ (fi D (deAt l i.toNat).pl : Int) ∧ (fi D (deAt l i.toNat).pl : Int) < ((mEn D).length : Int))] (by kernel_rfl) ?_
        refine run_nil (blockR_normal (run_nil (joined () hok ?_)))
        have e1 : mEn (addE D (deAt l i.toNat).pl) = setEnt (mEn D) (fi D (deAt l i.toNat).pl) [cI (IntKind.i64.wrap (valE D (deAt l i.toNat).pl + 1))] := by rw [set_key hf, addE, if_pos hf]
        rw [e1]
        exact wkTo [4, 14, 15, 16] [6] (by kernel_rfl)
      · refine reg mix [(2, hcon c24), (3, .key none [.nil]), (5, .key none [])]
          [pf c24, pf keyPc, pf (or_no (z := [cI 0]) (key_no hf)), pf keyPc, pf (key_no hf), pf ((by rw [List.length_append, List.length_singleton]; omega) : (0 : Int) ≤ ((mEn D).length : Int) ∧ ((mEn D).length : Int) < ((mEn D ++ [(encPc (deAt l i.toNat).pl, [cI 0])]).length : Int))] (by kernel_rfl) ?_
        refine run_nil (blockR_normal (run_nil (joined () hok ?_)))
        have e1 : mEn (addE D (deAt l i.toNat).pl) = setEnt (mEn D ++ [(encPc (deAt l i.toNat).pl, [cI 0])]) (mEn D).length [cI (IntKind.i64.wrap (0 + 1))] := by
          rw [show IntKind.i64.wrap (0 + 1) = 1 from rfl, set_new, addE, if_neg hf]
        rw [e1]
        exact wkTo [4, 14, 15, 16] [6] (by kernel_rfl)
    · rintro _ hok
      refine reg0 mix (by kernel_rfl) ?_
      refine run_nil (loopR_next (IntKind.i64.wrap (i + 1)) ?_ ?_ ?_)
      · have e2 : tal (l.take (IntKind.i64.wrap (i + 1)).toNat) = addE D (deAt l i.toNat).pl := by rw [e, show (i + 1).toNat = i.toNat + 1 by omega, hD1]
        rw [e2]
        exact wkTo [4, 14, 15, 16] [] (by kernel_rfl)
      · rw [e]
        refine ⟨by omega, by omega, fun k hk => ?_⟩
        rcases (by omega : (k : Int) < i ∨ k = i.toNat) with hk' | hk'
        · exact h2 k hk'
        · rw [hk']; exact hok
      · rw [e]; omega
  have hc : ¬ i < l.length := of_decide_eq_false hc
  refine run_exit (loopR_exit (blockR_exit ?_))
  have et : l.take i.toNat = l := List.take_of_length_le (by omega)
  have hall : l.all okDe = true := List.all_eq_true.2 fun d hd => by
    obtain ⟨k, hk, rfl⟩ := List.getElem_of_mem hd
    have := h2 k (by omega)
    simpa [deAt, List.getD_eq_getElem?_getD, hk] using this
  have hR : cntR l = (cnt l, 0) := by rw [cntR, if_neg hl, if_pos hall]
  rw [et, hR]
  have hDk : ∀ e, e ∈ tal l → exB e.1 = true := fun e he => by
    obtain ⟨d, hd, h'⟩ := tal_key l e he
    rw [h']
    exact (ok_iff.1 (List.all_eq_true.1 hall d hd)).1
  have hDl := tal_len l
  obtain ⟨S, hp, hs, c25⟩ := f25 (tal l) (by omega) hDk
  have hcnt := tal_cnt (by omega) hp hs
  have hT := tal_tal l (by omega)
  generalize hDe : tal l = D at hp hcnt hT hDl c25 ⊢
  have c26 := f26 D
  have hSl : S.length = D.length := by rw [hp.length_eq, List.length_map]
  refine reg0 mix (by kernel_rfl) ?_
  refine run_weaken (wk_nilRow 7 1 37 4 (by kernel_rfl) (by kernel_rfl) (by omega)) ?_ (List.cons_ne_nil _ _)
  refine frzMap hB 4 13 true false (mEn D) [7] [] (by kernel_rfl) (by kernel_rfl) (by kernel_rfl) ?_ (List.cons_ne_nil _ _)
  refine regC mix [(1, con c26), (2, con c25)] (by kernel_rfl) ?_
  refine rBlock ?_
  refine rLoop (fun j : Int => cs11 (mEn D) S j (((S.take j.toNat).map (taE D)).length) (rowTa ((S.take j.toNat).map (taE D)))) (fun j => 0 ≤ j ∧ j ≤ S.length) (fun j => (S.length - j).toNat) 0 (wkTo [4, 7, 33, 34, 35] [] (by kernel_rfl)) ⟨by omega, by omega⟩ ?_
  rintro j ⟨h0, h1⟩
  refine reg0 mix (by kernel_rfl) ?_
  refine rCond (decide (j < (S.length : Int))) (by kernel_rfl) (fun hc => ?_) (fun hc => ?_)
  · have hc : j < S.length := of_decide_eq_true hc
    have e : IntKind.i64.wrap (j + 1) = j + 1 := w64 _ (by omega) (by omega)
    have hj : 0 ≤ j ∧ j < (S.length : Int) := ⟨h0, hc⟩
    obtain ⟨p, hpd⟩ : ∃ p, p = S.getD j.toNat zPc := ⟨_, rfl⟩
    have hpm : p ∈ D.map (·.1) := by
      rw [← hp.mem_iff, hpd, List.getD_eq_getElem?_getD, List.getElem?_eq_getElem (by omega : j.toNat < S.length)]
      exact List.getElem_mem _
    obtain ⟨hf, hv1, hv2⟩ := hT.valE hpm
    have hst : (S.take (j.toNat + 1)).map (taE D) = (S.take j.toNat).map (taE D) ++ [taE D p] := by
      have hjl : j.toNat < S.length := by omega
      have hpe : S[j.toNat]'hjl = p := by rw [hpd]; simp [List.getD_eq_getElem?_getD, hjl]
      rw [List.take_succ_eq_append_getElem hjl, List.map_append, hpe]
      rfl
    have hln : ((S.take j.toNat).map (taE D)).length = (rowTa ((S.take j.toNat).map (taE D))).length := (rowTa_len _).symm
    have hle : ((S.take j.toNat).map (taE D)).length ≤ 1000000 := by rw [List.length_map, List.length_take]; omega
    refine rBlock ?_
    refine reg mix [] [pf hj] (by kernel_rfl) ?_
    refine run_weaken (s' := ct11 (mEn D) S j (((S.take j.toNat).map (taE D)).length) (rowTa ((S.take j.toNat).map (taE D))) (S.getD j.toNat zPc)) (wkTo [4, 7, 9, 33, 34, 35] [] (by kernel_rfl)) ?_ (List.cons_ne_nil _ _)
    rw [← hpd]
    refine reg mix [(9, .key (some (fi D p)) [cI (valE D p)])] [pf keyPc, pf (key_at hf), pf (key_val hf), pf hln, pf ((by omega) : (((S.take j.toNat).map (taE D)).length + 1) * 33 ≤ 140737488355328), pf (rfl : 1 = [encTa (taE D p)].length)] (by kernel_rfl) ?_
    refine run_nil (blockR_normal ?_)
    refine reg0 mix (by kernel_rfl) ?_
    refine run_nil (loopR_next (IntKind.i64.wrap (j + 1)) ?_ ?_ ?_)
    · rw [show cs11 (mEn D) S (IntKind.i64.wrap (j + 1)) (((S.take (IntKind.i64.wrap (j + 1)).toNat).map (taE D)).length) (rowTa ((S.take (IntKind.i64.wrap (j + 1)).toNat).map (taE D))) = cs11 (mEn D) S (IntKind.i64.wrap (j + 1)) (((S.take j.toNat).map (taE D)).length + 1) (rowTa ((S.take j.toNat).map (taE D)) ++ [encTa (taE D p)]) by
        rw [e, show (j + 1).toNat = j.toNat + 1 by omega, hst, List.length_append, rowTa, List.map_append]; rfl]
      exact wkTo [4, 7, 33, 34, 35] [9, 50] (by kernel_rfl)
    · rw [e]; omega
    · rw [e]; omega
  have hc : ¬ j < S.length := of_decide_eq_false hc
  refine run_exit (loopR_exit (blockR_exit ?_))
  have et : S.take j.toNat = S := List.take_of_length_le (by omega)
  rw [et, hcnt]
  refine reg0 mix (by kernel_rfl) ?_
  refine frzRow hB 2 1 (cnt l).length 37 4 (rowTa (cnt l)) (elTa (cnt l)) [3] [] (by kernel_rfl) (by kernel_rfl) (rowTa_len _).symm (fun k hk => by simp [rowTa, elTa, List.getD_eq_getElem?_getD, hk]) (by kernel_rfl) ?_ (List.cons_ne_nil _ _)
  exact run_ret (ret_of (.tup [lTa (cnt l), vI 0]) (by kernel_rfl) rfl)
end Go.Proofs.Ytaaplpbjjnechaa
