/-
  THE SYMBOLIC LAYER, PART AA: how keys of flat cells are looked up.
-/
import Derived.Test.YtaaplpbjjnechaaSymS
namespace Go.Sym
open Go.RowKit

section
variable {P : Program}

theorem run_checkFields_flat {d0 d : Nat} {em : Bool} (ih : ∀ t l, flatTy P d0 t = some l → ∀ (w : World) (us : List Value), MatchF l us → (Instr.checkKey em d t (wrapV P t us)).run P w = .ok () w) (w : World) (xs : Array Value) :
    ∀ (fs : List Field) (off : Nat) (l : List Flat), flatFields (flatTy P d0) P.cellsOf off fs = some l → MatchF l (xs.toList.drop off) →
    (forIn (m := Sem) fs PUnit.unit fun f _ => do
      if f.name ≠ "_" then Instr.checkKey em d f.type (← Go.part f.type xs f.offset)
      pure (ForInStep.yield PUnit.unit)).run P w = .ok PUnit.unit w := by
  intro fs
  induction fs with
  | nil => intro off l h h1; simp
  | cons f fs ihf =>
    intro off l h h1
    simp only [flatFields] at h
    split at h
    case isFalse => cases h
    rename_i hn
    split at h
    case h_2 => cases h
    rename_i lf hlf
    split at h
    case isFalse => cases h
    rename_i hsz
    simp only [Option.map_eq_some_iff] at h
    obtain ⟨lr, hlr, rfl⟩ := h
    have hxl := h1.left
    have hxr := h1.right
    rw [List.drop_drop] at hxr
    have hrec := ihf (off + lf.length) lr hlr hxr
    have p1 := run_part_flat (P := P) w (xs := xs) (off := off) hlf hsz hxl
    have p3 := ih _ _ hlf w _ hxl
    simp only [List.forIn_cons, Sem.run_bind, hn.1, ne_eq, not_false_eq_true, if_true, hn.2, p1, p3, Result.andThen_ok, Sem.run_pure]
    exact hrec

theorem run_checkItems_flat {d0 d : Nat} {em : Bool} {e : TypeId} {i : TypeInfo} {l : List Flat} (hi : P.info? e = some i) (hl : flatTy P d0 e = some l) (hsz : P.cellsOf e = l.length)
    (ih : ∀ (w : World) (us : List Value), MatchF l us → (Instr.checkKey em d e (wrapV P e us)).run P w = .ok () w) (w : World) (xs : Array Value) : ∀ (n k : Nat), MatchF (repL l n) (xs.toList.drop (k * l.length)) →
    (forIn (m := Sem) (List.range' k n) PUnit.unit fun j _ => do
      Instr.checkKey em d e (← Go.part e xs (j * (← sizeOf e)))
      pure (ForInStep.yield PUnit.unit)).run P w = .ok PUnit.unit w := by
  intro n
  induction n with
  | zero => intro k h1; simp
  | succ n ihn =>
    intro k h1
    simp only [repL] at h1
    have hxl := h1.left
    have hxr := h1.right
    have e : k * l.length + l.length = (k + 1) * l.length := by rw [Nat.add_mul, Nat.one_mul]
    rw [List.drop_drop, e] at hxr
    have hrec := ihn (k + 1) hxr
    have p1 := run_part_flat (P := P) w (xs := xs) (off := k * l.length) hl hsz hxl
    have p3 := ih w _ hxl
    simp only [List.range'_succ, List.forIn_cons, Sem.run_bind, Go.run_sizeOf w hi, hsz, p1, p3, Result.andThen_ok, Sem.run_pure]
    exact hrec

theorem chkFl_of (em : Bool) (k : Nat) : ∀ (d : Nat) (t : TypeId) (l : List Flat), flatTy P d t = some l → ∀ (w : World) (us : List Value), MatchF l us → (Instr.checkKey em (k + d) t (wrapV P t us)).run P w = .ok () w
  | 0, t, l, h => by simp [flatTy] at h
  | d + 1, t, l, h => by
    intro w us h1
    unfold flatTy at h
    have one : ∀ f, l = [f] → ∃ u, us = [u] ∧ Flat.val f u := by
      intro f hf
      subst hf
      match us, h1.1 with
      | [u], _ => exact ⟨u, rfl, h1.2 0 f u rfl rfl⟩
    rw [show k + (d + 1) = (k + d) + 1 from rfl, Instr.checkKey]
    split at h
    · rename_i hu
      obtain ⟨u, rfl, ⟨a, rfl⟩⟩ := one _ (Option.some.inj h).symm
      simp [Sem.run_bind, run_underlying hu, wrapV, isAggT, hu]
    · rename_i q hu
      obtain ⟨u, rfl, ⟨a, rfl⟩⟩ := one _ (Option.some.inj h).symm
      simp [Sem.run_bind, run_underlying hu, wrapV, isAggT, hu]
    · rename_i hu
      obtain ⟨u, rfl, ⟨a, rfl⟩⟩ := one _ (Option.some.inj h).symm
      simp [Sem.run_bind, run_underlying hu, wrapV, isAggT, hu]
    · rename_i fs hu
      split at h
      case isFalse => cases h
      have hag : isAggT P t = true := by simp [isAggT, hu]
      simp only [wrapV, hag, if_true, Sem.run_bind, run_underlying hu, Result.andThen_ok]
      rw [← Array.forIn_toList]
      have := run_checkFields_flat (P := P) (em := em) (fun t l h => chkFl_of em k d t l h) w us.toArray fs.toList 0 l h (by simpa using h1)
      simp at this ⊢
      simp [this]
    · rename_i n e hu
      split at h
      case h_2 => cases h
      rename_i le hle
      split at h
      case isFalse => cases h
      rename_i hsz
      cases h
      obtain ⟨i, hi⟩ := flatTy_info hle
      have hag : isAggT P t = true := by simp [isAggT, hu]
      simp only [wrapV, hag, if_true, Sem.run_bind, run_underlying hu, Result.andThen_ok]
      simp only [Std.Legacy.Range.forIn_eq_forIn_range', Std.Legacy.Range.size, Nat.sub_zero, Nat.add_one_sub_one, Nat.div_one]
      have := run_checkItems_flat (P := P) (em := em) hi hle hsz (chkFl_of em k d e le hle) w us.toArray n 0 (by simpa using h1)
      simp at this ⊢
      simp [this]
    · cases h

theorem bytes_beq (a b : ByteArray) : (a == b) = (a.toList == b.toList) := by
  rw [ByteArray.toList_eq, ByteArray.toList_eq]
  show (a.data == b.data) = _
  rw [Bool.eq_iff_iff, beq_iff_eq, beq_iff_eq]
  exact ⟨fun h => by rw [h], fun h => Array.toList_inj.1 h⟩

/-- How keys of a type of flat cells are looked up. -/
theorem keyTy_of (d : Nat) {t : TypeId} {fs : List Flat} (h : flatTy P d t = some fs) (hd : d ≤ 10000) {kagg : Bool} (ha : isAggT P t = kagg) : KeyTy P t kagg fs := by
  intro w us hu h1
  have hM : MatchF fs us := ⟨hu, h1⟩
  have hmk : mkV kagg us = wrapV P t us := by
    subst ha
    unfold mkV wrapV
    cases isAggT P t with
    | true => rfl
    | false => cases us <;> rfl
  have hkv : ∀ e : MapEntry, keyIs kagg fs e → e.key = wrapV P t e.key.cells.toList ∧ MatchF fs e.key.cells.toList := by
    intro e he
    refine ⟨?_, by simpa using he.2.1, he.2.2⟩
    have ho := he.1
    subst ha
    unfold wrapV
    generalize hk : isAggT P t = kagg at ho
    cases kagg with
    | true => obtain ⟨arr, h⟩ := ho; rw [h]; simp [Value.cells]
    | false => simp [oneOr_cells ho]
  have heq : ∀ e : MapEntry, keyIs kagg fs e → (Op.equal t (mkV kagg us) e.key).run P w = .ok (eqVals us e.key.cells.toList) w := by
    intro e he
    obtain ⟨g1, g2⟩ := hkv e he
    have := eqFl_of (P := P) (10000 - d) d t fs h w us _ hM g2
    rw [show 10000 - d + d = 10000 by omega, ← g1, ← hmk] at this
    exact this
  obtain ⟨kind, hkind⟩ : ∃ kind, P.underlying t = some kind := by
    cases d with
    | zero => simp [flatTy] at h
    | succ d =>
      unfold flatTy at h
      cases hu : P.underlying t with
      | none => simp [hu] at h
      | some k => exact ⟨k, rfl⟩
  have hsame : ∀ e : MapEntry, keyIs kagg fs e → Instr.sameNow kind (mkV kagg us) e.key = none ∨ Instr.sameNow kind (mkV kagg us) e.key = some (eqVals us e.key.cells.toList) := by
    intro e he
    cases d with
    | zero => simp [flatTy] at h
    | succ d =>
      unfold flatTy at h
      simp only [hkind] at h
      have one : ∀ f, fs = [f] → kagg = false → (∃ u, us = [u] ∧ Flat.val f u) ∧ ∃ v, e.key = v ∧ Flat.val f v ∧ e.key.cells.toList = [v] := by
        intro f hf hka
        subst hf hka
        constructor
        · match us, hu with
          | [u], _ => exact ⟨u, rfl, h1 0 f u rfl rfl⟩
        · have := he.2.2 0 f
          rw [oneOr_cells he.1] at this ⊢
          exact ⟨_, rfl, this _ rfl rfl, rfl⟩
      split at h
      · rename_i hk2
        cases hk2
        obtain ⟨⟨u, rfl, ⟨a, rfl⟩⟩, v, hv, ⟨b, rfl⟩, hc⟩ := one _ (Option.some.inj h).symm (by rw [← ha]; simp [isAggT, hkind])
        rw [hc, hv]
        subst ha
        simp [mkV, isAggT, hkind, Instr.sameNow, eqVals]
      · rename_i q hk2
        cases hk2
        obtain ⟨⟨u, rfl, ⟨a, rfl⟩⟩, v, hv, ⟨b, rfl⟩, hc⟩ := one _ (Option.some.inj h).symm (by rw [← ha]; simp [isAggT, hkind])
        rw [hc, hv]
        subst ha
        simp [mkV, isAggT, hkind, Instr.sameNow, eqVals]
      · rename_i hk2
        cases hk2
        obtain ⟨⟨u, rfl, ⟨a, rfl⟩⟩, v, hv, ⟨b, rfl⟩, hc⟩ := one _ (Option.some.inj h).symm (by rw [← ha]; simp [isAggT, hkind])
        rw [hc, hv]
        subst ha
        simp [mkV, isAggT, hkind, Instr.sameNow, eqVals, bytes_beq]
      · rename_i fs' hk2
        cases hk2
        left
        simp [Instr.sameNow]
      · rename_i n e' hk2
        cases hk2
        left
        simp [Instr.sameNow]
      · cases h
  have ask : ∀ (es : List MapEntry) (k : Nat), (∀ (j : Nat) (e : MapEntry), es[j]? = some e → keyIs kagg fs e ∧ eqVals us e.key.cells.toList = false) →
      (Instr.findAsking t (mkV kagg us) es k).run P w = .ok none w ∧ (Instr.findNow kind (mkV kagg us) es k = none ∨ Instr.findNow kind (mkV kagg us) es k = some none) := by
    intro es
    induction es with
    | nil => intro k _; exact ⟨by simp [Instr.findAsking], .inr rfl⟩
    | cons e es ih =>
      intro k hall
      obtain ⟨g1, g2⟩ := hall 0 e rfl
      obtain ⟨r1, r2⟩ := ih (k + 1) fun j e' he' => hall (j + 1) e' (by simpa using he')
      refine ⟨by simp only [Instr.findAsking, Sem.run_bind, heq e g1, g2, Result.andThen_ok]; simpa using r1, ?_⟩
      rcases hsame e g1 with h | h
      · left; simp [Instr.findNow, h]
      · rw [g2] at h; simpa [Instr.findNow, h] using r2
  have ask2 : ∀ (es : List MapEntry) (i k : Nat) (e : MapEntry), es[i]? = some e → (∀ (j : Nat) (e' : MapEntry), j < i → es[j]? = some e' → keyIs kagg fs e' ∧ eqVals us e'.key.cells.toList = false) → keyIs kagg fs e → eqVals us e.key.cells.toList = true →
      (Instr.findAsking t (mkV kagg us) es k).run P w = .ok (some (k + i, e.val)) w ∧ (Instr.findNow kind (mkV kagg us) es k = none ∨ Instr.findNow kind (mkV kagg us) es k = some (some (k + i, e.val))) := by
    intro es
    induction es with
    | nil => intro i k e he; simp at he
    | cons e0 es ih =>
      intro i k e he hall g1 g2
      cases i with
      | zero =>
        simp only [List.getElem?_cons_zero, Option.some.injEq] at he
        subst he
        refine ⟨by simp [Instr.findAsking, Sem.run_bind, heq e0 g1, g2, Result.andThen_ok], ?_⟩
        rcases hsame e0 g1 with h | h
        · left; simp [Instr.findNow, h]
        · rw [g2] at h; right; simp [Instr.findNow, h]
      | succ i =>
        obtain ⟨p1, p2⟩ := hall 0 e0 (by omega) rfl
        obtain ⟨r1, r2⟩ := ih i (k + 1) e (by simpa using he) (fun j e' hj he' => hall (j + 1) e' (by omega) (by simpa using he')) g1 g2
        rw [show k + 1 + i = k + (i + 1) by omega] at r1 r2
        refine ⟨by simp only [Instr.findAsking, Sem.run_bind, heq e0 p1, p2, Result.andThen_ok]; simpa using r1, ?_⟩
        rcases hsame e0 p1 with h | h
        · left; simp [Instr.findNow, h]
        · rw [p2] at h; simpa [Instr.findNow, h] using r2
  refine ⟨fun em => ?_, fun es hall => ?_, fun es i e he hall g1 g2 => ?_⟩
  · have := chkFl_of (P := P) em (10000 - d) d t fs h w us hM
    rw [show 10000 - d + d = 10000 by omega, ← hmk] at this
    exact this
  · obtain ⟨r1, r2⟩ := ask es 0 hall
    simp only [Instr.findKey, Sem.run_bind, run_underlying hkind, Result.andThen_ok]
    rcases r2 with h | h
    · rw [h]; exact r1
    · rw [h]; rfl
  · obtain ⟨r1, r2⟩ := ask2 es i 0 e he hall g1 g2
    rw [Nat.zero_add] at r1 r2
    simp only [Instr.findKey, Sem.run_bind, run_underlying hkind, Result.andThen_ok]
    rcases r2 with h | h
    · rw [h]; exact r1
    · rw [h]; rfl
end
end Go.Sym
