/-
  THE SYMBOLIC LAYER, PART M: functions that are ranged over.
-/
import Derived.Test.YtaaplpbjjnechaaSymL
namespace Go.Sym
open Go.RowKit

variable {P : Program} {B : Base P} {E : Env} {w : World}

/-- How often yield is called, of n times, where it says 'more' k times. -/
def stopN (k n : Nat) : Nat := match Nat.blt k n with
  | true => k + 1
  | false => n

theorem stopN_lt {k n : Nat} (h : k < n) : stopN k n = k + 1 := by
  have : Nat.blt k n = true := by simpa using h
  simp [stopN, this]
theorem stopN_eq (n : Nat) : stopN n n = n := by
  have : Nat.blt n n = false := by
    cases h : Nat.blt n n with
    | false => rfl
    | true => exact absurd (Nat.lt_of_lt_of_le (Nat.le_of_ble_eq_true h) (Nat.le_refl _)) (Nat.lt_irrefl n)
  simp only [stopN, this]

/-- What changes between two calls of yield, as the one who ranges sees it. -/
structure Since (K : Know) (w : World) (K' : Know) (w' : World) : Prop where
  le : K.le K'
  nk : ∀ b, b < w.heap.size → K b = none → K' b = none
  know : Knows K' w'
  os : w'.os = w.os
  tape : w'.tape = w.tape
  output : w'.output = w.output
  size : w.heap.size ≤ w'.heap.size
  old : ∀ b, b < w.heap.size → w'.heap[b]? = w.heap[b]?

theorem yieldAt_mono {F : Fence} {m : Nat} {l : Nat} {args : Array Value} {W : World} {R R' : Ending → World → Prop} (h : YieldAt F m P l args W R) (hr : ∀ e w, R e w → R' e w) : YieldAt F m P l args W R' := by
  obtain ⟨fn, tmps, assign, body, hy, hR⟩ := h
  exact ⟨fn, tmps, assign, body, hy, hR.mono hr⟩

/-- What walks over a map or a string. -/
def walks : Obj → Bool
  | .mapIter .. => true
  | .stringIter .. => true
  | _ => false

/-- What calls of yield do. -/
def YieldsTo (P : Program) (l : Nat) (xs : List (List CV)) (k : Nat) (J : Nat → Know → World → Prop) : Prop :=
  ∀ i K w K' w' vs, J i K w → Since K w K' w' → i < xs.length → i ≤ k → vs.size = (xs.getD i []).length → (∀ j, j < (xs.getD i []).length → RelCVK K' ((xs.getD i []).getD j (.c .junk)) (vs.getD j undef)) →
    YieldAt (FB none) 0 P l vs w' fun e w'' => e = .returned (.bool (decide (i < k))) ∧ (∀ (b : Nat) (o : Obj), w'.heap[b]? = some o → walks o = true → w''.heap[b]? = some o) ∧ ∃ K'', K'.le K'' ∧ (∀ b, b < w'.heap.size → K' b = none → K'' b = none) ∧ Knows K'' w'' ∧ J (i + 1) K'' w''

/-- f, on these captured values, is ranged over: it hands yield xs in order, and stops when it is told. -/
structure FIter (P : Program) (f : FuncId) (caps : List C) (xs : List (List CV)) : Prop where
  known : ∃ fn, P.funcs[f]? = some fn ∧ fn.body.isSome = true ∧ (fn.name == "runtime.NumGoroutine") = false
  calls : ∀ (l k : Nat) (J : Nat → Know → World → Prop) (K : Know) (w : World) (vs : Array Value), k ≤ xs.length → YieldsTo P l xs k J → J 0 K w → Knows K w → vs.size = caps.length →
    (∀ j, j < caps.length → RelK K (caps.getD j .junk) (vs.getD j undef) ∧ (vs.getD j undef).oneCell' = true) →
    CallsIn (FB none) 0 P f (#[Value.func (.yield l) #[] #[]] ++ vs) w fun e w' => (∃ v, e = .returned v) ∧ ∃ K1 w1 K', J (stopN k xs.length) K1 w1 ∧ Since K1 w1 K' w'

def iterBase {l : Nat} {xs : List (List CV)} {k : Nat} {J : Nat → Know → World → Prop} (hy : YieldsTo P l xs k J) : Base P :=
  { r := none, fn := false, N := 0, W := fun _ => False, l := l, xs := xs, k := k, fix := fun _ => undef, J := J, fnN := fun h => (by cases h),
    yields := fun i K w K' w' vs hJ hle hnk hkn h hi hk hs hr => yieldAt_mono (hy i K w K' w' vs hJ ⟨hle, hnk, hkn, h.1, h.2.1, h.2.2.1, h.2.2.2.1, fun b hb => h.2.2.2.2 b hb (fun h => h)⟩ hi hk hs hr) fun _ _ h => ⟨h.1, h.2.2⟩ }

/-- The state at the start of a function that is ranged over. -/
def iterS (n : Nat) (caps : List C) (xs : List (List CV)) (k : Nat) : S :=
  { t := .b (.v (.c (.yld 0))) :: (caps.map (fun x => .b (.v (.c x))) ++ List.replicate (n - (1 + caps.length)) .junk), m := some (.cnt 0 xs k) :: List.replicate n none, g := [] }

/-- ... and at its end. -/
def IterEnds (_ : Program) (xs : List (List CV)) (k : Nat) (e : Exit) (s : S) : Prop := (e = .ret ∨ e = .normal) ∧ s.m[0]? = some (some (.cnt (stopN k xs.length) xs k))

theorem fiter_of_run {f : FuncId} {fn : Func} {c : Code} {caps : List C} {xs : List (List CV)} (hf : P.funcs[f]? = some fn) (hb : fn.body = some c) (hname : (fn.name == "runtime.NumGoroutine") = false) (hres : fn.results.toList = [])
    (ht : ∀ (k : Nat) (B : Base P), k ≤ xs.length → B.r = none → Run P B (iterS fn.ntmps caps xs k) [c] (IterEnds P xs k)) : FIter P f caps xs := by
  refine ⟨⟨fn, hf, by rw [hb]; rfl, hname⟩, ?_⟩
  intro l k J K w cvs hk hy hJ hK hsz hrel
  have hargs : (#[Value.func (.yield l) #[] #[]] ++ cvs).size = 1 + caps.length := by simp [hsz]
  have hsim : Sim (iterBase hy) { K := K, cel := fun _ => none, rw := fun _ => none, mp := fun _ => none, c := { w0 := w, K0 := K, ds := [], l := l, i := 0, xs := xs, k := k, fix := fun _ => undef } } (iterS fn.ntmps caps xs k)
      { tmps := (#[Value.func (.yield l) #[] #[]] ++ cvs) ++ Array.replicate (fn.ntmps - (#[Value.func (.yield l) #[] #[]] ++ cvs).size) undef, defers := [] } w := by
    refine ⟨?_, ?_, rfl, fun j x hj => ?_⟩
    · exact
      { know := hK
        base := Know.le_refl _
        nk := fun _ _ h => h
        mem := fun n o h => by
          cases n with
          | zero => simp [iterS] at h; subst h; exact ⟨rfl, rfl, rfl⟩
          | succ n => exact (replicate_none (by simpa [iterS] using h)).elim
        cel := fun n b h => by cases h
        rw := fun n x h => by cases h
        mp := fun n b h => by cases h
        inj := fun n n' b h => by rcases h with h | h | ⟨_, _, h, _⟩ <;> cases h
        apart := fun n b h => by rcases h with h | h | ⟨_, _, h, _⟩ <;> cases h
        new := fun n b h => by rcases h with h | h | ⟨_, _, h, _⟩ <;> cases h
        lt := fun n b h => by rcases h with h | h | ⟨_, _, h, _⟩ <;> cases h
        os := rfl
        tape := rfl
        output := rfl
        size := Nat.le_refl _
        old := fun _ _ _ => rfl
        j := hJ
        y := ⟨rfl, rfl, rfl, rfl⟩
        dsk := fun D hD => by simp at hD
        dsn := List.nodup_nil }
    · simp [iterS, hsz]; omega
    · cases j with
      | zero =>
        simp [iterS] at hj
        subst hj
        have : ((#[Value.func (.yield l) #[] #[]] ++ cvs) ++ Array.replicate (fn.ntmps - (#[Value.func (.yield l) #[] #[]] ++ cvs).size) undef).getD 0 undef = Value.func (.yield l) #[] #[] := by
          rw [Array.getD_eq_getD_getElem?, Array.getElem?_append_left (by simp; omega), Array.getElem?_append_left (by simp)]
          rfl
        rw [this]
        exact ⟨rfl, rfl⟩
      | succ j =>
        simp only [iterS, List.getElem?_cons_succ] at hj
        by_cases hlt : j < caps.length
        · rw [List.getElem?_append_left (by simpa using hlt)] at hj
          simp only [List.getElem?_map, Option.map_eq_some_iff] at hj
          obtain ⟨y, hy', rfl⟩ := hj
          have e1 : ((#[Value.func (.yield l) #[] #[]] ++ cvs) ++ Array.replicate (fn.ntmps - (#[Value.func (.yield l) #[] #[]] ++ cvs).size) undef).getD (j + 1) undef = cvs.getD j undef := by
            rw [Array.getD_eq_getD_getElem?, Array.getD_eq_getD_getElem?, Array.getElem?_append_left (by rw [hargs]; omega), Array.getElem?_append_right (by simp)]
            simp
          rw [e1]
          have h := hrel j hlt
          have e2 : caps.getD j .junk = y := by simp [List.getD_eq_getElem?_getD, hy']
          rw [e2] at h
          exact ⟨Rel.of_relK h.1, h.2⟩
        · rw [List.getElem?_append_right (by simpa using Nat.le_of_not_lt hlt)] at hj
          rw [List.getElem?_replicate] at hj
          split at hj
          · rw [← Option.some.inj hj]; trivial
          · cases hj
  refine callsIn_of_wp hf hb trivial ?_ rfl
  refine wpIn_mono ((run_tri (ht k (iterBase hy) hk rfl)) _ _ _ hsim) ?_
  rintro e a' w' ⟨E', s', ⟨he, hm⟩, hs'⟩
  have hc := hs'.core
  obtain ⟨hi, hx, hk'⟩ : stopN k xs.length = E'.c.i ∧ xs = E'.c.xs ∧ k = E'.c.k := hc.mem 0 _ hm
  have hds : a'.defers = [] := by
    rw [hs'.defers]
    cases hd : E'.c.ds with
    | nil => rfl
    | cons D ds => have := (hc.dsk D (by rw [hd]; simp)).2.2; cases this
  have hJ' : J (stopN k xs.length) E'.c.K0 E'.c.w0 := by rw [hi]; exact hc.j
  obtain ⟨v, hrun, _⟩ := results_run (fn := fn) (r := .tup []) (w' := w') hs' (fun _ _ _ => rfl) (by rw [hres]; rfl)
  have hR : (∃ v', Ending.returned v = .returned v') ∧ ∃ K1 w1 K', J (stopN k xs.length) K1 w1 ∧ Since K1 w1 K' w' :=
    ⟨⟨v, rfl⟩, E'.c.K0, E'.c.w0, E'.K, hJ', ⟨hc.base, hc.nk, hc.know, hc.os, hc.tape, hc.output, hc.size, fun b hb => hc.old b hb (fun h => h)⟩⟩
  rcases he with rfl | rfl
  · exact ⟨hds, v, hrun, hR⟩
  · exact ⟨hds, v, hrun, hR⟩

end Go.Sym
