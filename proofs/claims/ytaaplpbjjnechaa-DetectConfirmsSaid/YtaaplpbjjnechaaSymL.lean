/-
  THE SYMBOLIC LAYER, PART L: small words for the scripts.
-/
import Derived.Test.YtaaplpbjjnechaaSymK
import Derived.KernelRfl
namespace Go.Sym
open Go.RowKit

variable {P : Program} {B : Base P}

abbrev cI (n : Int) : C := .int .i64 n
abbrev cB (b : Bool) : C := .bool b
abbrev vI (n : Int) : CV := .c (.int .i64 n)
abbrev vB (b : Bool) : CV := .c (.bool b)

/-- A table of slots out of those that are told. -/
def lookT (l : List (Nat × SV)) (k : Nat) : SV :=
  match l with
  | [] => .junk
  | (j, x) :: r => match Nat.beq j k with
    | true => x
    | false => lookT r k
def lookM (l : List (Nat × MO)) (k : Nat) : Option MO :=
  match l with
  | [] => none
  | (j, x) :: r => match Nat.beq j k with
    | true => some x
    | false => lookM r k
def tabT (l : List (Nat × SV)) : Nat → Nat → List SV
  | 0, _ => []
  | n + 1, k => lookT l k :: tabT l n (k + 1)
def tabM (l : List (Nat × MO)) : Nat → Nat → List (Option MO)
  | 0, _ => []
  | n + 1, k => lookM l k :: tabM l n (k + 1)
def mkS (n : Nat) (t : List (Nat × SV)) (m : List (Nat × MO)) : S := ⟨tabT t n 0, tabM m n 0, []⟩

theorem run_cond_t {s : S} {c : Operand} {x y : Code} {cs : List Code} {Q : Exit → S → Prop} (b : Bool) (hc : s.ev [] c = some (.v (.c (.bool b)))) (hb : b = true) (h : Run P B s (x :: cs) Q) : Run P B s (.cond c x y :: cs) Q :=
  run_cond b hc (fun _ => h) (fun h' => by rw [hb] at h'; cases h')
theorem run_cond_f {s : S} {c : Operand} {x y : Code} {cs : List Code} {Q : Exit → S → Prop} (b : Bool) (hc : s.ev [] c = some (.v (.c (.bool b)))) (hb : b = false) (h : Run P B s (y :: cs) Q) : Run P B s (.cond c x y :: cs) Q :=
  run_cond b hc (fun h' => by rw [hb] at h'; cases h') (fun _ => h)

theorem ret_of {rs : List ResultVar} {r : SB} {s : S} (r' : SB) (h : resOf P s rs = some r') (e : r' = r) : Ends P rs r .ret s := ⟨.inl rfl, e ▸ h⟩
theorem end_of {rs : List ResultVar} {r : SB} {s : S} (r' : SB) (h : resOf P s rs = some r') (e : r' = r) : Ends P rs r .normal s := ⟨.inr rfl, e ▸ h⟩

/-- The state is slimmed to a told one. -/
theorem wk_of {s s' : S} (ks ns : List Nat) (h : s.slim ks ns = some s') : Wk P s s' := wk_slim h
theorem wk_eq {s s' s'' : S} (h : Wk P s s') (e : s' = s'') : Wk P s s'' := e ▸ h

end Go.Sym
