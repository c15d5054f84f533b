/-
  THE SYMBOLIC LAYER, PART R: the rules on codes laid flat.
-/
import Derived.Test.YtaaplpbjjnechaaSymQ
import Derived.Laws.BitsLemmas
namespace Go.Sym
open Go.RowKit

variable {P : Program} {B : Base P}

def flatC : Code → List Code → List Code
  | .seq a b, cs => flatC a (flatC b cs)
  | .skip, cs => cs
  | .label _, cs => cs
  | c, cs => c :: cs

theorem run_flat : ∀ {c : Code} {s : S} {cs : List Code} {Q : Exit → S → Prop}, Run P B s (flatC c cs) Q → Run P B s (c :: cs) Q := by
  intro c
  induction c with
  | seq a b iha ihb =>
    intro s cs Q h
    refine run_seq (iha ?_)
    have mono : ∀ {l l' : List Code} {s : S}, (∀ s, Run P B s l Q → Run P B s l' Q) → Run P B s (flatC a l) Q → Run P B s (flatC a l') Q := by
      intro l l' s hl
      have key : ∀ {c : Code} {l l' : List Code} {s : S}, (∀ s, Run P B s l Q → Run P B s l' Q) → Run P B s (flatC c l) Q → Run P B s (flatC c l') Q := by
        intro c
        induction c with
        | seq a b iha ihb => intro l l' s hl h; exact iha (fun s h => ihb hl h) h
        | skip => intro l l' s hl h; exact hl s h
        | label n => intro l l' s hl h; exact hl s h
        | _ =>
          intro l l' s hl h
          exact tri_mono h fun e s' hq => by cases e <;> first | exact hl s' hq | exact hq
      exact key hl
    exact mono (fun s h => ihb h) h
  | skip => intro s cs Q h; exact run_skip h
  | label n => intro s cs Q h; exact run_label h
  | _ => intro s cs Q h; exact h

theorem fcall_of {f : FuncId} {fn : Func} {c : Code} {args : List CV} {r : SB} (hf : P.funcs[f]? = some fn) (hb : fn.body = some c) (hname : (fn.name == "runtime.NumGoroutine") = false)
    (ht : ∀ B : Base P, B.Fn → Run P B (initS fn.ntmps args) (flatC c []) (Ends P fn.results.toList r)) : FCall P f args r :=
  fcall_of_tri hf hb hname fun B hB => run_flat (ht B hB)

theorem fiter_of {f : FuncId} {fn : Func} {c : Code} {caps : List C} {xs : List (List CV)} (hf : P.funcs[f]? = some fn) (hb : fn.body = some c) (hname : (fn.name == "runtime.NumGoroutine") = false) (hres : fn.results.toList = [])
    (ht : ∀ (k : Nat) (B : Base P), k ≤ xs.length → B.r = none → Run P B (iterS fn.ntmps caps xs k) (flatC c []) (IterEnds P xs k)) : FIter P f caps xs :=
  fiter_of_run hf hb hname hres fun k B h1 h2 => run_flat (ht k B h1 h2)

theorem rCond {s : S} {c : Operand} {x y : Code} {cs : List Code} {Q : Exit → S → Prop} (b : Bool) (hc : s.ev [] c = some (.v (.c (.bool b)))) (ht : b = true → Run P B s (flatC x cs) Q) (hf : b = false → Run P B s (flatC y cs) Q) :
    Run P B s (.cond c x y :: cs) Q := run_cond b hc (fun h => run_flat (ht h)) (fun h => run_flat (hf h))
theorem rCondT {s : S} {c : Operand} {x y : Code} {cs : List Code} {Q : Exit → S → Prop} (b : Bool) (hc : s.ev [] c = some (.v (.c (.bool b)))) (hb : b = true) (h : Run P B s (flatC x cs) Q) : Run P B s (.cond c x y :: cs) Q := run_cond_t b hc hb (run_flat h)
theorem rCondF {s : S} {c : Operand} {x y : Code} {cs : List Code} {Q : Exit → S → Prop} (b : Bool) (hc : s.ev [] c = some (.v (.c (.bool b)))) (hb : b = false) (h : Run P B s (flatC y cs) Q) : Run P B s (.cond c x y :: cs) Q := run_cond_f b hc hb (run_flat h)
theorem rBlock {s : S} {id : Nat} {c : Code} {cs : List Code} {Q : Exit → S → Prop} (h : Run P B s (flatC c []) (blockR P B id cs Q)) : Run P B s (.block id c :: cs) Q := run_block (run_flat h)
theorem rLoop {σ : Type} {s : S} {c : Code} {cs : List Code} {Q : Exit → S → Prop} (I : σ → S) (R : σ → Prop) (μ : σ → Nat) (x : σ) (hw : Wk P s (I x)) (h0 : R x) (round : ∀ x, R x → Run P B (I x) (flatC c []) (loopR P I R μ x Q)) : Run P B s (.loop c :: cs) Q :=
  run_loop I R μ x hw h0 fun x hx => run_flat (round x hx)
theorem rRange {s : S} {g : Operand} {ps : Array Tmp} {assign body : Code} {cs : List Code} {Q : Exit → S → Prop} {f : FuncId} {caps : List C} {xs : List (List CV)} (hB : B.r = none) (hBf : B.fn = true) (hg : s.ev [] g = some (.v (.c (.clo f caps)))) (hit : FIter P f caps xs)
    (hps : ∀ i, i < xs.length → (xs.getD i []).length = ps.size) (k : Nat) (hk : k ≤ xs.length) (I : Nat → S) (hI : Wk P s (I 0)) (hY : ∀ i, i ≤ k → (I i).noY = true)
    (round : ∀ i, i < xs.length → i ≤ k → ∀ B1 : Base P, Run P B1 (startR (I i) ps.toList (xs.getD i [])) (flatC assign []) (fun e s1 => e = .normal ∧ s1.noY = true ∧ ∀ B2 : Base P, Run P B2 s1 (flatC body []) (roundR P (thenQ (fun s' => Run P B s' cs Q) Q) I i k)))
    (after : k = xs.length → Run P B (I k) cs Q) : Run P B s (.rangeFunc g ps assign body :: cs) Q :=
  run_rangeFunc hB hBf hg hit hps k hk I hI hY (fun i h1 h2 B1 => tri_mono (run_tri (run_flat (round i h1 h2 B1))) fun e s' hq => by
    have h : e = .normal ∧ s'.noY = true ∧ ∀ B2 : Base P, Run P B2 s' (flatC body []) (roundR P (thenQ (fun s' => Run P B s' cs Q) Q) I i k) := by cases e <;> exact hq
    have h2 : e = .normal ∧ s'.noY = true ∧ ∀ B2 : Base P, Run P B2 s' [body] (roundR P (thenQ (fun s' => Run P B s' cs Q) Q) I i k) := ⟨h.1, h.2.1, fun B2 => run_flat (h.2.2 B2)⟩
    obtain ⟨rfl, _⟩ := h
    exact h2) after

theorem w64 (a : Int) (h1 : -9223372036854775808 ≤ a) (h2 : a ≤ 9223372036854775807) : IntKind.i64.wrap a = a := by
  rw [IntKind.wrap_i64]; omega

theorem wkTo {s s' : S} (ks ns : List Nat) (h : s.slim ks ns = some s') : Wk P s s' := wk_slim h

end Go.Sym
