import Derived.Test.YtmdgbejfdcfhpaaT20F
namespace Go.Proofs.Ytmdgbejfdcfhpaa
open Go.Sym
set_option linter.unusedVariables false
set_option linter.unusedSimpArgs false

/-! ### The reference's Latest -/
def pick1 (l : List Ca) (tk : List Bool) (p : Ca → Bool) (b : Int) (i : Nat) : Bool :=
  (!tk.getD i false && p (l.getD i zCa)) && (decide (b < 0) || decide ((l.getD i zCa).at' ≥ (l.getD b.toNat zCa).at'))
def bst (l : List Ca) (tk : List Bool) (p : Ca → Bool) : Nat → Int
  | 0 => -1
  | i + 1 => if pick1 l tk p (bst l tk p i) i then i else bst l tk p i
theorem bst_bound (l : List Ca) (tk : List Bool) (p : Ca → Bool) : ∀ i, -1 ≤ bst l tk p i ∧ bst l tk p i < i
  | 0 => by simp [bst]
  | i + 1 => by
    have := bst_bound l tk p i
    simp only [bst]; split <;> omega
def lat (l : List Ca) (p : Ca → Bool) : Nat → List Bool → List Ca → List Ca
  | 0, _, out => out
  | n + 1, tk, out => if bst l tk p l.length < 0 then out else lat l p n (tk.set (bst l tk p l.length).toNat true) (out ++ [l.getD (bst l tk p l.length).toNat zCa])
def latest (l : List Ca) (p : Ca → Bool) : List Ca := lat l p 5 (List.replicate l.length false) []

def encPx (x : Ca) : List C := [cI x.a, cI x.b, cI x.c, cI x.d]
def elPx (l : List Ca) (i : Nat) : List C := encPx (l.getD i zCa)
def lPx (l : List Ca) : CV := .c (.lst 4 l.length (elPx l))
def rowPx (l : List Ca) : List (List C) := l.map encPx
def rowB (l : List Bool) : List (List C) := l.map fun b => [cB b]
theorem rowB_len (l : List Bool) : (rowB l).length = l.length := by simp [rowB]
theorem rowPx_len (l : List Ca) : (rowPx l).length = l.length := by simp [rowPx]
theorem rowB_get {l : List Bool} {i : Nat} (h : i < l.length) : (rowB l).getD i [] = [cB (l.getD i false)] := by
  simp [rowB, List.getD_eq_getElem?_getD, h]

section
variable (l : List Ca) (kind tel flt at' known : Int)
abbrev laT : List (Nat × SV) := [(0, .b (.v (lCa l))), (1, .b (.v (vI kind))), (2, .b (.v (vI tel))), (3, .b (.v (vI flt))), (4, .b (.v (vI at'))), (5, .b (.v (vI known)))]
def la1 (x : Nat × List (List C) × List (List C)) : S := mkS 80 (laT l kind tel flt at' known ++ [(13, .b (.v (.c (.row 1 x.1)))), (14, .b (.v (.c (.row 19 l.length))))]) [(1, .row 27 4 x.2.1), (19, .row 4 1 x.2.2)]
def la2 (n : Nat) (oc tc : List (List C)) (x : Int × Int) : S := mkS 80 (laT l kind tel flt at' known ++ [(13, .b (.v (.c (.row 1 n)))), (14, .b (.v (.c (.row 19 l.length)))), (15, .b (.v (vI x.2))), (16, .b (.v (vI x.1)))]) [(1, .row 27 4 oc), (19, .row 4 1 tc)]
end
theorem f26 (l : List Ca) (kind tel flt at' known : Int) (hl : l.length ≤ 1000000) : FCall Try.prog 26 [lCa l, vI kind, vI tel, vI flt, vI at', vI known] (.v (lPx (latest l fun x => applies x kind tel flt at' known))) := by
  refine fcall_of Try.func26 rfl (by kernel_rfl) (fun B hB => ?_)
  refine reg0 mix (by kernel_rfl) ?_
  refine reg0 mix (by kernel_rfl) ?_
  refine run_weaken (wk_nilRow 13 1 27 4 (by kernel_rfl) (by kernel_rfl) (by omega)) ?_ (List.cons_ne_nil _ _)
  refine reg mix [] [pf ((by omega) : 0 ≤ (l.length : Int) ∧ (l.length : Int) ≤ (l.length : Int) ∧ (l.length : Int) * (((1 : Nat) : Int) + 1) ≤ 140737488355328)] (by kernel_rfl) ?_
  refine rBlock ?_
  refine rLoop (la1 l kind tel flt at' known) (fun s => ∃ tk out, s.1 = out.length ∧ out.length ≤ 5 ∧ tk.length = l.length ∧ s.2.1 = rowPx out ∧ s.2.2 = rowB tk ∧ latest l (fun x => applies x kind tel flt at' known) = lat l (fun x => applies x kind tel flt at' known) (5 - out.length) tk out) (fun s => 5 - s.1) (0, [], List.replicate ((l.length : Int)).toNat [cB false]) (wkTo [0, 1, 2, 3, 4, 5, 13, 14] [] (by kernel_rfl)) ⟨List.replicate l.length false, [], rfl, by simp, by simp, rfl, by simp [rowB], rfl⟩ ?_
  rintro ⟨n, oc, tc⟩ ⟨tk, out, hn, ho5, htl, hoc, htc, hlat⟩
  simp only at hn hoc htc
  subst hn hoc htc
  refine reg mix [] [pf (rowPx_len out).symm] (by kernel_rfl) ?_
  refine rCond (decide ((out.length : Int) < 5)) (by kernel_rfl) (fun hc => ?_) (fun hc => ?_)
  · have hc : out.length < 5 := by have := of_decide_eq_true hc; omega
    rw [show 5 - out.length = (4 - out.length) + 1 by omega, lat] at hlat
    refine rBlock ?_
    refine reg0 mix (by kernel_rfl) ?_
    refine reg0 mix (by kernel_rfl) ?_
    refine rBlock ?_
    refine rLoop (la2 l kind tel flt at' known out.length (rowPx out) (rowB tk)) (fun s => 0 ≤ s.1 ∧ s.1 ≤ l.length ∧ s.2 = bst l tk (fun x => applies x kind tel flt at' known) s.1.toNat) (fun s => (l.length - s.1).toNat) (0, -1) (wkTo [0, 1, 2, 3, 4, 5, 13, 14, 15, 16] [] (by kernel_rfl)) ⟨by simp, by simp, rfl⟩ ?_
    rintro ⟨i, b⟩ ⟨hi0, hi1, hb⟩
    simp only at hi0 hi1 hb
    have hbb := bst_bound l tk (fun x => applies x kind tel flt at' known) i.toNat
    rw [← hb] at hbb
    refine reg0 mix (by kernel_rfl) ?_
    refine rCond (decide (i < (l.length : Int))) (by kernel_rfl) (fun hc2 => ?_) (fun hc2 => ?_)
    · have hc2 : i < l.length := of_decide_eq_true hc2
      have e1 : IntKind.i64.wrap (i + 1) = i + 1 := w64 _ (by omega) (by omega)
      refine rJoin (fun b' => la2 l kind tel flt at' known out.length (rowPx out) (rowB tk) (i, b')) (fun b' => b' = bst l tk (fun x => applies x kind tel flt at' known) (i.toNat + 1)) (List.cons_ne_nil _ _) ?_ ?_
      · refine rBlock ?_
        refine regI mix [(3, .frz 0 (fun _ => [cB (tk.getD i.toNat false)])), (15, .call (.v (vB (applies (l.getD i.toNat zCa) kind tel flt at' known))))]
          [pf (fun _ : true = true => (⟨⟨hi0, hc2⟩, by rw [rowB_len, htl]⟩ : QAt i l.length (rowB tk))), pf (fun _ : true = true => (⟨⟨by rw [rowB_len, htl], by omega⟩, rowB_get (by omega)⟩ : QEl l.length i.toNat (rowB tk) [cB (tk.getD i.toNat false)])),
           pf (fun _ : (!tk.getD i.toNat false) = true => (⟨hi0, hc2⟩ : 0 ≤ i ∧ i < (l.length : Int))),
           pf (fun _ : (!tk.getD i.toNat false) = true => f36 (l.getD i.toNat zCa) kind tel flt at' known),
           pf (fun _ : ((!tk.getD i.toNat false && applies (l.getD i.toNat zCa) kind tel flt at' known) && !decide (b < 0)) = true => (⟨hi0, hc2⟩ : 0 ≤ i ∧ i < (l.length : Int))),
           pf (fun h : ((!tk.getD i.toNat false && applies (l.getD i.toNat zCa) kind tel flt at' known) && !decide (b < 0)) = true => (⟨by simp at h; omega, by omega⟩ : 0 ≤ b ∧ b < (l.length : Int)))] (by kernel_rfl) ?_
        refine rCond (pick1 l tk (fun x => applies x kind tel flt at' known) b i.toNat) (by kernel_rfl) (fun h => ?_) (fun h => ?_)
        · refine reg0 mix (by kernel_rfl) ?_
          refine run_nil (blockR_normal (run_nil (joined i ?_ (wkTo [0, 1, 2, 3, 4, 5, 13, 14, 15, 16] [] (by kernel_rfl)))))
          rw [bst, ← hb, if_pos h]; omega
        · refine run_nil (blockR_normal (run_nil (joined b ?_ (wkTo [0, 1, 2, 3, 4, 5, 13, 14, 15, 16] [] (by kernel_rfl)))))
          rw [bst, ← hb, if_neg (by rw [h]; exact Bool.false_ne_true)]
      · intro b' hb'
        refine reg0 mix (by kernel_rfl) ?_
        refine run_nil (loopR_next (IntKind.i64.wrap (i + 1), b') (wkTo [0, 1, 2, 3, 4, 5, 13, 14, 15, 16] [] (by kernel_rfl)) ?_ ?_)
        · simp only [e1]
          exact ⟨by omega, by omega, by rw [hb', show (i + 1).toNat = i.toNat + 1 by omega]⟩
        · simp only [e1]; omega
    have hc2 : ¬ i < l.length := of_decide_eq_false hc2
    rw [show i.toNat = l.length by omega] at hb hbb
    rw [← hb] at hlat
    refine run_exit (loopR_exit (blockR_exit ?_))
    refine reg0 mix (by kernel_rfl) ?_
    refine rCond (decide (b < 0)) (by kernel_rfl) (fun h => ?_) (fun h => ?_)
    · have h : b < 0 := of_decide_eq_true h
      rw [if_pos h] at hlat
      refine run_exit (blockR_out (by kernel_rfl) (loopR_exit (blockR_exit ?_)))
      refine reg0 mix (by kernel_rfl) ?_
      refine frzRow hB 12 1 out.length 27 4 (rowPx out) (elPx out) [] [] (by kernel_rfl) (by kernel_rfl) (rowPx_len out).symm ?_ (by kernel_rfl) ?_ (List.cons_ne_nil _ _)
      · intro i hi
        simp [rowPx, elPx, List.getD_eq_getElem?_getD, hi]
      · refine run_ret (ret_of (.v (lPx out)) (by kernel_rfl) ?_)
        rw [hlat]
    · have h : ¬ b < 0 := of_decide_eq_false h
      rw [if_neg h] at hlat
      have hbt : b.toNat < tk.length := by omega
      refine reg mix [(3, .frz 0 (fun _ => [cB (tk.getD b.toNat false)]))] [pf (⟨⟨by omega, by omega⟩, by rw [rowB_len, htl]⟩ : QAt b l.length (rowB tk)), pf (⟨⟨by rw [rowB_len, htl], by omega⟩, rowB_get hbt⟩ : QEl l.length b.toNat (rowB tk) [cB (tk.getD b.toNat false)])] (by kernel_rfl) ?_
      refine reg mix [] [pf (⟨by omega, by omega⟩ : 0 ≤ b ∧ b < (l.length : Int)), pf (rowPx_len out).symm, pf (by omega : (out.length + 1) * 33 ≤ 140737488355328), pf (rfl : 1 = [encPx (l.getD b.toNat zCa)].length)] (by kernel_rfl) ?_
      refine run_nil (blockR_normal (run_nil (loopR_next (out.length + 1, rowPx out ++ [encPx (l.getD b.toNat zCa)], (rowB tk).set b.toNat [cB true]) (wkTo [0, 1, 2, 3, 4, 5, 13, 14] [77] (by kernel_rfl)) ?_ ?_)))
      · refine ⟨tk.set b.toNat true, out ++ [l.getD b.toNat zCa], by simp, by simp; omega, by simp [htl], by simp [rowPx], by simp [rowB], ?_⟩
        rw [hlat, show 5 - (out ++ [l.getD b.toNat zCa]).length = 4 - out.length by rw [List.length_append, List.length_singleton]; omega]
      · simp only; omega
  · have hc : ¬ out.length < 5 := by have := of_decide_eq_false hc; omega
    rw [show 5 - out.length = 0 by omega, lat] at hlat
    refine run_exit (loopR_exit (blockR_exit ?_))
    refine reg0 mix (by kernel_rfl) ?_
    refine frzRow hB 12 1 out.length 27 4 (rowPx out) (elPx out) [] [] (by kernel_rfl) (by kernel_rfl) (rowPx_len out).symm ?_ (by kernel_rfl) ?_ (List.cons_ne_nil _ _)
    · intro i hi
      simp [rowPx, elPx, List.getD_eq_getElem?_getD, hi]
    · refine run_ret (ret_of (.v (lPx out)) (by kernel_rfl) ?_)
      rw [hlat]
end Go.Proofs.Ytmdgbejfdcfhpaa
