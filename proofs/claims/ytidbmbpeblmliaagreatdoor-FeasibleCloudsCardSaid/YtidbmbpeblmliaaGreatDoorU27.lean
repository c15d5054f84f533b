/- Part of the proof of the statement that the claim's last text names: contracts of functions and laws of the symbolic layer. -/
import Derived.Test.YtidbmbpeblmliaaGreatDoorU14
import Derived.Test.YtidbmbpeblmliaaGreatDoorU26
import Derived.Test.YtidbmbpeblmliaaGreatDoorRows
import Derived.Test.YtidbmbpeblmliaaGreatDoorTie
import Derived.Test.YtidbmbpeblmliaaGreatDoorCards
import Derived.WalkKit
import Derived.ProofKit
import Derived.JoinedOf
import Derived.ChangeSame
import Derived.ChangeVars
import Derived.LaidLaws
import Derived.LaidHandle
import Derived.Lib.LaidTab
import Derived.SevenTiedAt
import Derived.Stop.Joined
import Derived.Test.YtidbmbpeblmliaaGreatDoorU13
set_option linter.unusedVariables false
set_option linter.unusedSimpArgs false
namespace Go.Proofs.YtidbmbpeblmliaaGreatDoor.Hd
open Go.Sym Go.Proofs.YtidbmbpeblmliaaGreatDoor
def SameRequests_b1_r(a:List Rq)(b:List Rq)(lx1:Unit):Bool:=
 true
def SameRequests_b1(a:List Rq)(b:List Rq)(li1:Nat)(lx1:Unit):Fl Unit Bool:=
 (bif (!(((a.getD li1 zRq).prog)==((b.getD li1 zRq).prog)&&(((a.getD li1 zRq).tile)==((b.getD li1 zRq).tile)&&(((a.getD li1 zRq).filter)==((b.getD li1 zRq).filter)&&(((a.getD li1 zRq).merit)==((b.getD li1 zRq).merit)&&(((a.getD li1 zRq).alert)==((b.getD li1 zRq).alert)&&true)))))) then .rt false else .nx ())
def SameRequests_b1_s(a:List Rq)(b:List Rq)(li1:Nat)(qv:Int)(lx1:Unit):S:=mkS 26 [(0,.b (.v (.c (.lst 5 a.length (elM encRq zRq a))))),(1,.b (.v (.c (.lst 5 b.length (elM encRq zRq b))))),(5,.b (.v (vI qv)))] []
def SameRequests(a:List Rq)(b:List Rq):Bool:=
 (bif ((a.length:Int) != (b.length:Int)) then false else (runL (SameRequests_b1 a b) a.length 0 ()).fin (SameRequests_b1_r a b))
theorem SameRequests_c(a:List Rq)(b:List Rq):FCall Tryz.prog 18 [.c (.lst 5 a.length (elM encRq zRq a)),.c (.lst 5 b.length (elM encRq zRq b))] (.v (vB (SameRequests a b))):=by
 have ee0:=SameRequests.eq_1 a b
 refine ul Tryz.func18 rfl (fun B hB=>?_)
 refine u0 (u0 ?_)
 refine ud ee0 (fun hh1 ee1=>?_) (fun hh1 ee2=>?_)
 ·refine u0 ?_
  exact run_ret (ut _ (by rw [ee1]<;>rfl))
 ·refine u0 ?_
  refine uS 0 5 a.length (elM encRq zRq a) (fun hL1=>?_)
  refine uF a.length (SameRequests_b1_s a b) (SameRequests_b1 a b) (fun _ _=>True) () rfl [0,1,5] [] trivial (fun li1 lx1 hi1 hJ1 hr1=>?_) (fun lx1 hJ1 hr1=>?_)
  ·have ee4:=SameRequests_b1.eq_1 a b li1 lx1
   refine uq [] [ub (li1:Int) a.length,ub (li1:Int) b.length,ue 60 [.int .i64,.int .i64,.int .i64,.int .i64,.bool]] ?_
   refine ud ee4 (fun hh2 ee5=>?_) (fun hh2 ee7=>?_)
   ·refine u0 ?_
    have ee6:=fin_rt ee2 hr1 hi1 ee5
    exact run_ret (ut _ (by rw [ee6]<;>rfl))
   ·exact run_nil (uN (SameRequests_b1_s a b) () hi1 [0,1,5] [] (trivial) ee7)
  ·have ee3:=(fin_nx ee2 hr1).trans (SameRequests_b1_r.eq_1 a b lx1)
   refine u0 ?_
   exact run_ret (ut _ (by rw [ee3]<;>rfl))
def SameExclusions_b1_r(a:List Exc)(b:List Exc)(lx1:Unit):Bool:=
 true
def SameExclusions_b1(a:List Exc)(b:List Exc)(li1:Nat)(lx1:Unit):Fl Unit Bool:=
 (bif (!(((a.getD li1 zExc).prog)==((b.getD li1 zExc).prog)&&(((a.getD li1 zExc).tile)==((b.getD li1 zExc).tile)&&(((a.getD li1 zExc).filter)==((b.getD li1 zExc).filter)&&(((a.getD li1 zExc).alert)==((b.getD li1 zExc).alert)&&(((a.getD li1 zExc).reason)==((b.getD li1 zExc).reason)&&true)))))) then .rt false else .nx ())
def SameExclusions_b1_s(a:List Exc)(b:List Exc)(li1:Nat)(qv:Int)(lx1:Unit):S:=mkS 26 [(0,.b (.v (.c (.lst 5 a.length (elM encExc zExc a))))),(1,.b (.v (.c (.lst 5 b.length (elM encExc zExc b))))),(5,.b (.v (vI qv)))] []
def SameExclusions(a:List Exc)(b:List Exc):Bool:=
 (bif ((a.length:Int) != (b.length:Int)) then false else (runL (SameExclusions_b1 a b) a.length 0 ()).fin (SameExclusions_b1_r a b))
theorem SameExclusions_c(a:List Exc)(b:List Exc):FCall Tryz.prog 19 [.c (.lst 5 a.length (elM encExc zExc a)),.c (.lst 5 b.length (elM encExc zExc b))] (.v (vB (SameExclusions a b))):=by
 have ee0:=SameExclusions.eq_1 a b
 refine ul Tryz.func19 rfl (fun B hB=>?_)
 refine u0 (u0 ?_)
 refine ud ee0 (fun hh1 ee1=>?_) (fun hh1 ee2=>?_)
 ·refine u0 ?_
  exact run_ret (ut _ (by rw [ee1]<;>rfl))
 ·refine u0 ?_
  refine uS 0 5 a.length (elM encExc zExc a) (fun hL1=>?_)
  refine uF a.length (SameExclusions_b1_s a b) (SameExclusions_b1 a b) (fun _ _=>True) () rfl [0,1,5] [] trivial (fun li1 lx1 hi1 hJ1 hr1=>?_) (fun lx1 hJ1 hr1=>?_)
  ·have ee4:=SameExclusions_b1.eq_1 a b li1 lx1
   refine uq [] [ub (li1:Int) a.length,ub (li1:Int) b.length,ue 62 [.int .i64,.int .i64,.int .i64,.bool,.int .i64]] ?_
   refine ud ee4 (fun hh2 ee5=>?_) (fun hh2 ee7=>?_)
   ·refine u0 ?_
    have ee6:=fin_rt ee2 hr1 hi1 ee5
    exact run_ret (ut _ (by rw [ee6]<;>rfl))
   ·exact run_nil (uN (SameExclusions_b1_s a b) () hi1 [0,1,5] [] (trivial) ee7)
  ·have ee3:=(fin_nx ee2 hr1).trans (SameExclusions_b1_r.eq_1 a b lx1)
   refine u0 ?_
   exact run_ret (ut _ (by rw [ee3]<;>rfl))
def sample:Wd×Sta:=
 ((⟨[(⟨(⟨#[116]⟩:BA),0,1,2,(⟨1000,0,0,1000,0⟩:Det)⟩:Tel)],[(⟨(⟨#[112]⟩:BA),1⟩:Ptn)],[(⟨(⟨#[113]⟩:BA),0,[(⟨1,100,ByteArray.empty,[]⟩:Nd),(⟨2,0,(⟨#[97,105,114,109,97,115,115]⟩:BA),[]⟩:Nd),(⟨1,100,ByteArray.empty,[]⟩:Nd),(⟨6,0,ByteArray.empty,[1,2]⟩:Nd),(⟨4,0,ByteArray.empty,[0,3]⟩:Nd)],0,100,[0,384],(⟨[(⟨1,0,0⟩:Stp)],1⟩:Sq),0,50⟩:Prg)],(⟨(⟨#[102,97,115,116]⟩:BA),1,[(⟨1,0,0,0⟩:Fst),(⟨7,0,0,50⟩:Fst)]⟩:Flw),0,[],[0],300⟩:Wd),(⟨1,0,([zRg]:List Rg),([zPx]:List Px),[([zCs,zCs]:List Cs)],[0],[],[]⟩:Sta))
theorem sample_raw  : FCall Tryz.prog 33 [] (.tup [.agg [.lst 9 1 (elM encTel zTel [(⟨(⟨#[116]⟩ : ByteArray), (0 : Int), (1 : Int), (2 : Int), (⟨(1000 : Int), (0 : Int), (0 : Int), (1000 : Int), (0 : Int)⟩ : Det)⟩ : Tel)]), .lst 2 1 (elM encPtn zPtn [(⟨(⟨#[112]⟩ : ByteArray), (1 : Int)⟩ : Ptn)]), .lst 10 1 (fun i => ([[.str (⟨#[113]⟩ : ByteArray), cI (0 : Int), .lst 4 5 (fun i => ([[cI (1 : Int), cI (100 : Int), .str ByteArray.empty, .nil], [cI (2 : Int), cI (0 : Int), .str (⟨#[97, 105, 114, 109, 97, 115, 115]⟩ : ByteArray), .nil], [cI (1 : Int), cI (100 : Int), .str ByteArray.empty, .nil], [cI (6 : Int), cI (0 : Int), .str ByteArray.empty, .lst 1 2 (elM Sym.encI (0 : Int) [(1 : Int), (2 : Int)])], [cI (4 : Int), cI (0 : Int), .str ByteArray.empty, .lst 1 2 (elM Sym.encI (0 : Int) [(0 : Int), (3 : Int)])]] : List (List C)).getD i []), cI (0 : Int), cI (100 : Int), .lst 1 2 (elM Sym.encI (0 : Int) [(0 : Int), (384 : Int)]), .lst 3 1 (elM encStp zStp [(⟨(1 : Int), (0 : Int), (0 : Int)⟩ : Stp)]), cI (1 : Int), cI (0 : Int), cI (50 : Int)]] : List (List C)).getD i []), .str (⟨#[102, 97, 115, 116]⟩ : ByteArray), cI (1 : Int), .lst 4 2 (elM encFst zFst [(⟨(1 : Int), (0 : Int), (0 : Int), (0 : Int)⟩ : Fst), (⟨(7 : Int), (0 : Int), (0 : Int), (50 : Int)⟩ : Fst)]), cI (0 : Int), .nil, .lst 1 1 (elM Sym.encI (0 : Int) [(0 : Int)]), cI (300 : Int)], .agg [cI (1 : Int), cI (0 : Int), .lst 3 1 (elM encRg zRg ([zRg] : List Rg)), .lst 4 1 (elM encPx zPx ([zPx] : List Px)), .lst 1 1 (elM (Sym.encL 4 encCs zCs) [] [([zCs, zCs] : List Cs)]), .lst 1 1 (elM Sym.encI (0 : Int) [(0 : Int)]), .nil, .nil]]) := by
  have ee0 := sample.eq_1
  refine fcall_of Tryz.func33 rfl (by kernel_rfl) (fun B hB => ?_)
  refine reg0 mix (by kernel_rfl) ?_
  refine rg mix [(3, .frz 2 (elM Sym.encI (0 : Int) [(1 : Int), (2 : Int)])), (5, .frz 2 (elM Sym.encI (0 : Int) [(0 : Int), (3 : Int)])), (7, .frz 5 (fun i => ([[cI (1 : Int), cI (100 : Int), .str ByteArray.empty, .nil], [cI (2 : Int), cI (0 : Int), .str (⟨#[97, 105, 114, 109, 97, 115, 115]⟩ : ByteArray), .nil], [cI (1 : Int), cI (100 : Int), .str ByteArray.empty, .nil], [cI (6 : Int), cI (0 : Int), .str ByteArray.empty, .lst 1 2 (elM Sym.encI (0 : Int) [(1 : Int), (2 : Int)])], [cI (4 : Int), cI (0 : Int), .str ByteArray.empty, .lst 1 2 (elM Sym.encI (0 : Int) [(0 : Int), (3 : Int)])]] : List (List C)).getD i []))] [@pu (2 = 2 ∧ ∀ i, i < 2 → (elM Sym.encI (0 : Int) [(1 : Int), (2 : Int)]) i = [[cI (1 : Int)], [cI (2 : Int)]].getD i []) (⟨rfl, fun i hi => match i, hi with | 0, _ => rfl | 1, _ => rfl⟩), @pu (2 = 2 ∧ ∀ i, i < 2 → (elM Sym.encI (0 : Int) [(0 : Int), (3 : Int)]) i = [[cI (0 : Int)], [cI (3 : Int)]].getD i []) (⟨rfl, fun i hi => match i, hi with | 0, _ => rfl | 1, _ => rfl⟩), @pu (5 = 5 ∧ ∀ i, i < 5 → (fun i => ([[cI (1 : Int), cI (100 : Int), .str ByteArray.empty, .nil], [cI (2 : Int), cI (0 : Int), .str (⟨#[97, 105, 114, 109, 97, 115, 115]⟩ : ByteArray), .nil], [cI (1 : Int), cI (100 : Int), .str ByteArray.empty, .nil], [cI (6 : Int), cI (0 : Int), .str ByteArray.empty, .lst 1 2 (elM Sym.encI (0 : Int) [(1 : Int), (2 : Int)])], [cI (4 : Int), cI (0 : Int), .str ByteArray.empty, .lst 1 2 (elM Sym.encI (0 : Int) [(0 : Int), (3 : Int)])]] : List (List C)).getD i []) i = ([[cI (1 : Int), cI (100 : Int), .str ByteArray.empty, .nil], [cI (2 : Int), cI (0 : Int), .str (⟨#[97, 105, 114, 109, 97, 115, 115]⟩ : ByteArray), .nil], [cI (1 : Int), cI (100 : Int), .str ByteArray.empty, .nil], [cI (6 : Int), cI (0 : Int), .str ByteArray.empty, .lst 1 2 (elM Sym.encI (0 : Int) [(1 : Int), (2 : Int)])], [cI (4 : Int), cI (0 : Int), .str ByteArray.empty, .lst 1 2 (elM Sym.encI (0 : Int) [(0 : Int), (3 : Int)])]] : List (List C)).getD i []) (⟨rfl, fun i hi => rfl⟩)] (by kernel_rfl) ?_
  refine rg mix [(1, .frz 2 (elM Sym.encI (0 : Int) [(0 : Int), (384 : Int)])), (3, .frz 1 (elM encStp zStp [(⟨(1 : Int), (0 : Int), (0 : Int)⟩ : Stp)]))] [@pu (2 = 2 ∧ ∀ i, i < 2 → (elM Sym.encI (0 : Int) [(0 : Int), (384 : Int)]) i = [[cI (0 : Int)], [cI (384 : Int)]].getD i []) (⟨rfl, fun i hi => match i, hi with | 0, _ => rfl | 1, _ => rfl⟩), @pu (1 = 1 ∧ ∀ i, i < 1 → (elM encStp zStp [(⟨(1 : Int), (0 : Int), (0 : Int)⟩ : Stp)]) i = [[cI (1 : Int), cI (0 : Int), cI (0 : Int)]].getD i []) (⟨rfl, fun i hi => match i, hi with | 0, _ => rfl⟩)] (by kernel_rfl) ?_
  refine reg0 mix (by kernel_rfl) ?_
  refine rg mix [(1, .frz 1 (elM encTel zTel [(⟨(⟨#[116]⟩ : ByteArray), (0 : Int), (1 : Int), (2 : Int), (⟨(1000 : Int), (0 : Int), (0 : Int), (1000 : Int), (0 : Int)⟩ : Det)⟩ : Tel)])), (3, .frz 1 (elM encPtn zPtn [(⟨(⟨#[112]⟩ : ByteArray), (1 : Int)⟩ : Ptn)])), (5, .frz 1 (fun i => ([[.str (⟨#[113]⟩ : ByteArray), cI (0 : Int), .lst 4 5 (fun i => ([[cI (1 : Int), cI (100 : Int), .str ByteArray.empty, .nil], [cI (2 : Int), cI (0 : Int), .str (⟨#[97, 105, 114, 109, 97, 115, 115]⟩ : ByteArray), .nil], [cI (1 : Int), cI (100 : Int), .str ByteArray.empty, .nil], [cI (6 : Int), cI (0 : Int), .str ByteArray.empty, .lst 1 2 (elM Sym.encI (0 : Int) [(1 : Int), (2 : Int)])], [cI (4 : Int), cI (0 : Int), .str ByteArray.empty, .lst 1 2 (elM Sym.encI (0 : Int) [(0 : Int), (3 : Int)])]] : List (List C)).getD i []), cI (0 : Int), cI (100 : Int), .lst 1 2 (elM Sym.encI (0 : Int) [(0 : Int), (384 : Int)]), .lst 3 1 (elM encStp zStp [(⟨(1 : Int), (0 : Int), (0 : Int)⟩ : Stp)]), cI (1 : Int), cI (0 : Int), cI (50 : Int)]] : List (List C)).getD i [])), (6, .frz 1 (elM Sym.encI (0 : Int) [(0 : Int)]))] [@pu (1 = 1 ∧ ∀ i, i < 1 → (elM encTel zTel [(⟨(⟨#[116]⟩ : ByteArray), (0 : Int), (1 : Int), (2 : Int), (⟨(1000 : Int), (0 : Int), (0 : Int), (1000 : Int), (0 : Int)⟩ : Det)⟩ : Tel)]) i = [[.str (⟨#[116]⟩ : ByteArray), cI (0 : Int), cI (1 : Int), cI (2 : Int), cI (1000 : Int), cI (0 : Int), cI (0 : Int), cI (1000 : Int), cI (0 : Int)]].getD i []) (⟨rfl, fun i hi => match i, hi with | 0, _ => rfl⟩), @pu (1 = 1 ∧ ∀ i, i < 1 → (elM encPtn zPtn [(⟨(⟨#[112]⟩ : ByteArray), (1 : Int)⟩ : Ptn)]) i = [[.str (⟨#[112]⟩ : ByteArray), cI (1 : Int)]].getD i []) (⟨rfl, fun i hi => match i, hi with | 0, _ => rfl⟩), @pu (1 = 1 ∧ ∀ i, i < 1 → (fun i => ([[.str (⟨#[113]⟩ : ByteArray), cI (0 : Int), .lst 4 5 (fun i => ([[cI (1 : Int), cI (100 : Int), .str ByteArray.empty, .nil], [cI (2 : Int), cI (0 : Int), .str (⟨#[97, 105, 114, 109, 97, 115, 115]⟩ : ByteArray), .nil], [cI (1 : Int), cI (100 : Int), .str ByteArray.empty, .nil], [cI (6 : Int), cI (0 : Int), .str ByteArray.empty, .lst 1 2 (elM Sym.encI (0 : Int) [(1 : Int), (2 : Int)])], [cI (4 : Int), cI (0 : Int), .str ByteArray.empty, .lst 1 2 (elM Sym.encI (0 : Int) [(0 : Int), (3 : Int)])]] : List (List C)).getD i []), cI (0 : Int), cI (100 : Int), .lst 1 2 (elM Sym.encI (0 : Int) [(0 : Int), (384 : Int)]), .lst 3 1 (elM encStp zStp [(⟨(1 : Int), (0 : Int), (0 : Int)⟩ : Stp)]), cI (1 : Int), cI (0 : Int), cI (50 : Int)]] : List (List C)).getD i []) i = ([[.str (⟨#[113]⟩ : ByteArray), cI (0 : Int), .lst 4 5 (fun i => ([[cI (1 : Int), cI (100 : Int), .str ByteArray.empty, .nil], [cI (2 : Int), cI (0 : Int), .str (⟨#[97, 105, 114, 109, 97, 115, 115]⟩ : ByteArray), .nil], [cI (1 : Int), cI (100 : Int), .str ByteArray.empty, .nil], [cI (6 : Int), cI (0 : Int), .str ByteArray.empty, .lst 1 2 (elM Sym.encI (0 : Int) [(1 : Int), (2 : Int)])], [cI (4 : Int), cI (0 : Int), .str ByteArray.empty, .lst 1 2 (elM Sym.encI (0 : Int) [(0 : Int), (3 : Int)])]] : List (List C)).getD i []), cI (0 : Int), cI (100 : Int), .lst 1 2 (elM Sym.encI (0 : Int) [(0 : Int), (384 : Int)]), .lst 3 1 (elM encStp zStp [(⟨(1 : Int), (0 : Int), (0 : Int)⟩ : Stp)]), cI (1 : Int), cI (0 : Int), cI (50 : Int)]] : List (List C)).getD i []) (⟨rfl, fun i hi => rfl⟩), @pu (1 = 1 ∧ ∀ i, i < 1 → (elM Sym.encI (0 : Int) [(0 : Int)]) i = [[cI (0 : Int)]].getD i []) (⟨rfl, fun i hi => match i, hi with | 0, _ => rfl⟩)] (by kernel_rfl) ?_
  refine rg mix [(2, .frz 2 (elM encFst zFst [(⟨(1 : Int), (0 : Int), (0 : Int), (0 : Int)⟩ : Fst), (⟨(7 : Int), (0 : Int), (0 : Int), (50 : Int)⟩ : Fst)]))] [@pu (2 = 2 ∧ ∀ i, i < 2 → (elM encFst zFst [(⟨(1 : Int), (0 : Int), (0 : Int), (0 : Int)⟩ : Fst), (⟨(7 : Int), (0 : Int), (0 : Int), (50 : Int)⟩ : Fst)]) i = [[cI (1 : Int), cI (0 : Int), cI (0 : Int), cI (0 : Int)], [cI (7 : Int), cI (0 : Int), cI (0 : Int), cI (50 : Int)]].getD i []) (⟨rfl, fun i hi => match i, hi with | 0, _ => rfl | 1, _ => rfl⟩)] (by kernel_rfl) ?_
  refine rg mix [(0, .frz 1 (elM encRg zRg ([zRg] : List Rg))), (1, .frz 1 (elM encPx zPx ([zPx] : List Px))), (2, .frz 2 (elM encCs zCs ([zCs, zCs] : List Cs))), (3, .frz 1 (elM (Sym.encL 4 encCs zCs) [] [([zCs, zCs] : List Cs)])), (4, .frz 1 (elM Sym.encI (0 : Int) [(0 : Int)]))] [@pu (((0 : Int) ≤ (1 : Int) ∧ (1 : Int) = (1 : Int) ∧ (1 : Int) * (((24 : Nat) : Int) + 1) ≤ 140737488355328) ∧ 1 = ((1 : Int)).toNat ∧ ∀ i, i < 1 → (elM encRg zRg ([zRg] : List Rg)) i = ([[cI (0 : Int), cI (0 : Int), .bool false]] : List (List C)).getD i []) (⟨⟨by decide, rfl, by decide⟩, rfl, fun i hi => match i, hi with | 0, _ => rfl⟩), @pu (((0 : Int) ≤ (1 : Int) ∧ (1 : Int) = (1 : Int) ∧ (1 : Int) * (((32 : Nat) : Int) + 1) ≤ 140737488355328) ∧ 1 = ((1 : Int)).toNat ∧ ∀ i, i < 1 → (elM encPx zPx ([zPx] : List Px)) i = ([[cI (0 : Int), cI (0 : Int), cI (0 : Int), cI (0 : Int)]] : List (List C)).getD i []) (⟨⟨by decide, rfl, by decide⟩, rfl, fun i hi => match i, hi with | 0, _ => rfl⟩), @pu (((0 : Int) ≤ (2 : Int) ∧ (2 : Int) = (2 : Int) ∧ (2 : Int) * (((32 : Nat) : Int) + 1) ≤ 140737488355328) ∧ 2 = ((2 : Int)).toNat ∧ ∀ i, i < 2 → (elM encCs zCs ([zCs, zCs] : List Cs)) i = ([[cI (0 : Int), cI (0 : Int), cI (0 : Int), .bool false], [cI (0 : Int), cI (0 : Int), cI (0 : Int), .bool false]] : List (List C)).getD i []) (⟨⟨by decide, rfl, by decide⟩, rfl, fun i hi => match i, hi with | 0, _ => rfl | 1, _ => rfl⟩), @pu (1 = 1 ∧ ∀ i, i < 1 → (elM (Sym.encL 4 encCs zCs) [] [([zCs, zCs] : List Cs)]) i = [[.lst 4 2 (elM encCs zCs ([zCs, zCs] : List Cs))]].getD i []) (⟨rfl, fun i hi => match i, hi with | 0, _ => rfl⟩), @pu (1 = 1 ∧ ∀ i, i < 1 → (elM Sym.encI (0 : Int) [(0 : Int)]) i = [[cI (0 : Int)]].getD i []) (⟨rfl, fun i hi => match i, hi with | 0, _ => rfl⟩)] (by kernel_rfl) ?_
  refine reg0 mix (by kernel_rfl) ?_
  exact run_ret (ret_of (.tup [.agg [.lst 9 1 (elM encTel zTel [(⟨(⟨#[116]⟩ : ByteArray), (0 : Int), (1 : Int), (2 : Int), (⟨(1000 : Int), (0 : Int), (0 : Int), (1000 : Int), (0 : Int)⟩ : Det)⟩ : Tel)]), .lst 2 1 (elM encPtn zPtn [(⟨(⟨#[112]⟩ : ByteArray), (1 : Int)⟩ : Ptn)]), .lst 10 1 (fun i => ([[.str (⟨#[113]⟩ : ByteArray), cI (0 : Int), .lst 4 5 (fun i => ([[cI (1 : Int), cI (100 : Int), .str ByteArray.empty, .nil], [cI (2 : Int), cI (0 : Int), .str (⟨#[97, 105, 114, 109, 97, 115, 115]⟩ : ByteArray), .nil], [cI (1 : Int), cI (100 : Int), .str ByteArray.empty, .nil], [cI (6 : Int), cI (0 : Int), .str ByteArray.empty, .lst 1 2 (elM Sym.encI (0 : Int) [(1 : Int), (2 : Int)])], [cI (4 : Int), cI (0 : Int), .str ByteArray.empty, .lst 1 2 (elM Sym.encI (0 : Int) [(0 : Int), (3 : Int)])]] : List (List C)).getD i []), cI (0 : Int), cI (100 : Int), .lst 1 2 (elM Sym.encI (0 : Int) [(0 : Int), (384 : Int)]), .lst 3 1 (elM encStp zStp [(⟨(1 : Int), (0 : Int), (0 : Int)⟩ : Stp)]), cI (1 : Int), cI (0 : Int), cI (50 : Int)]] : List (List C)).getD i []), .str (⟨#[102, 97, 115, 116]⟩ : ByteArray), cI (1 : Int), .lst 4 2 (elM encFst zFst [(⟨(1 : Int), (0 : Int), (0 : Int), (0 : Int)⟩ : Fst), (⟨(7 : Int), (0 : Int), (0 : Int), (50 : Int)⟩ : Fst)]), cI (0 : Int), .nil, .lst 1 1 (elM Sym.encI (0 : Int) [(0 : Int)]), cI (300 : Int)], .agg [cI (1 : Int), cI (0 : Int), .lst 3 1 (elM encRg zRg ([zRg] : List Rg)), .lst 4 1 (elM encPx zPx ([zPx] : List Px)), .lst 1 1 (elM (Sym.encL 4 encCs zCs) [] [([zCs, zCs] : List Cs)]), .lst 1 1 (elM Sym.encI (0 : Int) [(0 : Int)]), .nil, .nil]]) (by kernel_rfl) rfl)
theorem sample_c:FCall Tryz.prog 33 [] (.tup [.agg (encWd sample.1),.agg (encSta sample.2)]):=by
 rw [sample]
 exact sample_raw.le_res (SBle.tup ⟨cle,cle,trivial⟩)
def result_b1_r(w:Wd)(c:Scr)(s:Sta)(l:List Rq)(reasons:List Int)(lx1:Unit):Bool:=
 true
def result_b1(w:Wd)(c:Scr)(s:Sta)(l:List Rq)(reasons:List Int)(li1:Nat)(lx1:Unit):Fl Unit Bool:=
 (bif (((((Req.Requests w c s 0).2.1).getD li1 zExc).reason) != (reasons.getD li1 0)) then .rt false else .nx ())
def result_b1_s(w:Wd)(c:Scr)(s:Sta)(l:List Rq)(reasons:List Int)(li1:Nat)(qv:Int)(lx1:Unit):S:=mkS 54 [(4,.b (.v (.c (.lst 1 reasons.length (elM Sym.encI 0 reasons))))),(12,.b (.v (.c (.lst 5 (((Req.Requests w c s 0).2.1).length) (elM encExc zExc ((Req.Requests w c s 0).2.1)))))),(14,.b (.v (vI qv)))] []
def result(w:Wd)(c:Scr)(s:Sta)(l:List Rq)(reasons:List Int):Bool:=
 (bif (((((Req.Requests w c s 0).2.2) != 0)||(!(SameRequests ((Req.Requests w c s 0).1) l)))||(((((Req.Requests w c s 0).2.1).length:Nat):Int) != (reasons.length:Int))) then false else (runL (result_b1 w c s l reasons) (((Req.Requests w c s 0).2.1).length) 0 ()).fin (result_b1_r w c s l reasons))
theorem result_c(w:Wd)(c:Scr)(s:Sta)(l:List Rq)(reasons:List Int):FCall Tryz.prog 34 [.agg (encWd w),.agg (encScr c),.agg (encSta s),.c (.lst 5 l.length (elM encRq zRq l)),.c (.lst 1 reasons.length (elM Sym.encI 0 reasons))] (.v (vB (result w c s l reasons))):=by
 have ee0:=result.eq_1 w c s l reasons
 refine ul Tryz.func34 rfl (fun B hB=>?_)
 refine uq [(0,.imm),(1,.imm),(2,.imm)] [] ?_
 have cc1:=Req.Requests_c w c s 0
 refine us 3 cc1 ?_
 have cc2:=SameRequests_c ((Req.Requests w c s 0).1) l
 refine us 5 cc2 ?_
 refine ud ee0 (fun hh1 ee1=>?_) (fun hh1 ee2=>?_)
 ·refine u0 ?_
  exact run_ret (ut _ (by rw [ee1]<;>rfl))
 ·refine u0 ?_
  refine uS 12 5 (((Req.Requests w c s 0).2.1).length) (elM encExc zExc ((Req.Requests w c s 0).2.1)) (fun hL1=>?_)
  refine uF (((Req.Requests w c s 0).2.1).length) (result_b1_s w c s l reasons) (result_b1 w c s l reasons) (fun _ _=>True) () rfl [4,12,14] [] trivial (fun li1 lx1 hi1 hJ1 hr1=>?_) (fun lx1 hJ1 hr1=>?_)
  ·have ee4:=result_b1.eq_1 w c s l reasons li1 lx1
   refine uq [] [ub (li1:Int) ((Req.Requests w c s 0).2.1).length,ub (li1:Int) reasons.length] ?_
   refine ud ee4 (fun hh2 ee5=>?_) (fun hh2 ee7=>?_)
   ·refine u0 ?_
    have ee6:=fin_rt ee2 hr1 hi1 ee5
    exact run_ret (ut _ (by rw [ee6]<;>rfl))
   ·exact run_nil (uN (result_b1_s w c s l reasons) () hi1 [4,12,14] [] (trivial) ee7)
  ·have ee3:=(fin_nx ee2 hr1).trans (result_b1_r.eq_1 w c s l reasons lx1)
   refine u0 ?_
   exact run_ret (ut _ (by rw [ee3]<;>rfl))
def head:Bool:=
 ((((((((result sample.1 (⟨0,0,[],[],[],[],[]⟩:Scr) sample.2 [(⟨0,0,1,90,false⟩:Rq)] [19])&&(result (⟨sample.1.telescopes,sample.1.partners,sample.1.programmes.set 0 (⟨(sample.1.programmes.getD 0 zPrg).id,(sample.1.programmes.getD 0 zPrg).partner,(sample.1.programmes.getD 0 zPrg).merit,(sample.1.programmes.getD 0 zPrg).frm,(sample.1.programmes.getD 0 zPrg).til,(sample.1.programmes.getD 0 zPrg).tiles,(⟨[(⟨2,0,0⟩:Stp)],1⟩:Sq),(sample.1.programmes.getD 0 zPrg).follow,(sample.1.programmes.getD 0 zPrg).bonus⟩:Prg),sample.1.fast,sample.1.budget,sample.1.subs,sample.1.tape,sample.1.limit⟩:Wd) (⟨0,0,[],[],[],[],[]⟩:Scr) sample.2 [] [9,9]))&&(result sample.1 (⟨0,0,[(⟨3,0,0,0,5⟩:Spl)],[],[],[],[]⟩:Scr) sample.2 [] [18,18]))&&(result sample.1 (⟨0,0,[],[(⟨4,0,0,0,0,5,0⟩:Ov)],[],[],[]⟩:Scr) sample.2 [] [20,19]))&&(result sample.1 (⟨0,0,[],[],[],[],[]⟩:Scr) (⟨sample.2.mom,sample.2.turn,sample.2.rigs,sample.2.ghosts,sample.2.courses,sample.2.used,[(⟨0,1,0,5,(-1)⟩:Fol)],sample.2.tallies⟩:Sta) [(⟨0,0,1,90,false⟩:Rq),(⟨0,1,0,140,true⟩:Rq)] [19]))&&(Fea.Valid sample.1))&&(!(Fea.Valid (⟨[],[],[],(⟨ByteArray.empty,0,[]⟩:Flw),0,[],[],0⟩:Wd))))&&(((Req.Candidates sample.1 sample.2 1).2)==1))
theorem head_c:FCall Tryz.prog 10 [] (.v (vB head)):=by
 have ee0:=head.eq_1
 refine ul Tryz.func10 rfl (fun B hB=>?_)
 refine u0 ?_
 have cc1:=sample_c
 refine us 0 cc1 ?_
 refine u0 ?_
 have cc2:FCall Tryz.prog 34 [.agg (encWd sample.1),.agg [cI 0,cI 0,.nil,.nil,.nil,.nil,.nil],.agg (encSta sample.2),.c (.lst 5 1 (elM encRq zRq [(⟨0,0,1,90,false⟩:Rq)])),.c (.lst 1 1 (elM Sym.encI 0 [19]))] (.v (vB (result sample.1 (⟨0,0,[],[],[],[],[]⟩:Scr) sample.2 [(⟨0,0,1,90,false⟩:Rq)] [19]))):=(result_c sample.1 (⟨0,0,[],[],[],[],[]⟩:Scr) sample.2 [(⟨0,0,1,90,false⟩:Rq)] [19]).of_le ⟨CVle.refl _,(cle),CVle.refl _,CVle.refl _,CVle.refl _,trivial⟩
 refine uq [(4,.frz 1 (elM encRq zRq [(⟨0,0,1,90,false⟩:Rq)])),(5,.frz 1 (elM Sym.encI 0 [19])),(6,hcon cc2)] [@pu (1=1∧∀ i,i<1→(elM encRq zRq [(⟨0,0,1,90,false⟩:Rq)]) i=[[cI 0,cI 0,cI 1,cI 90,.bool false]].getD i []) (⟨rfl,fun i hi=>match i,hi with | 0,_=>rfl⟩),@pu (1=1∧∀ i,i<1→(elM Sym.encI 0 [19]) i=[[cI 19]].getD i []) (⟨rfl,fun i hi=>match i,hi with | 0,_=>rfl⟩),pu cc2] ?_
 refine u0 ?_
 refine uq [] [@pu (0=([]:List (List C)).length) (rfl),@pu ((0+sample.1.programmes.length)*(136+1)≤140737488355328) ((by decide +kernel))] ?_
 have hsl:sample.1.programmes.length=1:=by kernel_rfl
 refine uq [(3,.frz 1 (elM encStp zStp [(⟨2,0,0⟩:Stp)])),(7,.frz 0 (fun _=>(encPrg (sample.1.programmes.getD 0 zPrg))))] [@pu (1=1∧∀ i,i<1→(elM encStp zStp [(⟨2,0,0⟩:Stp)]) i=[[cI 2,cI 0,cI 0]].getD i []) (⟨rfl,fun i hi=>match i,hi with | 0,_=>rfl⟩),@pu (((0 :Int)≤0∧0<((0+sample.1.programmes.length:Nat):Int))∧0+sample.1.programmes.length=(([]:List (List C))++((List.range sample.1.programmes.length).map (elM encPrg zPrg sample.1.programmes))).length) (⟨vo,rowN (rowAn0 sample.1.programmes) (rowA0 sample.1.programmes)⟩),@pu (0+sample.1.programmes.length=(([]:List (List C))++((List.range sample.1.programmes.length).map (elM encPrg zPrg sample.1.programmes))).length) (rowN (rowAn0 sample.1.programmes) (rowA0 sample.1.programmes)),@pu ((0+sample.1.programmes.length=(([]:List (List C))++((List.range sample.1.programmes.length).map (elM encPrg zPrg sample.1.programmes))).length∧0<0+sample.1.programmes.length)∧(([]:List (List C))++((List.range sample.1.programmes.length).map (elM encPrg zPrg sample.1.programmes))).getD 0 []=(encPrg (sample.1.programmes.getD 0 zPrg))) (rowGet (rowAn0 sample.1.programmes) (rowA0 sample.1.programmes) vo)] ?_
 refine frzCell hB 5 2 26 ((sample.1.programmes.set 0 (⟨(sample.1.programmes.getD 0 zPrg).id,(sample.1.programmes.getD 0 zPrg).partner,(sample.1.programmes.getD 0 zPrg).merit,(sample.1.programmes.getD 0 zPrg).frm,(sample.1.programmes.getD 0 zPrg).til,(sample.1.programmes.getD 0 zPrg).tiles,(⟨[(⟨2,0,0⟩:Stp)],1⟩:Sq),(sample.1.programmes.getD 0 zPrg).follow,(sample.1.programmes.getD 0 zPrg).bonus⟩:Prg)).length) 70 10 [.lst 9 sample.1.telescopes.length (elM encTel zTel sample.1.telescopes),.lst 2 sample.1.partners.length (elM encPtn zPtn sample.1.partners),.row 26 (0+sample.1.programmes.length),.str sample.1.fast.name,cI sample.1.fast.version,.lst 4 sample.1.fast.steps.length (elM encFst zFst sample.1.fast.steps),cI sample.1.budget,.lst 4 sample.1.subs.length (elM encSub zSub sample.1.subs),.lst 1 sample.1.tape.length (elM Sym.encI 0 sample.1.tape),cI sample.1.limit] ((([]:List (List C))++((List.range sample.1.programmes.length).map (elM encPrg zPrg sample.1.programmes))).set 0 (splice (encPrg (sample.1.programmes.getD 0 zPrg)) 6 [.lst 3 1 (elM encStp zStp [(⟨2,0,0⟩:Stp)]),cI 1])) (elM encPrg zPrg (sample.1.programmes.set 0 (⟨(sample.1.programmes.getD 0 zPrg).id,(sample.1.programmes.getD 0 zPrg).partner,(sample.1.programmes.getD 0 zPrg).merit,(sample.1.programmes.getD 0 zPrg).frm,(sample.1.programmes.getD 0 zPrg).til,(sample.1.programmes.getD 0 zPrg).tiles,(⟨[(⟨2,0,0⟩:Stp)],1⟩:Sq),(sample.1.programmes.getD 0 zPrg).follow,(sample.1.programmes.getD 0 zPrg).bonus⟩:Prg))) [1,2,3,4,5] [] kr kr kr (rowN (y:=sample.1.programmes.set 0 (⟨(sample.1.programmes.getD 0 zPrg).id,(sample.1.programmes.getD 0 zPrg).partner,(sample.1.programmes.getD 0 zPrg).merit,(sample.1.programmes.getD 0 zPrg).frm,(sample.1.programmes.getD 0 zPrg).til,(sample.1.programmes.getD 0 zPrg).tiles,(⟨[(⟨2,0,0⟩:Stp)],1⟩:Sq),(sample.1.programmes.getD 0 zPrg).follow,(sample.1.programmes.getD 0 zPrg).bonus⟩:Prg)) (enc:=encPrg) (rowSn (rowAn0 sample.1.programmes)) (rowS (rowA0 sample.1.programmes) rfl)) (rowF (y:=sample.1.programmes.set 0 (⟨(sample.1.programmes.getD 0 zPrg).id,(sample.1.programmes.getD 0 zPrg).partner,(sample.1.programmes.getD 0 zPrg).merit,(sample.1.programmes.getD 0 zPrg).frm,(sample.1.programmes.getD 0 zPrg).til,(sample.1.programmes.getD 0 zPrg).tiles,(⟨[(⟨2,0,0⟩:Stp)],1⟩:Sq),(sample.1.programmes.getD 0 zPrg).follow,(sample.1.programmes.getD 0 zPrg).bonus⟩:Prg)) (enc:=encPrg) (rowS (rowA0 sample.1.programmes) rfl)) kr ?_ nofun
 have cc3:FCall Tryz.prog 34 [.agg [.lst 9 sample.1.telescopes.length (elM encTel zTel sample.1.telescopes),.lst 2 sample.1.partners.length (elM encPtn zPtn sample.1.partners),.lst 10 ((sample.1.programmes.set 0 (⟨(sample.1.programmes.getD 0 zPrg).id,(sample.1.programmes.getD 0 zPrg).partner,(sample.1.programmes.getD 0 zPrg).merit,(sample.1.programmes.getD 0 zPrg).frm,(sample.1.programmes.getD 0 zPrg).til,(sample.1.programmes.getD 0 zPrg).tiles,(⟨[(⟨2,0,0⟩:Stp)],1⟩:Sq),(sample.1.programmes.getD 0 zPrg).follow,(sample.1.programmes.getD 0 zPrg).bonus⟩:Prg)).length) (elM encPrg zPrg (sample.1.programmes.set 0 (⟨(sample.1.programmes.getD 0 zPrg).id,(sample.1.programmes.getD 0 zPrg).partner,(sample.1.programmes.getD 0 zPrg).merit,(sample.1.programmes.getD 0 zPrg).frm,(sample.1.programmes.getD 0 zPrg).til,(sample.1.programmes.getD 0 zPrg).tiles,(⟨[(⟨2,0,0⟩:Stp)],1⟩:Sq),(sample.1.programmes.getD 0 zPrg).follow,(sample.1.programmes.getD 0 zPrg).bonus⟩:Prg))),.str sample.1.fast.name,cI sample.1.fast.version,.lst 4 sample.1.fast.steps.length (elM encFst zFst sample.1.fast.steps),cI sample.1.budget,.lst 4 sample.1.subs.length (elM encSub zSub sample.1.subs),.lst 1 sample.1.tape.length (elM Sym.encI 0 sample.1.tape),cI sample.1.limit],.agg [cI 0,cI 0,.nil,.nil,.nil,.nil,.nil],.agg (encSta sample.2),.c (.nil),.c (.lst 1 2 (elM Sym.encI 0 [9,9]))] (.v (vB (result (⟨sample.1.telescopes,sample.1.partners,sample.1.programmes.set 0 (⟨(sample.1.programmes.getD 0 zPrg).id,(sample.1.programmes.getD 0 zPrg).partner,(sample.1.programmes.getD 0 zPrg).merit,(sample.1.programmes.getD 0 zPrg).frm,(sample.1.programmes.getD 0 zPrg).til,(sample.1.programmes.getD 0 zPrg).tiles,(⟨[(⟨2,0,0⟩:Stp)],1⟩:Sq),(sample.1.programmes.getD 0 zPrg).follow,(sample.1.programmes.getD 0 zPrg).bonus⟩:Prg),sample.1.fast,sample.1.budget,sample.1.subs,sample.1.tape,sample.1.limit⟩:Wd) (⟨0,0,[],[],[],[],[]⟩:Scr) sample.2 [] [9,9]))):=(result_c (⟨sample.1.telescopes,sample.1.partners,sample.1.programmes.set 0 (⟨(sample.1.programmes.getD 0 zPrg).id,(sample.1.programmes.getD 0 zPrg).partner,(sample.1.programmes.getD 0 zPrg).merit,(sample.1.programmes.getD 0 zPrg).frm,(sample.1.programmes.getD 0 zPrg).til,(sample.1.programmes.getD 0 zPrg).tiles,(⟨[(⟨2,0,0⟩:Stp)],1⟩:Sq),(sample.1.programmes.getD 0 zPrg).follow,(sample.1.programmes.getD 0 zPrg).bonus⟩:Prg),sample.1.fast,sample.1.budget,sample.1.subs,sample.1.tape,sample.1.limit⟩:Wd) (⟨0,0,[],[],[],[],[]⟩:Scr) sample.2 [] [9,9]).of_le ⟨CVle.refl _,(cle),CVle.refl _,CVle.nil _ _,CVle.refl _,trivial⟩
 refine uq [(3,.frz 2 (elM Sym.encI 0 [9,9])),(4,hcon cc3)] [@pu (2=2∧∀ i,i<2→(elM Sym.encI 0 [9,9]) i=[[cI 9],[cI 9]].getD i []) (⟨rfl,fun i hi=>match i,hi with | 0,_=>rfl | 1,_=>rfl⟩),pu cc3] ?_
 have cc4:FCall Tryz.prog 34 [.agg (encWd sample.1),.agg [cI 0,cI 0,.lst 5 1 (elM encSpl zSpl [(⟨3,0,0,0,5⟩:Spl)]),.nil,.nil,.nil,.nil],.agg (encSta sample.2),.c (.nil),.c (.lst 1 2 (elM Sym.encI 0 [18,18]))] (.v (vB (result sample.1 (⟨0,0,[(⟨3,0,0,0,5⟩:Spl)],[],[],[],[]⟩:Scr) sample.2 [] [18,18]))):=(result_c sample.1 (⟨0,0,[(⟨3,0,0,0,5⟩:Spl)],[],[],[],[]⟩:Scr) sample.2 [] [18,18]).of_le ⟨CVle.refl _,(cle),CVle.refl _,CVle.nil _ _,CVle.refl _,trivial⟩
 refine uq [(2,.frz 1 (elM encSpl zSpl [(⟨3,0,0,0,5⟩:Spl)])),(5,.frz 2 (elM Sym.encI 0 [18,18])),(6,hcon cc4)] [@pu (1=1∧∀ i,i<1→(elM encSpl zSpl [(⟨3,0,0,0,5⟩:Spl)]) i=[[cI 3,cI 0,cI 0,cI 0,cI 5]].getD i []) (⟨rfl,fun i hi=>match i,hi with | 0,_=>rfl⟩),@pu (2=2∧∀ i,i<2→(elM Sym.encI 0 [18,18]) i=[[cI 18],[cI 18]].getD i []) (⟨rfl,fun i hi=>match i,hi with | 0,_=>rfl | 1,_=>rfl⟩),pu cc4] ?_
 have cc5:FCall Tryz.prog 34 [.agg (encWd sample.1),.agg [cI 0,cI 0,.nil,.lst 7 1 (elM encOv zOv [(⟨4,0,0,0,0,5,0⟩:Ov)]),.nil,.nil,.nil],.agg (encSta sample.2),.c (.nil),.c (.lst 1 2 (elM Sym.encI 0 [20,19]))] (.v (vB (result sample.1 (⟨0,0,[],[(⟨4,0,0,0,0,5,0⟩:Ov)],[],[],[]⟩:Scr) sample.2 [] [20,19]))):=(result_c sample.1 (⟨0,0,[],[(⟨4,0,0,0,0,5,0⟩:Ov)],[],[],[]⟩:Scr) sample.2 [] [20,19]).of_le ⟨CVle.refl _,(cle),CVle.refl _,CVle.nil _ _,CVle.refl _,trivial⟩
 refine uq [(2,.frz 1 (elM encOv zOv [(⟨4,0,0,0,0,5,0⟩:Ov)])),(5,.frz 2 (elM Sym.encI 0 [20,19])),(6,hcon cc5)] [@pu (1=1∧∀ i,i<1→(elM encOv zOv [(⟨4,0,0,0,0,5,0⟩:Ov)]) i=[[cI 4,cI 0,cI 0,cI 0,cI 0,cI 5,cI 0]].getD i []) (⟨rfl,fun i hi=>match i,hi with | 0,_=>rfl⟩),@pu (2=2∧∀ i,i<2→(elM Sym.encI 0 [20,19]) i=[[cI 20],[cI 19]].getD i []) (⟨rfl,fun i hi=>match i,hi with | 0,_=>rfl | 1,_=>rfl⟩),pu cc5] ?_
 refine u0 ?_
 refine uq [(1,.frz 1 (elM encFol zFol [(⟨0,1,0,5,(-1)⟩:Fol)]))] [@pu (1=1∧∀ i,i<1→(elM encFol zFol [(⟨0,1,0,5,(-1)⟩:Fol)]) i=[[cI 0,cI 1,cI 0,cI 5,cI (-1)]].getD i []) (⟨rfl,fun i hi=>match i,hi with | 0,_=>rfl⟩)] ?_
 have cc6:FCall Tryz.prog 34 [.agg (encWd sample.1),.agg [cI 0,cI 0,.nil,.nil,.nil,.nil,.nil],.agg [cI sample.2.mom,cI sample.2.turn,.lst 3 sample.2.rigs.length (elM encRg zRg sample.2.rigs),.lst 4 sample.2.ghosts.length (elM encPx zPx sample.2.ghosts),.lst 1 sample.2.courses.length (elM (Sym.encL 4 encCs zCs) [] sample.2.courses),.lst 1 sample.2.used.length (elM Sym.encI 0 sample.2.used),.lst 5 1 (elM encFol zFol [(⟨0,1,0,5,(-1)⟩:Fol)]),.lst 4 sample.2.tallies.length (elM encTa zTa sample.2.tallies)],.c (.lst 5 2 (elM encRq zRq [(⟨0,0,1,90,false⟩:Rq),(⟨0,1,0,140,true⟩:Rq)])),.c (.lst 1 1 (elM Sym.encI 0 [19]))] (.v (vB (result sample.1 (⟨0,0,[],[],[],[],[]⟩:Scr) (⟨sample.2.mom,sample.2.turn,sample.2.rigs,sample.2.ghosts,sample.2.courses,sample.2.used,[(⟨0,1,0,5,(-1)⟩:Fol)],sample.2.tallies⟩:Sta) [(⟨0,0,1,90,false⟩:Rq),(⟨0,1,0,140,true⟩:Rq)] [19]))):=(result_c sample.1 (⟨0,0,[],[],[],[],[]⟩:Scr) (⟨sample.2.mom,sample.2.turn,sample.2.rigs,sample.2.ghosts,sample.2.courses,sample.2.used,[(⟨0,1,0,5,(-1)⟩:Fol)],sample.2.tallies⟩:Sta) [(⟨0,0,1,90,false⟩:Rq),(⟨0,1,0,140,true⟩:Rq)] [19]).of_le ⟨CVle.refl _,(cle),CVle.refl _,CVle.refl _,CVle.refl _,trivial⟩
 refine uq [(5,.frz 2 (elM encRq zRq [(⟨0,0,1,90,false⟩:Rq),(⟨0,1,0,140,true⟩:Rq)])),(6,.frz 1 (elM Sym.encI 0 [19])),(7,hcon cc6)] [@pu (2=2∧∀ i,i<2→(elM encRq zRq [(⟨0,0,1,90,false⟩:Rq),(⟨0,1,0,140,true⟩:Rq)]) i=[[cI 0,cI 0,cI 1,cI 90,.bool false],[cI 0,cI 1,cI 0,cI 140,.bool true]].getD i []) (⟨rfl,fun i hi=>match i,hi with | 0,_=>rfl | 1,_=>rfl⟩),@pu (1=1∧∀ i,i<1→(elM Sym.encI 0 [19]) i=[[cI 19]].getD i []) (⟨rfl,fun i hi=>match i,hi with | 0,_=>rfl⟩),pu cc6] ?_
 have cc7:=Req.Candidates_c sample.1 sample.2 1
 refine us 2 cc7 ?_
 have cc8:=Fea.Valid_c sample.1
 have cc9:FCall Tryz.prog 16 [.agg [.nil,.nil,.nil,.str ByteArray.empty,cI 0,.nil,cI 0,.nil,.nil,cI 0]] (.v (vB (Fea.Valid (⟨[],[],[],(⟨ByteArray.empty,0,[]⟩:Flw),0,[],[],0⟩:Wd)))):=(Fea.Valid_c (⟨[],[],[],(⟨ByteArray.empty,0,[]⟩:Flw),0,[],[],0⟩:Wd)).of_le ⟨(cle),trivial⟩
 refine uq [(15,hcon cc8),(19,hcon cc9)] [pu cc8,pu cc9] ?_
 exact run_ret (ut _ (by rw [ee0]<;>rfl))
end Go.Proofs.YtidbmbpeblmliaaGreatDoor.Hd
namespace Go.Proofs.YtidbmbpeblmliaaGreatDoor.Lw
open Go.Sym Go.Proofs.YtidbmbpeblmliaaGreatDoor
def few1_b1(e':List Nd)(lx1:Int):Fl Int Bool:=
 (bif ((decide (lx1<(e'.length:Int)))&&(decide (lx1<30))) then (bif ((decide ((((e'.getD lx1.toNat zNd).name).size:Int)>40))||(decide ((((e'.getD lx1.toNat zNd).kids).length:Int)>4))) then .rt false else .nx (IntKind.i64.wrap (lx1+1))) else .rt (decide ((e'.length:Int)≤30)))
def few1_b1_s(e':List Nd)(lx1:Int):S:=mkS 33 [(0,.b (.v (.c (.lst 4 e'.length (elM encNd zNd e'))))),(3,.b (.v (vI lx1)))] []
def few1(e':List Nd):Bool:=
 (runW (few1_b1 e') ((((e'.length:Int) - 0).toNat)+1) 0).fin (fun _=>false)
theorem few1_c(e':List Nd):FCall Tryz.prog 108 [.c (.lst 4 e'.length (elM encNd zNd e'))] (.v (vB (few1 e'))):=by
 have ee0:=few1.eq_1 e'
 refine ul Tryz.func108 rfl (fun B hB=>?_)
 refine u0 (u0 ?_)
 refine uS 0 4 e'.length (elM encNd zNd e') (fun hL1=>?_)
 refine rWhile ((((e'.length:Int) - 0).toNat)+1) (few1_b1_s e') (few1_b1 e') (fun lx1=>0≤lx1∧(lx1≤(e'.length:Int)∨(e'.length:Int)≤0)) (fun lx1=>((e'.length:Int) - lx1).toNat) 0 (wkTo [0,3] [] kr) (by first | omega | simp;omega) (Nat.lt_succ_self _) (fun k1 lx1 hJ1 hr1=>?_)
 have ee1:=few1_b1.eq_1 e' lx1
 refine u0 ?_
 refine ud ee1 (fun hh1 ee2=>?_) (fun hh1 ee6=>?_)
 ·refine rBlock ?_
  refine uq [] [ub lx1 e'.length,uh (!(decide ((((e'.getD lx1.toNat zNd).name).size:Int)>40))) lx1 e'.length] ?_
  refine ud ee2 (fun hh2 ee3=>?_) (fun hh2 ee5=>?_)
  ·refine u0 ?_
   have ee4:=finw_rt ee0 hr1 ee3
   exact run_ret (blockR_ret (ut _ (by rw [ee4]<;>rfl)))
  ·refine run_nil (blockR_normal ?_)
   refine u0 ?_
   exact run_nil (⟨(IntKind.i64.wrap (lx1+1)),wkTo [0,3] [] kr,(by first | omega | (simp (disch:=omega) only [w64];omega) | (simp only [q1,q2,q3,q4,q5,q6,q7,q8,q9,q10,q11,q12] at *;first | omega | (simp (disch:=omega) only [w64];omega))),ee5,by first | omega | (simp (disch:=omega) only [w64];omega) | (simp only [q1,q2,q3,q4,q5,q6,q7,q8,q9,q10,q11,q12] at *;first | omega | (simp (disch:=omega) only [w64];omega))⟩)
 ·refine run_exit ?_
  have ee7:=finw_rt ee0 hr1 ee6
  refine u0 ?_
  exact run_ret (ut _ (by rw [ee7]<;>rfl))
def FewWorld_b4_r(w:Wd)(lx1:Unit)(lx2:Unit)(lx3:Unit)(lx4:Unit):Bool:=
 true
def FewWorld_b4(w:Wd)(lx1:Unit)(lx2:Unit)(lx3:Unit)(li4:Nat)(lx4:Unit):Fl Unit Bool:=
 (bif (!(few1 ((w.subs.getD li4 zSub).when))) then .rt false else .nx ())
def FewWorld_b4_s(w:Wd)(lx1:Unit)(lx2:Unit)(lx3:Unit)(li4:Nat)(qv:Int)(lx4:Unit):S:=mkS 130 [(1,.b (.v (.c (.kptr (encWd w) 0)))),(7,.b (.v (vI qv)))] []
def FewWorld_b3_r(w:Wd)(lx1:Unit)(lx2:Unit)(lx3:Unit):Bool:=
 (runL (FewWorld_b4 w lx1 lx2 lx3) w.subs.length 0 ()).fin (FewWorld_b4_r w lx1 lx2 lx3)
def FewWorld_b3(w:Wd)(lx1:Unit)(lx2:Unit)(li3:Nat)(lx3:Unit):Fl Unit Bool:=
 (bif ((((decide ((((w.programmes.getD li3 zPrg).id).size:Int)>40))||(decide ((((w.programmes.getD li3 zPrg).tiles).length:Int)>4)))||(decide ((((((w.programmes.getD li3 zPrg).seq).l).length:Nat):Int)>4)))||(!(few1 ((w.programmes.getD li3 zPrg).merit)))) then .rt false else .nx ())
def FewWorld_b3_s(w:Wd)(lx1:Unit)(lx2:Unit)(li3:Nat)(qv:Int)(lx3:Unit):S:=mkS 130 [(1,.b (.v (.c (.kptr (encWd w) 0)))),(5,.b (.v (vI qv)))] []
def FewWorld_b2_r(w:Wd)(lx1:Unit)(lx2:Unit):Bool:=
 (runL (FewWorld_b3 w lx1 lx2) w.programmes.length 0 ()).fin (FewWorld_b3_r w lx1 lx2)
def FewWorld_b2(w:Wd)(lx1:Unit)(li2:Nat)(lx2:Unit):Fl Unit Bool:=
 (bif (decide ((((w.partners.getD li2 zPtn).id).size:Int)>40)) then .rt false else .nx ())
def FewWorld_b2_s(w:Wd)(lx1:Unit)(li2:Nat)(qv:Int)(lx2:Unit):S:=mkS 130 [(1,.b (.v (.c (.kptr (encWd w) 0)))),(4,.b (.v (vI qv)))] []
def FewWorld_b1_r(w:Wd)(lx1:Unit):Bool:=
 (runL (FewWorld_b2 w lx1) w.partners.length 0 ()).fin (FewWorld_b2_r w lx1)
def FewWorld_b1(w:Wd)(li1:Nat)(lx1:Unit):Fl Unit Bool:=
 (bif (decide ((((w.telescopes.getD li1 zTel).id).size:Int)>40)) then .rt false else .nx ())
def FewWorld_b1_s(w:Wd)(li1:Nat)(qv:Int)(lx1:Unit):S:=mkS 130 [(1,.b (.v (.c (.kptr (encWd w) 0)))),(3,.b (.v (vI qv)))] []
def FewWorld(w:Wd):Bool:=
 (bif (((((((decide ((w.telescopes.length:Int)>3))||(decide ((w.partners.length:Int)>4)))||(decide ((w.programmes.length:Int)>4)))||(decide ((w.subs.length:Int)>4)))||(decide ((w.fast.steps.length:Int)>12)))||(decide ((w.fast.name.size:Int)>40)))||(decide ((w.tape.length:Int)>12))) then false else (runL (FewWorld_b1 w) w.telescopes.length 0 ()).fin (FewWorld_b1_r w))
theorem FewWorld_c(w:Wd):FCall Tryz.prog 35 [.agg (encWd w)] (.v (vB (FewWorld w))):=by
 have ee0:=FewWorld.eq_1 w
 refine ul Tryz.func35 rfl (fun B hB=>?_)
 refine uq [(0,.imm)] [] ?_
 refine u0 ?_
 refine ud ee0 (fun hh1 ee1=>?_) (fun hh1 ee2=>?_)
 ·refine u0 ?_
  exact run_ret (ut _ (by rw [ee1]<;>rfl))
 ·refine u0 ?_
  refine uR 0 (.agg (encWd w)) (fun hR=>?_)
  have hL4:w.telescopes.length≤9223372036854775807:=Real.len (hR 0 (Nat.le_of_ble_eq_true rfl))
  refine uF w.telescopes.length (FewWorld_b1_s w) (FewWorld_b1 w) (fun _ _=>True) () rfl [1,3] [] trivial (fun li1 lx1 hi1 hJ1 hr1=>?_) (fun lx1 hJ1 hr1=>?_)
  ·have ee19:=FewWorld_b1.eq_1 w li1 lx1
   refine uq [] [ub (li1:Int) w.telescopes.length] ?_
   refine ud ee19 (fun hh5 ee20=>?_) (fun hh5 ee22=>?_)
   ·refine u0 ?_
    have ee21:=fin_rt ee2 hr1 hi1 ee20
    exact run_ret (ut _ (by rw [ee21]<;>rfl))
   ·exact run_nil (uN (FewWorld_b1_s w) () hi1 [1,3] [] (trivial) ee22)
  ·have ee3:=(fin_nx ee2 hr1).trans (FewWorld_b1_r.eq_1 w lx1)
   refine u0 ?_
   refine uR 1 (.c (.kptr (encWd w) 0)) (fun hR=>?_)
   have hL3:w.partners.length≤9223372036854775807:=Real.len (Real.at hR 1 (Nat.le_of_ble_eq_true rfl))
   refine uF w.partners.length (FewWorld_b2_s w lx1) (FewWorld_b2 w lx1) (fun _ _=>True) () rfl [1,4] [] trivial (fun li2 lx2 hi2 hJ2 hr2=>?_) (fun lx2 hJ2 hr2=>?_)
   ·have ee15:=FewWorld_b2.eq_1 w lx1 li2 lx2
    refine uq [] [ub (li2:Int) w.partners.length] ?_
    refine ud ee15 (fun hh4 ee16=>?_) (fun hh4 ee18=>?_)
    ·refine u0 ?_
     have ee17:=fin_rt ee3 hr2 hi2 ee16
     exact run_ret (ut _ (by rw [ee17]<;>rfl))
    ·exact run_nil (uN (FewWorld_b2_s w lx1) () hi2 [1,4] [] (trivial) ee18)
   ·have ee4:=(fin_nx ee3 hr2).trans (FewWorld_b2_r.eq_1 w lx1 lx2)
    refine u0 ?_
    refine uR 1 (.c (.kptr (encWd w) 0)) (fun hR=>?_)
    have hL2:w.programmes.length≤9223372036854775807:=Real.len (Real.at hR 2 (Nat.le_of_ble_eq_true rfl))
    refine uF w.programmes.length (FewWorld_b3_s w lx1 lx2) (FewWorld_b3 w lx1 lx2) (fun _ _=>True) () rfl [1,5] [] trivial (fun li3 lx3 hi3 hJ3 hr3=>?_) (fun lx3 hJ3 hr3=>?_)
    ·have ee11:=FewWorld_b3.eq_1 w lx1 lx2 li3 lx3
     refine uq [] [ub (li3:Int) w.programmes.length] ?_
     have cc2:=few1_c ((w.programmes.getD li3 zPrg).merit)
     refine us 20 cc2 ?_
     refine ud ee11 (fun hh3 ee12=>?_) (fun hh3 ee14=>?_)
     ·refine u0 ?_
      have ee13:=fin_rt ee4 hr3 hi3 ee12
      exact run_ret (ut _ (by rw [ee13]<;>rfl))
     ·exact run_nil (uN (FewWorld_b3_s w lx1 lx2) () hi3 [1,5] [6] (trivial) ee14)
    ·have ee5:=(fin_nx ee4 hr3).trans (FewWorld_b3_r.eq_1 w lx1 lx2 lx3)
     refine u0 ?_
     refine uR 1 (.c (.kptr (encWd w) 0)) (fun hR=>?_)
     have hL1:w.subs.length≤9223372036854775807:=Real.len (Real.at hR 7 (Nat.le_of_ble_eq_true rfl))
     refine uF w.subs.length (FewWorld_b4_s w lx1 lx2 lx3) (FewWorld_b4 w lx1 lx2 lx3) (fun _ _=>True) () rfl [1,7] [] trivial (fun li4 lx4 hi4 hJ4 hr4=>?_) (fun lx4 hJ4 hr4=>?_)
     ·have ee7:=FewWorld_b4.eq_1 w lx1 lx2 lx3 li4 lx4
      have cc1:=few1_c ((w.subs.getD li4 zSub).when)
      refine uq [(6,hcon cc1)] [ub (li4:Int) w.subs.length,pu cc1] ?_
      refine ud ee7 (fun hh2 ee8=>?_) (fun hh2 ee10=>?_)
      ·refine u0 ?_
       have ee9:=fin_rt ee5 hr4 hi4 ee8
       exact run_ret (ut _ (by rw [ee9]<;>rfl))
      ·exact run_nil (uN (FewWorld_b4_s w lx1 lx2 lx3) () hi4 [1,7] [] (trivial) ee10)
     ·have ee6:=(fin_nx ee5 hr4).trans (FewWorld_b4_r.eq_1 w lx1 lx2 lx3 lx4)
      refine u0 ?_
      exact run_ret (ut _ (by rw [ee6]<;>rfl))
def FewScript(c:Scr):Bool:=
 (((((decide ((c.spells.length:Int)≤8))&&(decide ((c.overrides.length:Int)≤8)))&&(decide ((c.defects.length:Int)≤8)))&&(decide ((c.payments.length:Int)≤12)))&&(decide ((c.foreign.length:Int)≤8)))
theorem FewScript_c(c:Scr):FCall Tryz.prog 36 [.agg (encScr c)] (.v (vB (FewScript c))):=by
 have ee0:=FewScript.eq_1 c
 refine ul Tryz.func36 rfl (fun B hB=>?_)
 refine uq [(0,.imm)] [] ?_
 refine u0 ?_
 exact run_ret (ut _ (by rw [ee0]<;>rfl))
def FewState_b1(s:Sta)(lx1:Int):Fl Int Bool:=
 (bif ((decide (lx1<(s.courses.length:Int)))&&(decide (lx1<6))) then (bif (decide (((s.courses.getD lx1.toNat []).length:Int)>6)) then .rt false else .nx (IntKind.i64.wrap (lx1+1))) else .rt ((((((decide ((s.courses.length:Int)≤6))&&(decide ((s.rigs.length:Int)≤6)))&&(decide ((s.ghosts.length:Int)≤6)))&&(decide ((s.used.length:Int)≤6)))&&(decide ((s.opn.length:Int)≤6)))&&(decide ((s.tallies.length:Int)≤30))))
def FewState_b1_s(s:Sta)(lx1:Int):S:=mkS 56 [(1,.b (.v (.c (.kptr (encSta s) 0)))),(3,.b (.v (vI lx1)))] []
def FewState(s:Sta):Bool:=
 (runW (FewState_b1 s) ((((s.courses.length:Int) - 0).toNat)+1) 0).fin (fun _=>false)
theorem FewState_c(s:Sta):FCall Tryz.prog 37 [.agg (encSta s)] (.v (vB (FewState s))):=by
 have ee0:=FewState.eq_1 s
 refine ul Tryz.func37 rfl (fun B hB=>?_)
 refine uq [(0,.imm)] [] ?_
 refine u0 ?_
 refine uR 0 (.agg (encSta s)) (fun hR=>?_)
 have hL1:s.courses.length≤9223372036854775807:=Real.len (hR 4 (Nat.le_of_ble_eq_true rfl))
 refine rWhile ((((s.courses.length:Int) - 0).toNat)+1) (FewState_b1_s s) (FewState_b1 s) (fun lx1=>0≤lx1∧(lx1≤(s.courses.length:Int)∨(s.courses.length:Int)≤0)) (fun lx1=>((s.courses.length:Int) - lx1).toNat) 0 (wkTo [1,3] [] kr) (by first | omega | simp;omega) (Nat.lt_succ_self _) (fun k1 lx1 hJ1 hr1=>?_)
 have ee1:=FewState_b1.eq_1 s lx1
 refine u0 ?_
 refine ud ee1 (fun hh1 ee2=>?_) (fun hh1 ee6=>?_)
 ·refine rBlock ?_
  refine uq [] [ub lx1 s.courses.length] ?_
  refine ud ee2 (fun hh2 ee3=>?_) (fun hh2 ee5=>?_)
  ·refine u0 ?_
   have ee4:=finw_rt ee0 hr1 ee3
   exact run_ret (blockR_ret (ut _ (by rw [ee4]<;>rfl)))
  ·refine run_nil (blockR_normal ?_)
   refine u0 ?_
   exact run_nil (⟨(IntKind.i64.wrap (lx1+1)),wkTo [1,3] [] kr,(by first | omega | (simp (disch:=omega) only [w64];omega) | (simp only [q1,q2,q3,q4,q5,q6,q7,q8,q9,q10,q11,q12] at *;first | omega | (simp (disch:=omega) only [w64];omega))),ee5,by first | omega | (simp (disch:=omega) only [w64];omega) | (simp only [q1,q2,q3,q4,q5,q6,q7,q8,q9,q10,q11,q12] at *;first | omega | (simp (disch:=omega) only [w64];omega))⟩)
 ·refine run_exit ?_
  have ee7:=finw_rt ee0 hr1 ee6
  refine u0 ?_
  exact run_ret (ut _ (by rw [ee7]<;>rfl))
def few(w:Wd)(c:Scr)(s:Sta):Bool:=
 (((FewWorld w)&&(FewScript c))&&(FewState s))
theorem few_c(w:Wd)(c:Scr)(s:Sta):FCall Tryz.prog 11 [.agg (encWd w),.agg (encScr c),.agg (encSta s)] (.v (vB (few w c s))):=by
 have ee0:=few.eq_1 w c s
 refine ul Tryz.func11 rfl (fun B hB=>?_)
 refine uq [(0,.imm),(1,.imm),(2,.imm)] [] ?_
 have cc1:=FewWorld_c w
 have cc2:=FewScript_c c
 have cc3:=FewState_c s
 refine uq [(1,hcon cc1),(4,hcon cc2),(8,hcon cc3)] [pu cc1,pu cc2,pu cc3] ?_
 exact run_ret (ut _ (by rw [ee0]<;>rfl))
end Go.Proofs.YtidbmbpeblmliaaGreatDoor.Lw
namespace Go.Proofs.YtidbmbpeblmliaaGreatDoor.Pl
open Go.Sym Go.Proofs.YtidbmbpeblmliaaGreatDoor
def slot(w:Wd)(c:Scr)(s:Sta)(t:Int):Slt:=(⟨w,c,s,t,(⟨(((Wea.At c.spells s.mom).1).clear),((Wea.At c.spells s.mom).1).seeing,((Wea.At c.spells s.mom).1).opn⟩:Cnd),(⟨(s.rigs.getD t.toNat zRg).pos,(s.rigs.getD t.toNat zRg).filter,(((s.rigs.getD t.toNat zRg).stuck)||((Ovr.Stuck c.overrides t s.mom).1))⟩:Rg)⟩:Slt)
def J(x:Slt)(a:Rq×Cs):Int:=Slo.judge x a.1 a.2
def xOf(x:Slt)(a:Rq×Cs):Exc:=⟨a.1.prog,a.1.tile,a.1.filter,a.1.alert,J x a⟩
def rOf(x:Slt)(a:Rq×Cs):Rq:=⟨a.1.prog,a.1.tile,a.1.filter,Slo.worth x a.1 a.2,a.1.alert⟩
def exs(x:Slt)(l:List (Rq×Cs)):List Exc:=(l.filter fun a=>J x a != 0).map (xOf x)
def rqs(x:Slt)(l:List (Rq×Cs)):List Rq:=(l.filter fun a=>J x a==0).map (rOf x)
theorem take_snoc{α:Type}{l:List α}{i:Nat}(h:i<l.length)(d:α):l.take (i+1)=l.take i++[l.getD i d]:=by
 rw [List.take_succ_eq_append_getElem h]
 simp [gE,h]
theorem exs_snoc(x:Slt)(l:List (Rq×Cs))(a:Rq×Cs):exs x (l++[a])=exs x l++(if J x a != 0 then [xOf x a] else []):=by
 rw [exs,List.filter_append,List.map_append]
 cases h:(J x a != 0)<;>simp [exs,h]
theorem rqs_snoc (x : Slt) (l : List (Rq × Cs)) (a : Rq × Cs) : rqs x (l ++ [a]) = rqs x l ++ (if J x a != 0 then [] else [rOf x a]) := by
  rw [rqs, List.filter_append, List.map_append]
  cases h : (J x a != 0) with
  | true => have : (J x a == 0) = false := by simpa using h
            simp [rqs, this]
  | false => have : (J x a == 0) = true := by simpa using h
             simp [rqs, this]
theorem req_loop(w:Wd)(c:Scr)(s:Sta)(t:Int):runL (Req.Requests_b1 w c s t) ((Cnd.candL w s).length) 0 (([]:List Exc),([]:List Rq))=.nx (exs (slot w c s t) (Cnd.candL w s),rqs (slot w c s t) (Cnd.candL w s)):=by
 refine runL_inv (bd:=Req.Requests_b1 w c s t) (n:=(Cnd.candL w s).length) (fun i x=>x=(exs (slot w c s t) ((Cnd.candL w s).take i),rqs (slot w c s t) ((Cnd.candL w s).take i))) (fun r=>r=.nx (exs (slot w c s t) (Cnd.candL w s),rqs (slot w c s t) (Cnd.candL w s))) ?_ ?_ ?_ ?_ _ 0 _ om (by simp [exs,rqs])
 ·rintro i x y hi rfl hb
  rw [take_snoc hi (zRq,zCs),exs_snoc,rqs_snoc]
  generalize ha:(Cnd.candL w s).getD i (zRq,zCs)=a
  simp only [Req.Requests_b1,ha] at hb
  change (bif J (slot w c s t) a != 0 then Fl.nx (exs (slot w c s t) ((Cnd.candL w s).take i)++[xOf (slot w c s t) a],rqs (slot w c s t) ((Cnd.candL w s).take i)) else Fl.nx (exs (slot w c s t) ((Cnd.candL w s).take i),rqs (slot w c s t) ((Cnd.candL w s).take i)++[rOf (slot w c s t) a]))=Fl.nx y at hb
  cases hj:(J (slot w c s t) a != 0) with
  | true=>rw [hj] at hb;cases hb;simp
  | false=>rw [hj] at hb;cases hb;simp
 ·rintro i x y hi rfl hb
  simp only [Req.Requests_b1,cond_eq_ite] at hb
  split at hb<;>cases hb
 ·rintro i x y hi rfl hb
  simp only [Req.Requests_b1,cond_eq_ite] at hb
  split at hb<;>cases hb
 ·rintro x rfl
  rw [List.take_length]
theorem req_ok{w:Wd}{c:Scr}{s:Sta}{t:Int}(h:(Req.Requests w c s t).2.2=0):Fea.Valid w=true∧Fea.fits w s=true∧(0≤t∧t<(w.telescopes.length:Int))∧Ovr.Valid c.overrides=true∧(Wea.At c.spells s.mom).2=0 ∧
  (rqs (slot w c s t) (Cnd.candL w s)).length≤200∧Req.Requests w c s t=(rqs (slot w c s t) (Cnd.candL w s),exs (slot w c s t) (Cnd.candL w s),0):=by
 rw [Req.Requests] at h ⊢
 cases h1:((((!(Fea.Valid w))||(!(Fea.fits w s)))||(decide (t<0)))||(decide (t≥(w.telescopes.length:Int))))||(!(Ovr.Valid c.overrides)) with
 | true=>rw [h1] at h;cases h
 | false =>
  rw [h1,cond_false] at h
  cases h2:(((Wea.At c.spells s.mom).2) != 0) with
  | true=>rw [h2] at h;cases h
  | false =>
   rw [h2,cond_false,req_loop] at h
   rw [cond_false,cond_false,req_loop]
   simp only [Bool.or_eq_false_iff,Bool.not_eq_false',decide_eq_false_iff_not] at h1
   simp only [Fl.fin,Req.Requests_b1_r] at h ⊢
   cases h3:decide ((((rqs (slot w c s t) (Cnd.candL w s)).length:Int))>200) with
   | true=>rw [h3] at h;cases h
   | false =>
    rw [cond_false]
    have h4:=of_decide_eq_false h3
    refine ⟨h1.1.1.1.1,h1.1.1.1.2,om,h1.2,by simpa using h2,om,rfl⟩
theorem head_true:Hd.head=true:=by kernel_rfl
end Go.Proofs.YtidbmbpeblmliaaGreatDoor.Pl
namespace Go.Sym
open Go.RowKit Go.WideShapes Go.ChangeShapes
theorem laid_of{P:Program}{W:World}{x y:String×DataW Unit}{rest:List (String×DataW Unit)}{t e:TypeId}{g0:Nat}(hg0:P.globalNamed tabName=some g0)(hty:(P.globals[g0]?).map (·.type)=some t)(ht:P.underlying t=some (.array 20 e))(he:P.underlying e=some (.int .u64))(hce:P.cellsOf e=1)(hct:P.cellsOf t=20) 
  (h:laidMet P (x :: y :: (tabName,Lib.tabData .u64 Lib.pow10Tab) :: rest) W):Laid P (allK W):=fun g hg=>by
 obtain ⟨ps,hv,_⟩:=h
 obtain ⟨_,_,_,_,_,_,_,_,_,_,hv,_⟩:=hv
 obtain ⟨_,_,_,_,_,_,_,_,_,_,hv,_⟩:=hv
 obtain ⟨g',t',cs,fuel,p,q,hg',ht',hvar,hd,_,_⟩:=hv
 obtain rfl:=Option.some.inj (hg0.symm.trans hg')
 obtain rfl:=Option.some.inj (hg0.symm.trans hg)
 obtain rfl:=Option.some.inj (hty.symm.trans ht')
 have hcs:=Lib.cells_of_tab ht he hce hct hd
 simp only [World.var?,hg0,Option.bind_some] at hvar
 split at hvar
 ·rename_i c T fz hb
  cases hvar
  refine ⟨T,fz,?_⟩
  show W.heap[_]?=_
  rw [hb]
  congr 1
  rw [show tabArr=(Lib.pow10Tab.map fun z=>Value.int .u64 z).toArray from rfl,← hcs]
 ·cases hvar
theorem law_contractL{H:Type}{enc:TypeId×Value→H}{C:Checked}{f:FuncId}{fn:Func}{s:ChangeSpec}{tb:TypeId}{ss:List Sh}{apart fresh handsOn again:Bool}(hvars:s.vars=[])(hs:∀ (H:Type) (ds:List (DataW H)),ds.length=fn.params.toList.length→s.fn H ds={ results:=[.lit (.bool true)],args:=ds }) 
  (hl:laidOutB C.prog=true) (hr:fn.params.toList.all (fun t=>C.prog.readableRec t&&decide (t<C.prog.types.size))=true) (hres:fn.resultTypes=#[tb]) (hb:C.prog.underlying tb=some .bool) (hsh:shAll C.prog fn.params.toList=some ss)
  (hlaw:∀ css,argsOk ss css→FCall C.prog f (argCVs C.prog fn.params.toList css) (.v (.c (.bool true)))) (W:World) (hlaidK:Laid C.prog (allK W)) (base:Nat) (args:Array Value) (ds gs:List (DataW H)) (before:List MemPlace)
  (hval:∀ (j:Nat) t v,fn.params[j]?=some t→args[j]?=some v→Value.okWide C.prog W .any base t v)
  (hW:DataW.Whole enc C.prog fn.params.toList s.vars apart W args.toList ds gs before) :
  Calls C.prog f args W fun e W'=>∃ v,e=.returned v∧s.post enc C.prog fn apart fresh handsOn again W args v W':=by
 have hW0:=hW
 obtain ⟨p,q,hA,hV,hpq,hfz,hnd⟩:=hW
 rw [hvars] at hV
 obtain ⟨hgs,hq⟩:=trodVars_none hV
 subst hgs
 subst hq
 rw [List.append_nil] at hpq
 subst hpq
 obtain ⟨hvl,hdl,css,hok,hcl,hrel⟩:=args_open hsh hA (fun j t v ht hv=>hval j t v (by simpa using ht) (by simpa using hv))
 have hlt:∀ x∈before,x.block<W.heap.size:=fun x hx=>hW0.lt x hx
 refine ((hlaw css hok).2 (allK W) W args hlaidK (fun b o h=>h) (by rw [hcl];simpa using hvl) (fun j hj=>?_)).mono ?_
 ·rw [hcl] at hj
  have:=hrel j hj
  simpa [gE] using this
 ·rintro e W' ⟨K',v,_,_,_,hbel,rfl,hv⟩
  have hvb:v=.bool true:=by
   have h1:RelK K' (.bool true) v:=hv.1
   generalize v=u at h1
   cases h1;rfl
  subst hvb
  refine ⟨_,rfl,?_⟩
  have hds:s.fn H (ds++[])={ results:=[.lit (.bool true)],args:=ds }:=by rw [List.append_nil];exact hs H ds hdl
  have hrs:∀ (b:Nat) (sp:Nat→Bool) (hd:Bool),DataW.TrodAll enc C.prog W' b sp hd fn.resultTypes.toList ((Value.bool true).resultList fn.resultTypes.size) [.lit (.bool true)] []:=fun b sp hd=>by
   rw [hres]
   exact ⟨[],[],shut_bool hb true,rfl,rfl⟩
  have hargs:∀ sp:Nat→Bool,(∀ x∈before,sp x.block=true)→DataW.TrodAll enc C.prog W' 0 sp true fn.params.toList args.toList ds before:=trodAll_behind hl hbel hr hlt hA
  refine ⟨ds,[],before,[],before,[],hW0,by rw [hds];exact hrs _ _ _,by rw [hds];exact hargs _ (fun x hx=>by simpa using hlt x hx),by rw [hds,hvars];rfl,World.keptBut_mono (fun x hx=>⟨hx,.inr (.inl hx)⟩) (hbel.frame (·∈before)),fun _=>?_⟩
  refine ⟨ok_one hres (by rfl) (okWide_bool_mk hb true),.lit (.bool true) :: ds,[],before,⟨before,[],?_,by rw [hvars];rfl,by simp,fun b off hp=>?_,fun ha=>hnd ha⟩,fun x hx _=>hx⟩
  ·have:=trodAll_append (hargs _ (fun _ _=>rfl)) (hrs 0 (fun _=>true) true)
   simpa using this
  ·rw [hbel.frozen (hlt _ hp)]
   exact hfz b off hp
end Go.Sym
