/- Chapter 37's example: its operations, and what comes of the runs. -/
import Derived.Test.YtiikiphkhfmlcaaGreatDoorTab
import Derived.Test.YtiikiphkhfmlcaaGreatDoorGrM
import Derived.Test.YtiikiphkhfmlcaaGreatDoorProg
noncomputable section
namespace Go.Proofs.YtiikiphkhfmlcaaGreatDoor.Ex
open Go

def cC37 : AV := .agg [.i .i64 3, .i .i64 2, .i .i64 4, .i .i64 1, .i .i64 3]
def oP37 : AV := .agg [.i .i64 2, .i .u64 1, .i .u64 5, .i .u64 0, .i .i64 0]
def oG37 : AV := .agg [.i .i64 1, .i .u64 1, .i .u64 0, .i .u64 0, .i .i64 0]
def oZ37 : AV := .agg [.i .i64 2, .i .u64 0, .i .u64 0, .i .u64 0, .i .i64 0]
def oc37 (a b c d e : Int) : AV := .agg [.i .i64 a, .i .u64 b, .i .i64 c, .i .u64 d, .i .i64 e]
def lGr37 : List (Nat × Sm) := [(261, .ct grwAM)]
def tLong : List (List AV × RX) := [([cC37, .ns, oP37], .lit (.i .i64 15)), ([cC37, .ns, oG37], .lit (.i .i64 11)), ([cC37, .ns, oZ37], .lit (.i .i64 15))]
def tRun : List (List AV × RX) := [([cC37, .ns, oP37, oG37, .i .i64 0, .i .i64 0], .ptr 0 (oc37 1 0 2 5 1)), ([cC37, .ns, oP37, oG37, .i .i64 0, .i .i64 11], .ptr 0 (oc37 1 0 1 0 1)), ([cC37, .ns, oP37, oG37, .i .i64 11, .i .i64 0], .ptr 0 (oc37 1 0 2 5 1)), ([cC37, .ns, oP37, oG37, .i .i64 11, .i .i64 11], .ptr 0 (oc37 1 0 2 5 1))]
/-- machine.New, once as a pointer to a machine of which nothing is told (where it is only asked whether there is one), else as it runs. -/
def newG37 (args : List AV) (h : AH) : Option (AV × AH) :=
  bif Nat.beq h.nx 4 && litL args [cC37] then some (.ptr h.nx 0, newP h) else callA Tryz.prog ⟨exec Tryz.prog (smL lGr37) 1000, smL lGr37⟩ 11 args h
def lNw37 : List (Nat × Sm) := [(261, .ct grwAM), (11, .call newG37)]
theorem smGr37 : SmOK Tryz.prog (smL lGr37) := smL_ok ⟨smGrowM, trivial⟩
set_option maxRecDepth 100000 in
theorem new37 : okX (.one 0) (callS Tryz.prog (smL lGr37) 1000 11 [cC37]) = true := by kernel_rfl
theorem smNw37 (hm : Tryz.prog.follows .mixedOrders = true) : SmCall Tryz.prog 11 newG37 := by
  intro args h v h' hg
  unfold newG37 at hg
  cases hb : Nat.beq h.nx 4 && litL args [cC37] with
  | true =>
    rw [hb, cond_true] at hg
    simp only [Bool.and_eq_true] at hb
    refine sm_tab hm smGr37 (n := 1000) (tab := [([cC37], .one 0)]) ⟨new37, trivial⟩ args h v h' ?_
    simp only [tabG, hb.2, cond_true]
    exact hg
  | false =>
    rw [hb, cond_false] at hg
    exact callA_ok (exec_good hm smGr37 1000) hg
end Go.Proofs.YtiikiphkhfmlcaaGreatDoor.Ex
