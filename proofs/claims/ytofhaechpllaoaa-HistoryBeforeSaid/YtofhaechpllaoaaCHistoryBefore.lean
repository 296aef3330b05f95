/- The law HistoryBefore, walked. -/
import Derived.Test.YtofhaechpllaoaaProg
import Derived.Test.YtofhaechpllaoaaWh
import Derived.Test.YtofhaechpllaoaaExQ
import Derived.Test.YtofhaechpllaoaaWi
namespace Go.Proofs.Ytofhaechpllaoaa.Ex
open Go

theorem awake29 : isB true (callS Try.prog noSm 1000 10 []) = true := by kernel_rfl
def sm29 (f : FuncId) : Option Sm := bif Nat.beq f 10 then some (.call (smB true)) else none
theorem sm29_ok (hm : Try.prog.follows .mixedOrders = true) (gw : ∀ w, GW w) : SmOK Try.prog sm29 := fun f => by
  have key : ∀ s, sm29 f = some s → s = .call (smB true) ∧ SmCall Try.prog f (smB true) := fun s e => by
    unfold sm29 at e
    simp only [nbeq, Bool.cond_decide] at e
    split at e
    · rename_i hf; subst hf; simp only [Option.some.injEq] at e
      exact ⟨e.symm, smBool_ok Try.func10 (by kernel_rfl) (by kernel_rfl) (fun w hw => callN_calls hm awake29 (us := []) rfl w (gw w))⟩
    · cases e
  refine ⟨fun g e => ?_, fun g e => ?_, fun g e => ?_⟩
  · obtain ⟨h1, h2⟩ := key _ e
    simp only [Sm.call.injEq] at h1; subst h1; exact h2
  · cases (key _ e).1
  · cases (key _ e).1
def gCall : List Cs := [none, none, none, none, none, none, none, none, none, none, none, none, some (47, [.int .u64, .int .u64])]
def goalHistoryBefore : Prop := ∀ (id1 : Int) (th1 : Int) (ok1 : Int) (key1 : Int) (val1 : Int) (hi1 : Int) (mo1 : Int) (fr1 : Int) (to1 : Int) (ov1 : Bool) (rk1 : Int) (rv1 : Int) (nil1 : Bool) (n1 : Nat) (a1 b1 : Nat → Int) (id2 : Int) (th2 : Int) (ok2 : Int) (key2 : Int) (val2 : Int) (hi2 : Int) (mo2 : Int) (fr2 : Int) (to2 : Int) (ov2 : Bool) (rk2 : Int) (rv2 : Int) (nil2 : Bool) (n2 : Nat) (a2 b2 : Nat → Int),
  wxF Try.prog sm29 (fun _ => none) 1000 3 (canA [.agg gCall, .agg gCall] [.agg [.v (.y .i64 id1), .v (.y .i64 th1), .v (.y .i64 ok1), .v (.y .u64 key1), .v (.y .u64 val1), .v (.y .u64 hi1), .v (.y .i64 mo1), .v (.y .i64 fr1), .v (.y .i64 to1), .v (.yb ov1), .v (.y .i64 rk1), .v (.y .u64 rv1), .rows nil1 n1 [.int .u64 a1, .int .u64 b1]], .agg [.v (.y .i64 id2), .v (.y .i64 th2), .v (.y .i64 ok2), .v (.y .u64 key2), .v (.y .u64 val2), .v (.y .u64 hi2), .v (.y .i64 mo2), .v (.y .i64 fr2), .v (.y .i64 to2), .v (.yb ov2), .v (.y .i64 rk2), .v (.y .u64 rv2), .rows nil2 n2 [.int .u64 a2, .int .u64 b2]]] []).1
    (heapOf (canA [.agg gCall, .agg gCall] [.agg [.v (.y .i64 id1), .v (.y .i64 th1), .v (.y .i64 ok1), .v (.y .u64 key1), .v (.y .u64 val1), .v (.y .u64 hi1), .v (.y .i64 mo1), .v (.y .i64 fr1), .v (.y .i64 to1), .v (.yb ov1), .v (.y .i64 rk1), .v (.y .u64 rv1), .rows nil1 n1 [.int .u64 a1, .int .u64 b1]], .agg [.v (.y .i64 id2), .v (.y .i64 th2), .v (.y .i64 ok2), .v (.y .u64 key2), .v (.y .u64 val2), .v (.y .u64 hi2), .v (.y .i64 mo2), .v (.y .i64 fr2), .v (.y .i64 to2), .v (.yb ov2), .v (.y .i64 rk2), .v (.y .u64 rv2), .rows nil2 n2 [.int .u64 a2, .int .u64 b2]]] []).2) (fun r _ => cmpC (.yb true) r)
theorem goalHistoryBefore_eq : goalHistoryBefore = (∀ (id1 th1 ok1 key1 val1 hi1 mo1 fr1 to1 : Int) (ov1 : Bool) (rk1 rv1 : Int) (nil1 : Bool) (n1 : Nat)
  (a1 b1 : Nat → Int) (id2 th2 ok2 key2 val2 hi2 mo2 fr2 to2 : Int) (ov2 : Bool) (rk2 rv2 : Int) (nil2 : Bool)
  (n2 : Nat) (a2 b2 : Nat → Int),
  (yLt 100 (yWrap IntKind.i64 (yAdd (yInt n1) (yInt n2))) = true → true = true) ∧
    (yLt 100 (yWrap IntKind.i64 (yAdd (yInt n1) (yInt n2))) = false →
      (ov1 = true →
          (ov1 = true →
              (yIff (yLt to1 fr2) (yLt to1 fr2) = true → true = true) ∧
                (yIff (yLt to1 fr2) (yLt to1 fr2) = false → true = false)) ∧
            (ov1 = false →
              (yIff (yLt to1 fr2) false = true → true = true) ∧ (yIff (yLt to1 fr2) false = false → true = false))) ∧
        (ov1 = false →
          (ov1 = true →
              (yIff false (yLt to1 fr2) = true → true = true) ∧ (yIff false (yLt to1 fr2) = false → true = false)) ∧
            (ov1 = false → true = true)))) := by kernel_rfl
set_option maxRecDepth 100000 in
theorem goalHistoryBefore_ok : goalHistoryBefore := by
  refine kernel_go goalHistoryBefore_eq ?_
  intro id1 th1 ok1 key1 val1 hi1 mo1 fr1 to1 ov1 rk1 rv1 nil1 n1 a1 b1 id2 th2 ok2 key2 val2 hi2 mo2 fr2 to2 ov2 rk2 rv2 nil2 n2 a2 b2
  cases ov1 <;> simp [yIff_f]
end Go.Proofs.Ytofhaechpllaoaa.Ex
