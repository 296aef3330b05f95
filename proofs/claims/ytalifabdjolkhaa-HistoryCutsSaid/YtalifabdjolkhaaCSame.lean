/- Contracts: gleaningref21.Same and model.Same tell whether two results are the same. -/
import Derived.Test.YtalifabdjolkhaaCEqual
namespace Go.Proofs.Ytalifabdjolkhaa.Ex
open Go

def sm1 (f : FuncId) : Option Sm :=
  bif Nat.beq f 18 then some (.ct (ctS gPairs fPairs)) else bif Nat.beq f 22 then some (.ct (ctS gPairs fPairs)) else none
theorem sm1_ok (hm : Try.prog.follows .mixedOrders = true) : SmOK Try.prog sm1 := fun f => by
  have key : ∀ s, sm1 f = some s → s = .ct (ctS gPairs fPairs) ∧ SmCall Try.prog f (fun args h => (ctS gPairs fPairs args h).sel) := fun s e => by
    unfold sm1 at e
    simp only [nbeq, Bool.cond_decide] at e
    split at e
    · rename_i hf; subst hf; simp only [Option.some.injEq] at e; exact ⟨e.symm, smPairs hm⟩
    · split at e
      · rename_i hf; subst hf; simp only [Option.some.injEq] at e; exact ⟨e.symm, smEqual hm⟩
      · cases e
  refine ⟨fun g e => ?_, fun g e => ?_, fun g e => ?_⟩
  · have := (key _ e).1; cases this
  · have := (key _ e).1; cases this
  · obtain ⟨h1, h2⟩ := key _ e
    simp only [Sm.ct.injEq] at h1; subst h1; exact h2
-- OPEN sameRes
def sameRes (k v : Int) (n : Nat) (a0 a1 : Nat → Int) (k2 v2 : Int) (m : Nat) (b0 b1 : Nat → Int) : Bool := decide (k = k2) && decide (v = v2) && samePairs n m a0 a1 b0 b1
abbrev gResult : List Ag := [.agg [none, none, cPair], .agg [none, none, cPair]]
def fSame (ds : List Da) : Option (Bool × AV) :=
  match ds with
  | [.agg [.v (.y .i64 k), .v (.y .u64 v), .rows _ n [.int .u64 a0, .int .u64 a1]], .agg [.v (.y .i64 k2), .v (.y .u64 v2), .rows _ m [.int .u64 b0, .int .u64 b1]]] => some (yNle n 1000000, .yb (sameRes k v n a0 a1 k2 v2 m b0 b1))
  | _ => none
def goalSame (f : FuncId) : Prop := ∀ (k v : Int) (nilA : Bool) (n : Nat) (a0 a1 : Nat → Int) (k2 v2 : Int) (nilB : Bool) (m : Nat) (b0 b1 : Nat → Int), yNle n 1000000 = true →
  wxF Try.prog sm1 (fun _ => none) 1000 f (canA gResult [.agg [.v (.y .i64 k), .v (.y .u64 v), .rows nilA n [.int .u64 a0, .int .u64 a1]], .agg [.v (.y .i64 k2), .v (.y .u64 v2), .rows nilB m [.int .u64 b0, .int .u64 b1]]] []).1
    (heapOf (canA gResult [.agg [.v (.y .i64 k), .v (.y .u64 v), .rows nilA n [.int .u64 a0, .int .u64 a1]], .agg [.v (.y .i64 k2), .v (.y .u64 v2), .rows nilB m [.int .u64 b0, .int .u64 b1]]] []).2) (fun r _ => cmpC (.yb (sameRes k v n a0 a1 k2 v2 m b0 b1)) r)
def goalSameRef : Prop := goalSame 14
def goalSameMod : Prop := goalSame 20
theorem goalSameRef_eq : goalSameRef = (∀ (k v : Int) (nilA : Bool) (n : Nat) (a0 a1 : Nat → Int) (k2 v2 : Int) (nilB : Bool) (m : Nat) (b0 b1 : Nat → Int),
  yNle n 1000000 = true →
    (yEq k k2 = true →
        (yEq v v2 = true →
            (yNle (yNadd 0 n) n = true →
                ((yCol (CK.int IntKind.u64) n fun (i : Nat) => AV.y IntKind.u64 (a0 i)) = true →
                    ((yCol (CK.int IntKind.u64) n fun (i : Nat) => AV.y IntKind.u64 (a1 i)) = true →
                        (yNle (yNadd 0 m) m = true →
                            ((yCol (CK.int IntKind.u64) m fun (i : Nat) => AV.y IntKind.u64 (b0 i)) = true →
                                ((yCol (CK.int IntKind.u64) m fun (i : Nat) => AV.y IntKind.u64 (b1 i)) = true →
                                    (yNle n 1000000 = true →
                                        sameRes k v n a0 a1 k2 v2 m b0 b1 =
                                          samePairs n m (fun (i : Nat) => a0 i) (fun (i : Nat) => a1 i)
                                            (fun (i : Nat) => b0 i) fun (i : Nat) => b1 i) ∧
                                      (yNle n 1000000 = false → False)) ∧
                                  ((yCol (CK.int IntKind.u64) m fun (i : Nat) => AV.y IntKind.u64 (b1 i)) = false →
                                    False)) ∧
                              ((yCol (CK.int IntKind.u64) m fun (i : Nat) => AV.y IntKind.u64 (b0 i)) = false →
                                False)) ∧
                          (yNle (yNadd 0 m) m = false → False)) ∧
                      ((yCol (CK.int IntKind.u64) n fun (i : Nat) => AV.y IntKind.u64 (a1 i)) = false → False)) ∧
                  ((yCol (CK.int IntKind.u64) n fun (i : Nat) => AV.y IntKind.u64 (a0 i)) = false → False)) ∧
              (yNle (yNadd 0 n) n = false → False)) ∧
          (yEq v v2 = false → sameRes k v n a0 a1 k2 v2 m b0 b1 = false)) ∧
      (yEq k k2 = false → sameRes k v n a0 a1 k2 v2 m b0 b1 = false)) := by kernel_rfl
theorem goalSameMod_eq : goalSameMod = (∀ (k v : Int) (nilA : Bool) (n : Nat) (a0 a1 : Nat → Int) (k2 v2 : Int) (nilB : Bool) (m : Nat) (b0 b1 : Nat → Int),
  yNle n 1000000 = true →
    (yEq k k2 = true →
        (yEq v v2 = true →
            (yNle (yNadd 0 n) n = true →
                ((yCol (CK.int IntKind.u64) n fun (i : Nat) => AV.y IntKind.u64 (a0 i)) = true →
                    ((yCol (CK.int IntKind.u64) n fun (i : Nat) => AV.y IntKind.u64 (a1 i)) = true →
                        (yNle (yNadd 0 m) m = true →
                            ((yCol (CK.int IntKind.u64) m fun (i : Nat) => AV.y IntKind.u64 (b0 i)) = true →
                                ((yCol (CK.int IntKind.u64) m fun (i : Nat) => AV.y IntKind.u64 (b1 i)) = true →
                                    (yNle n 1000000 = true →
                                        sameRes k v n a0 a1 k2 v2 m b0 b1 =
                                          samePairs n m (fun (i : Nat) => a0 i) (fun (i : Nat) => a1 i)
                                            (fun (i : Nat) => b0 i) fun (i : Nat) => b1 i) ∧
                                      (yNle n 1000000 = false → False)) ∧
                                  ((yCol (CK.int IntKind.u64) m fun (i : Nat) => AV.y IntKind.u64 (b1 i)) = false →
                                    False)) ∧
                              ((yCol (CK.int IntKind.u64) m fun (i : Nat) => AV.y IntKind.u64 (b0 i)) = false →
                                False)) ∧
                          (yNle (yNadd 0 m) m = false → False)) ∧
                      ((yCol (CK.int IntKind.u64) n fun (i : Nat) => AV.y IntKind.u64 (a1 i)) = false → False)) ∧
                  ((yCol (CK.int IntKind.u64) n fun (i : Nat) => AV.y IntKind.u64 (a0 i)) = false → False)) ∧
              (yNle (yNadd 0 n) n = false → False)) ∧
          (yEq v v2 = false → sameRes k v n a0 a1 k2 v2 m b0 b1 = false)) ∧
      (yEq k k2 = false → sameRes k v n a0 a1 k2 v2 m b0 b1 = false)) := by kernel_rfl
set_option maxRecDepth 100000 in
theorem sameRes_ok {f : FuncId} (he : goalSame f = (∀ (k v : Int) (nilA : Bool) (n : Nat) (a0 a1 : Nat → Int) (k2 v2 : Int) (nilB : Bool) (m : Nat) (b0 b1 : Nat → Int),
  yNle n 1000000 = true →
    (yEq k k2 = true →
        (yEq v v2 = true →
            (yNle (yNadd 0 n) n = true →
                ((yCol (CK.int IntKind.u64) n fun (i : Nat) => AV.y IntKind.u64 (a0 i)) = true →
                    ((yCol (CK.int IntKind.u64) n fun (i : Nat) => AV.y IntKind.u64 (a1 i)) = true →
                        (yNle (yNadd 0 m) m = true →
                            ((yCol (CK.int IntKind.u64) m fun (i : Nat) => AV.y IntKind.u64 (b0 i)) = true →
                                ((yCol (CK.int IntKind.u64) m fun (i : Nat) => AV.y IntKind.u64 (b1 i)) = true →
                                    (yNle n 1000000 = true →
                                        sameRes k v n a0 a1 k2 v2 m b0 b1 =
                                          samePairs n m (fun (i : Nat) => a0 i) (fun (i : Nat) => a1 i)
                                            (fun (i : Nat) => b0 i) fun (i : Nat) => b1 i) ∧
                                      (yNle n 1000000 = false → False)) ∧
                                  ((yCol (CK.int IntKind.u64) m fun (i : Nat) => AV.y IntKind.u64 (b1 i)) = false →
                                    False)) ∧
                              ((yCol (CK.int IntKind.u64) m fun (i : Nat) => AV.y IntKind.u64 (b0 i)) = false →
                                False)) ∧
                          (yNle (yNadd 0 m) m = false → False)) ∧
                      ((yCol (CK.int IntKind.u64) n fun (i : Nat) => AV.y IntKind.u64 (a1 i)) = false → False)) ∧
                  ((yCol (CK.int IntKind.u64) n fun (i : Nat) => AV.y IntKind.u64 (a0 i)) = false → False)) ∧
              (yNle (yNadd 0 n) n = false → False)) ∧
          (yEq v v2 = false → sameRes k v n a0 a1 k2 v2 m b0 b1 = false)) ∧
      (yEq k k2 = false → sameRes k v n a0 a1 k2 v2 m b0 b1 = false))) : goalSame f := by
  refine kernel_go he ?_
  intro k v nilA n a0 a1 k2 v2 nilB m b0 b1 hn
  simp only [yNot_t, yNot_f, yEq_t, yEq_f, yAnd_t, yAnd_f, yOr_t, yOr_f, yIff_t, yIff_f, yLt_t, yLt_f, yLe_t, yLe_f, yIn_t, yIn_f, yNlt_t, yNlt_f, yNle_t, yNle_f, yNeq_t, yNeq_f, yGrow_t, yGrow_f, yInt_e, yNat_e, yNadd_e, yNsub_e, yAdd_e, ySub_e, yMul_e, yCol_int, yCol_bool, true_and, and_true, Nat.zero_add, Nat.add_zero, Nat.le_refl, forall_const, true_implies, Bool.true_eq_false, Bool.false_eq_true, false_implies] at hn ⊢
  unfold sameRes
  refine ⟨fun h => ⟨fun h2 => ?_, fun h2 => by simp [h2]⟩, fun h => by simp [h]⟩
  simp [h, h2, hn]
theorem goalSameRef_ok : goalSame 14 := sameRes_ok goalSameRef_eq
theorem goalSameMod_ok : goalSame 20 := sameRes_ok goalSameMod_eq
set_option maxRecDepth 100000 in
theorem smSame (hm : Try.prog.follows .mixedOrders = true) {f : FuncId} (hf : goalSame f) : SmCall Try.prog f (fun args h => (ctS gResult fSame args h).sel) :=
  ctS_ok hm (sm1_ok hm) (by decide) (fun ds a h => by
    unfold fSame at h
    split at h
    · rename_i k v nA n a0 a1 k2 v2 nB m b0 b1
      simp only [Option.some.injEq, Prod.mk.injEq] at h
      obtain ⟨h1, rfl⟩ := h
      have h2 := hf
      unfold goalSame at h2
      exact ⟨fun _ => none, 1000, h2 k v nA n a0 a1 k2 v2 nB m b0 b1 h1⟩
    · cases h)
end Go.Proofs.Ytalifabdjolkhaa.Ex
