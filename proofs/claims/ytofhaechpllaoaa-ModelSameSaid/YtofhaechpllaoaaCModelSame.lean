/- The law ModelSame, walked. -/
import Derived.Test.YtofhaechpllaoaaCSame
namespace Go.Proofs.Ytofhaechpllaoaa.Ex
open Go

def sm2 (f : FuncId) : Option Sm :=
  bif Nat.beq f 19 then some (.ct (ctS gResult fSame)) else bif Nat.beq f 18 then some (.ct (ctS gResult fSame)) else bif Nat.beq f 17 then some (.call (smB true)) else none
theorem awake21 : isB true (callS Try.prog noSm 1000 17 []) = true := by kernel_rfl
theorem sm2_ok (hm : Try.prog.follows .mixedOrders = true) (gw : ∀ w, GW w) : SmOK Try.prog sm2 := fun f => by
  have key : ∀ s, sm2 f = some s → (s = .ct (ctS gResult fSame) ∧ SmCall Try.prog f (fun args h => (ctS gResult fSame args h).sel)) ∨ (s = .call (smB true) ∧ SmCall Try.prog f (smB true)) := fun s e => by
    unfold sm2 at e
    simp only [nbeq, Bool.cond_decide] at e
    split at e
    · rename_i hf; subst hf; simp only [Option.some.injEq] at e; exact .inl ⟨e.symm, smSame hm goalSameRef_ok⟩
    · split at e
      · rename_i hf; subst hf; simp only [Option.some.injEq] at e; exact .inl ⟨e.symm, smSame hm goalSameMod_ok⟩
      · split at e
        · rename_i hf; subst hf; simp only [Option.some.injEq] at e
          exact .inr ⟨e.symm, smBool_ok Try.func17 (by kernel_rfl) (by kernel_rfl) (fun w hw => callN_calls hm awake21 (us := []) rfl w (gw w))⟩
        · cases e
  refine ⟨fun g e => ?_, fun g e => ?_, fun g e => ?_⟩
  · rcases key _ e with ⟨h1, h2⟩ | ⟨h1, h2⟩
    · cases h1
    · simp only [Sm.call.injEq] at h1; subst h1; exact h2
  · rcases key _ e with ⟨h1, h2⟩ | ⟨h1, h2⟩ <;> cases h1
  · rcases key _ e with ⟨h1, h2⟩ | ⟨h1, h2⟩
    · simp only [Sm.ct.injEq] at h1; subst h1; exact h2
    · cases h1
def goalModelSame : Prop := ∀ (k v : Int) (nilA : Bool) (n : Nat) (a0 a1 : Nat → Int) (k2 v2 : Int) (nilB : Bool) (m : Nat) (b0 b1 : Nat → Int),
  wxF Try.prog sm2 (fun _ => none) 1000 5 (canA gResult [.agg [.v (.y .i64 k), .v (.y .u64 v), .rows nilA n [.int .u64 a0, .int .u64 a1]], .agg [.v (.y .i64 k2), .v (.y .u64 v2), .rows nilB m [.int .u64 b0, .int .u64 b1]]] []).1
    (heapOf (canA gResult [.agg [.v (.y .i64 k), .v (.y .u64 v), .rows nilA n [.int .u64 a0, .int .u64 a1]], .agg [.v (.y .i64 k2), .v (.y .u64 v2), .rows nilB m [.int .u64 b0, .int .u64 b1]]] []).2) (fun r _ => cmpC (.yb true) r)
theorem goalModelSame_eq : goalModelSame = (∀ (k v : Int) (nilA : Bool) (n : Nat) (a0 a1 : Nat → Int) (k2 v2 : Int) (nilB : Bool) (m : Nat) (b0 b1 : Nat → Int),
  (yLt 100 (yInt n) = true → true = true) ∧
    (yLt 100 (yInt n) = false →
      (yLt 100 (yInt m) = true → true = true) ∧
        (yLt 100 (yInt m) = false →
          (yNle (yNadd 0 n) n = true →
              ((yCol (CK.int IntKind.u64) n fun (i : Nat) => AV.y IntKind.u64 (a0 i)) = true →
                  ((yCol (CK.int IntKind.u64) n fun (i : Nat) => AV.y IntKind.u64 (a1 i)) = true →
                      (yNle (yNadd 0 m) m = true →
                          ((yCol (CK.int IntKind.u64) m fun (i : Nat) => AV.y IntKind.u64 (b0 i)) = true →
                              ((yCol (CK.int IntKind.u64) m fun (i : Nat) => AV.y IntKind.u64 (b1 i)) = true →
                                  (yNle n 1000000 = true →
                                      (yNle (yNadd 0 n) n = true →
                                          ((yCol (CK.int IntKind.u64) n fun (i : Nat) => AV.y IntKind.u64 (a0 i)) =
                                                true →
                                              ((yCol (CK.int IntKind.u64) n fun (i : Nat) => AV.y IntKind.u64 (a1 i)) =
                                                    true →
                                                  (yNle (yNadd 0 m) m = true →
                                                      ((yCol (CK.int IntKind.u64) m fun (i : Nat) =>
                                                              AV.y IntKind.u64 (b0 i)) =
                                                            true →
                                                          ((yCol (CK.int IntKind.u64) m fun (i : Nat) =>
                                                                  AV.y IntKind.u64 (b1 i)) =
                                                                true →
                                                              (yNle n 1000000 = true →
                                                                  (yIff
                                                                          (sameRes k v n (fun (i : Nat) => a0 i)
                                                                            (fun (i : Nat) => a1 i) k2 v2 m
                                                                            (fun (i : Nat) => b0 i) fun (i : Nat) =>
                                                                            b1 i)
                                                                          (sameRes k v n (fun (i : Nat) => a0 i)
                                                                            (fun (i : Nat) => a1 i) k2 v2 m
                                                                            (fun (i : Nat) => b0 i) fun (i : Nat) =>
                                                                            b1 i) =
                                                                        true →
                                                                      (yNle (yNadd 0 n) n = true →
                                                                          ((yCol (CK.int IntKind.u64) n fun (i : Nat) =>
                                                                                  AV.y IntKind.u64 (a0 i)) =
                                                                                true →
                                                                              ((yCol (CK.int IntKind.u64) n
                                                                                      fun (i : Nat) =>
                                                                                      AV.y IntKind.u64 (a1 i)) =
                                                                                    true →
                                                                                  (yNle (yNadd 0 n) n = true →
                                                                                      ((yCol (CK.int IntKind.u64) n
                                                                                              fun (i : Nat) =>
                                                                                              AV.y IntKind.u64 (a0 i)) =
                                                                                            true →
                                                                                          ((yCol (CK.int IntKind.u64) n
                                                                                                  fun (i : Nat) =>
                                                                                                  AV.y IntKind.u64
                                                                                                    (a1 i)) =
                                                                                                true →
                                                                                              (yNle n 1000000 = true →
                                                                                                  ((sameRes k v n
                                                                                                          (fun
                                                                                                              (i :
                                                                                                                Nat) =>
                                                                                                            a0 i)
                                                                                                          (fun
                                                                                                              (i :
                                                                                                                Nat) =>
                                                                                                            a1 i)
                                                                                                          k v n
                                                                                                          (fun
                                                                                                              (i :
                                                                                                                Nat) =>
                                                                                                            a0 i)
                                                                                                          fun
                                                                                                            (i : Nat) =>
                                                                                                          a1 i) =
                                                                                                        true →
                                                                                                      true = true) ∧
                                                                                                    ((sameRes k v n
                                                                                                          (fun
                                                                                                              (i :
                                                                                                                Nat) =>
                                                                                                            a0 i)
                                                                                                          (fun
                                                                                                              (i :
                                                                                                                Nat) =>
                                                                                                            a1 i)
                                                                                                          k v n
                                                                                                          (fun
                                                                                                              (i :
                                                                                                                Nat) =>
                                                                                                            a0 i)
                                                                                                          fun
                                                                                                            (i : Nat) =>
                                                                                                          a1 i) =
                                                                                                        false →
                                                                                                      true = false)) ∧
                                                                                                (yNle n 1000000 =
                                                                                                    false →
                                                                                                  False)) ∧
                                                                                            ((yCol (CK.int IntKind.u64)
                                                                                                  n fun (i : Nat) =>
                                                                                                  AV.y IntKind.u64
                                                                                                    (a1 i)) =
                                                                                                false →
                                                                                              False)) ∧
                                                                                        ((yCol (CK.int IntKind.u64) n
                                                                                              fun (i : Nat) =>
                                                                                              AV.y IntKind.u64 (a0 i)) =
                                                                                            false →
                                                                                          False)) ∧
                                                                                    (yNle (yNadd 0 n) n = false →
                                                                                      False)) ∧
                                                                                ((yCol (CK.int IntKind.u64) n
                                                                                      fun (i : Nat) =>
                                                                                      AV.y IntKind.u64 (a1 i)) =
                                                                                    false →
                                                                                  False)) ∧
                                                                            ((yCol (CK.int IntKind.u64) n
                                                                                  fun (i : Nat) =>
                                                                                  AV.y IntKind.u64 (a0 i)) =
                                                                                false →
                                                                              False)) ∧
                                                                        (yNle (yNadd 0 n) n = false → False)) ∧
                                                                    (yIff
                                                                          (sameRes k v n (fun (i : Nat) => a0 i)
                                                                            (fun (i : Nat) => a1 i) k2 v2 m
                                                                            (fun (i : Nat) => b0 i) fun (i : Nat) =>
                                                                            b1 i)
                                                                          (sameRes k v n (fun (i : Nat) => a0 i)
                                                                            (fun (i : Nat) => a1 i) k2 v2 m
                                                                            (fun (i : Nat) => b0 i) fun (i : Nat) =>
                                                                            b1 i) =
                                                                        false →
                                                                      true = false)) ∧
                                                                (yNle n 1000000 = false → False)) ∧
                                                            ((yCol (CK.int IntKind.u64) m fun (i : Nat) =>
                                                                  AV.y IntKind.u64 (b1 i)) =
                                                                false →
                                                              False)) ∧
                                                        ((yCol (CK.int IntKind.u64) m fun (i : Nat) =>
                                                              AV.y IntKind.u64 (b0 i)) =
                                                            false →
                                                          False)) ∧
                                                    (yNle (yNadd 0 m) m = false → False)) ∧
                                                ((yCol (CK.int IntKind.u64) n fun (i : Nat) =>
                                                      AV.y IntKind.u64 (a1 i)) =
                                                    false →
                                                  False)) ∧
                                            ((yCol (CK.int IntKind.u64) n fun (i : Nat) => AV.y IntKind.u64 (a0 i)) =
                                                false →
                                              False)) ∧
                                        (yNle (yNadd 0 n) n = false → False)) ∧
                                    (yNle n 1000000 = false → False)) ∧
                                ((yCol (CK.int IntKind.u64) m fun (i : Nat) => AV.y IntKind.u64 (b1 i)) = false →
                                  False)) ∧
                            ((yCol (CK.int IntKind.u64) m fun (i : Nat) => AV.y IntKind.u64 (b0 i)) = false → False)) ∧
                        (yNle (yNadd 0 m) m = false → False)) ∧
                    ((yCol (CK.int IntKind.u64) n fun (i : Nat) => AV.y IntKind.u64 (a1 i)) = false → False)) ∧
                ((yCol (CK.int IntKind.u64) n fun (i : Nat) => AV.y IntKind.u64 (a0 i)) = false → False)) ∧
            (yNle (yNadd 0 n) n = false → False)))) := by kernel_rfl
theorem sameRes_self {k v : Int} {n : Nat} {a0 a1 : Nat → Int} : sameRes k v n a0 a1 k v n a0 a1 = true := by simp [sameRes, samePairs]
set_option maxRecDepth 100000 in
theorem goalModelSame_ok : goalModelSame := by
  refine kernel_go goalModelSame_eq ?_
  intro k v nilA n a0 a1 k2 v2 nilB m b0 b1
  simp only [yNot_t, yNot_f, yEq_t, yEq_f, yAnd_t, yAnd_f, yOr_t, yOr_f, yIff_t, yIff_f, yLt_t, yLt_f, yLe_t, yLe_f, yIn_t, yIn_f, yNlt_t, yNlt_f, yNle_t, yNle_f, yNeq_t, yNeq_f, yGrow_t, yGrow_f, yInt_e, yNat_e, yNadd_e, yNsub_e, yAdd_e, ySub_e, yMul_e, yCol_int, yCol_bool, true_and, and_true, Nat.zero_add, Nat.add_zero, Nat.le_refl, forall_const, true_implies, Bool.true_eq_false, Bool.false_eq_true, false_implies, sameRes_self, ne_eq, not_true_eq_false, implies_true]
  omega
end Go.Proofs.Ytofhaechpllaoaa.Ex
