/- The texts CPairs, CEqual, CSame, CGn, CHc, CHcOk, CHx, CBk, CEf, CEs, CSo, CRo, CRk, CWs, CFu, CFm, CPr, CSeek, CPut, CDrop, IsD: Contract: gleaningref21.Pairs tells whether two lists of pairs are the same. Contract: slices.Equal of two lists of pairs tells whether they are the same. Contracts: gleaningref21.Same and model.Same .. -/
import Derived.Test.YtknfdbilpfblnaaProg
import Derived.Test.YtknfdbilpfblnaaU4
set_option linter.all false
set_option maxRecDepth 100000
section
noncomputable section
namespace Go.Proofs.Ytknfdbilpfblnaa.Ex
open Go
def samePairs (n m : Nat) (a0 a1 b0 b1 : Nat -> Int) : Bool := decide (n = m /\ ∀ i, i < n -> a0 i = b0 i /\ a1 i = b1 i)
def samePre (n : Nat) (a0 a1 b0 b1 : Nat -> Int) (i : Nat) : Prop := i <= n /\ ∀ k, k < i -> a0 k = b0 k /\ a1 k = b1 k
def msTo (n i : Nat) : Nat := n - i
abbrev cPair : Cs := some (113, [.int .u64, .int .u64])
def annPairs (n : Nat) (a0 a1 b0 b1 : Nat -> Int) (b : Nat) : Option (St -> LoopA) :=
 match b with
 | 0 => some λ _ => { ι := Nat, tms := [5], tmU := λ i => [.y .i64 (yInt i)], ids := [], hpU := λ _ => [], del := [], ex := 0, pre := samePre n a0 a1 b0 b1, ms := msTo n }
 | _ => none
abbrev dPairs (nilA : Bool) (n : Nat) (a0 a1 : Nat -> Int) (nilB : Bool) (m : Nat) (b0 b1 : Nat -> Int) : List Da :=
 [.cell (.rows nilA n [.int .u64 a0, .int .u64 a1]), .cell (.rows nilB m [.int .u64 b0, .int .u64 b1])]
abbrev gPairs : List Ag := [.cell cPair, .cell cPair]
def fPairs (ds : List Da) : Option (Bool × AV) :=
 match ds with
 | [.cell (.rows _ n [.int .u64 a0, .int .u64 a1]), .cell (.rows _ m [.int .u64 b0, .int .u64 b1])] => some (yNle n 1000000, .yb (samePairs n m a0 a1 b0 b1))
 | _ => none
def goalPairs : Prop := ∀ (nilA : Bool) (n : Nat) (a0 a1 : Nat -> Int) (nilB : Bool) (m : Nat) (b0 b1 : Nat -> Int), yNle n 1000000 = true →
 wxF Try.prog noSm (annPairs n a0 a1 b0 b1) 1000 44 (canA gPairs (dPairs nilA n a0 a1 nilB m b0 b1) []).1 (heapOf (canA gPairs (dPairs nilA n a0 a1 nilB m b0 b1) []).2) (λ v _ => cmpC (.yb (samePairs n m a0 a1 b0 b1)) v)
theorem goalPairs_eq : goalPairs = (∀ (nilA : Bool) (n : Nat) (a0 a1 : Nat -> Int) (nilB : Bool) (m : Nat) (b0 b1 : Nat -> Int), yNle n 1000000 = true -> (yNot (yEq (yInt n) (yInt m)) = true -> samePairs n m a0 a1 b0 b1 = false) /\ (yNot (yEq (yInt n) (yInt m)) = false -> true = true /\ (∃ (i0 : Nat), samePre n a0 a1 b0 b1 i0 /\ true = true /\ yInt i0 = 0 /\ true = true) /\ ∀ (g : Nat -> AV) (i : Nat), samePre n a0 a1 b0 b1 i -> (yLt (yInt i) (yInt n) = true -> (yIn (yInt i) n = true -> (yNlt (yNadd 0 (yNat (yInt i))) n = true -> (yIn (yInt i) m = true -> (yNlt (yNadd 0 (yNat (yInt i))) m = true -> (yNot (yAnd (yEq (a0 (yNadd 0 (yNat (yInt i)))) (b0 (yNadd 0 (yNat (yInt i))))) (yAnd (yEq (a1 (yNadd 0 (yNat (yInt i)))) (b1 (yNadd 0 (yNat (yInt i))))) true)) = true -> samePairs n m a0 a1 b0 b1 = false) /\ (yNot (yAnd (yEq (a0 (yNadd 0 (yNat (yInt i)))) (b0 (yNadd 0 (yNat (yInt i))))) (yAnd (yEq (a1 (yNadd 0 (yNat (yInt i)))) (b1 (yNadd 0 (yNat (yInt i))))) true)) = false -> true = true /\ ∃ (i' : Nat), samePre n a0 a1 b0 b1 i' /\ Nat.succ (msTo n i') <= msTo n i /\ true = true /\ yInt i' = yWrap .i64 (yAdd (yInt i) 1) /\ true = true)) /\ (yNlt (yNadd 0 (yNat (yInt i))) m = false -> False)) /\ (yIn (yInt i) m = false -> False)) /\ (yNlt (yNadd 0 (yNat (yInt i))) n = false -> False)) /\ (yIn (yInt i) n = false -> False)) /\ (yLt (yInt i) (yInt n) = false -> samePairs n m a0 a1 b0 b1 = true))) := by kernel_rfl
theorem goalPairs_ok : goalPairs := by
 refine kernel_go goalPairs_eq ?_
 intro nilA n a0 a1 nilB m b0 b1 hn
 simp only [yNot_t, yNot_f, yEq_t, yEq_f, yAnd_t, yAnd_f, yLt_t, yLt_f, yIn_t, yIn_f, yNlt_t, yNlt_f, yNle_t, yInt_e, yNat_e, yNadd_e, yAdd_e, true_and, and_true, Nat.zero_add] at hn ⊢
 refine ⟨λ h => ?_, λ h => ⟨⟨0, ⟨Nat.zero_le _, λ k hk => by omega⟩, rfl⟩, λ g i hi => ⟨λ hlt => ⟨λ _ => ⟨λ _ => ⟨λ _ => ⟨λ _ => ⟨λ h2 => ?_, λ h2 => ?_⟩, λ h2 => ?_⟩, λ h2 => ?_⟩, λ h2 => ?_⟩, λ h2 => ?_⟩, λ hge => ?_⟩⟩⟩
 . unfold samePairs; rw [decide_eq_false_iff_not]; intro hc; exact h (by rw [hc.1])
 . unfold samePairs; rw [decide_eq_false_iff_not]; intro hc
   have := hc.2 i (by omega)
   rcases h2 with h2 | h2 | h2
   . exact h2 this.1
   . exact h2 this.2
   . cases h2
 . refine ⟨i + 1, ⟨by omega, λ k hk => ?_⟩, ?_, ?_⟩
   . by_cases e : k = i
     . subst e; exact ⟨h2.1, h2.2⟩
     . exact hi.2 k (by omega)
   . unfold msTo; omega
   . rw [wrap64 (by omega) (by omega)]; rfl
 . omega
 . omega
 . omega
 . omega
 . unfold samePairs; rw [decide_eq_true_eq]
   have : i = n := by have := hi.1; omega
   subst this
   exact ⟨by omega, hi.2⟩
theorem smPairs (hm : Try.prog.follows .mixedOrders = true) : SmCall Try.prog 44 (λ args h => (ctS gPairs fPairs args h).sel) :=
 ctS_ok hm noSm_ok (by decide) (λ ds a h => by
  unfold fPairs at h
  split at h
  . simp only [sI, Prod.mk.injEq] at h
    obtain ⟨h1, rfl⟩ := h
    rename_i nA n a0 a1 nB m b0 b1
    have h2 := goalPairs_ok
    unfold goalPairs at h2
    exact ⟨annPairs n a0 a1 b0 b1, 1000, h2 nA n a0 a1 nB m b0 b1 h1⟩
  . cases h)
def annEqual (n : Nat) (a0 a1 b0 b1 : Nat -> Int) (b : Nat) : Option (St -> LoopA) :=
 match b with
 | 0 => some λ _ => { ι := Nat, tms := [13], tmU := λ i => [.y .i64 (yInt i)], ids := [], hpU := λ _ => [], del := [], ex := 0, pre := samePre n a0 a1 b0 b1, ms := msTo n }
 | _ => none
def goalEqual : Prop := ∀ (nilA : Bool) (n : Nat) (a0 a1 : Nat -> Int) (nilB : Bool) (m : Nat) (b0 b1 : Nat -> Int), yNle n 1000000 = true →
 wxF Try.prog noSm (annEqual n a0 a1 b0 b1) 1000 82 (canA gPairs (dPairs nilA n a0 a1 nilB m b0 b1) []).1 (heapOf (canA gPairs (dPairs nilA n a0 a1 nilB m b0 b1) []).2) (λ v _ => cmpC (.yb (samePairs n m a0 a1 b0 b1)) v)
theorem goalEqual_eq : goalEqual = (∀ (nilA : Bool) (n : Nat) (a0 a1 : Nat -> Int) (nilB : Bool) (m : Nat) (b0 b1 : Nat -> Int), yNle n 1000000 = true -> (yNot (yEq (yInt n) (yInt m)) = true -> samePairs n m a0 a1 b0 b1 = false) /\ (yNot (yEq (yInt n) (yInt m)) = false -> true = true /\ (∃ (i0 : Nat), samePre n a0 a1 b0 b1 i0 /\ true = true /\ yInt i0 = 0 /\ true = true) /\ ∀ (g : Nat -> AV) (i : Nat), samePre n a0 a1 b0 b1 i -> (yLt (yInt i) (yInt n) = true -> (yIn (yInt i) n = true -> (yNlt (yNadd 0 (yNat (yInt i))) n = true -> (yIn (yInt i) m = true -> (yNlt (yNadd 0 (yNat (yInt i))) m = true -> (yNot (yAnd (yEq (a0 (yNadd 0 (yNat (yInt i)))) (b0 (yNadd 0 (yNat (yInt i))))) (yAnd (yEq (a1 (yNadd 0 (yNat (yInt i)))) (b1 (yNadd 0 (yNat (yInt i))))) true)) = true -> samePairs n m a0 a1 b0 b1 = false) /\ (yNot (yAnd (yEq (a0 (yNadd 0 (yNat (yInt i)))) (b0 (yNadd 0 (yNat (yInt i))))) (yAnd (yEq (a1 (yNadd 0 (yNat (yInt i)))) (b1 (yNadd 0 (yNat (yInt i))))) true)) = false -> true = true /\ ∃ (i' : Nat), samePre n a0 a1 b0 b1 i' /\ Nat.succ (msTo n i') <= msTo n i /\ true = true /\ yInt i' = yWrap .i64 (yAdd (yInt i) 1) /\ true = true)) /\ (yNlt (yNadd 0 (yNat (yInt i))) m = false -> False)) /\ (yIn (yInt i) m = false -> False)) /\ (yNlt (yNadd 0 (yNat (yInt i))) n = false -> False)) /\ (yIn (yInt i) n = false -> False)) /\ (yLt (yInt i) (yInt n) = false -> samePairs n m a0 a1 b0 b1 = true))) := by kernel_rfl
theorem goalEqual_ok : goalEqual := by
 refine kernel_go goalEqual_eq ?_
 intro nilA n a0 a1 nilB m b0 b1 hn
 simp only [yNot_t, yNot_f, yEq_t, yEq_f, yAnd_t, yAnd_f, yLt_t, yLt_f, yIn_t, yIn_f, yNlt_t, yNlt_f, yNle_t, yInt_e, yNat_e, yNadd_e, yAdd_e, true_and, and_true, Nat.zero_add] at hn ⊢
 refine ⟨λ h => ?_, λ h => ⟨⟨0, ⟨Nat.zero_le _, λ k hk => by omega⟩, rfl⟩, λ g i hi => ⟨λ hlt => ⟨λ _ => ⟨λ _ => ⟨λ _ => ⟨λ _ => ⟨λ h2 => ?_, λ h2 => ?_⟩, λ h2 => ?_⟩, λ h2 => ?_⟩, λ h2 => ?_⟩, λ h2 => ?_⟩, λ hge => ?_⟩⟩⟩
 . unfold samePairs; rw [decide_eq_false_iff_not]; intro hc; exact h (by rw [hc.1])
 . unfold samePairs; rw [decide_eq_false_iff_not]; intro hc
   have := hc.2 i (by omega)
   rcases h2 with h2 | h2 | h2
   . exact h2 this.1
   . exact h2 this.2
   . cases h2
 . refine ⟨i + 1, ⟨by omega, λ k hk => ?_⟩, ?_, ?_⟩
   . by_cases e : k = i
     . subst e; exact ⟨h2.1, h2.2⟩
     . exact hi.2 k (by omega)
   . unfold msTo; omega
   . rw [wrap64 (by omega) (by omega)]; rfl
 . omega
 . omega
 . omega
 . omega
 . unfold samePairs; rw [decide_eq_true_eq]
   have : i = n := by have := hi.1; omega
   subst this
   exact ⟨by omega, hi.2⟩
theorem smEqual (hm : Try.prog.follows .mixedOrders = true) : SmCall Try.prog 82 (λ args h => (ctS gPairs fPairs args h).sel) :=
 ctS_ok hm noSm_ok (by decide) (λ ds a h => by
  unfold fPairs at h
  split at h
  . simp only [sI, Prod.mk.injEq] at h
    obtain ⟨h1, rfl⟩ := h
    rename_i nA n a0 a1 nB m b0 b1
    have h2 := goalEqual_ok
    unfold goalEqual at h2
    exact ⟨annEqual n a0 a1 b0 b1, 1000, h2 nA n a0 a1 nB m b0 b1 h1⟩
  . cases h)
def sm1 (f : FuncId) : Option Sm :=
 bif Nat.beq f 44 then some (.ct (ctS gPairs fPairs)) else bif Nat.beq f 82 then some (.ct (ctS gPairs fPairs)) else none
theorem sm1_ok (hm : Try.prog.follows .mixedOrders = true) : SmOK Try.prog sm1 := λ f => by
 have key : ∀ s, sm1 f = some s -> s = .ct (ctS gPairs fPairs) /\ SmCall Try.prog f (λ args h => (ctS gPairs fPairs args h).sel) := λ s e => by
  unfold sm1 at e
  simp only [nbeq, Bool.cond_decide] at e
  split at e
  . rename_i hf; subst hf; simp only [sI] at e; exact ⟨e.symm, smPairs hm⟩
  . split at e
    . rename_i hf; subst hf; simp only [sI] at e; exact ⟨e.symm, smEqual hm⟩
    . cases e
 refine ⟨λ g e => ?_, λ g e => ?_, λ g e => ?_⟩
 . have := (key _ e).1; cases this
 . have := (key _ e).1; cases this
 . obtain ⟨h1, h2⟩ := key _ e
   simp only [Sm.ct.injEq] at h1; subst h1; exact h2
def sameRes (k v : Int) (n : Nat) (a0 a1 : Nat -> Int) (k2 v2 : Int) (m : Nat) (b0 b1 : Nat -> Int) : Bool := decide (k = k2) && decide (v = v2) && samePairs n m a0 a1 b0 b1
abbrev gResult : List Ag := [.agg [none, none, cPair], .agg [none, none, cPair]]
def fSame (ds : List Da) : Option (Bool × AV) :=
 match ds with
 | [.agg [.v (.y .i64 k), .v (.y .u64 v), .rows _ n [.int .u64 a0, .int .u64 a1]], .agg [.v (.y .i64 k2), .v (.y .u64 v2), .rows _ m [.int .u64 b0, .int .u64 b1]]] => some (yNle n 1000000, .yb (sameRes k v n a0 a1 k2 v2 m b0 b1))
 | _ => none
def goalSame (f : FuncId) : Prop := ∀ (k v : Int) (nilA : Bool) (n : Nat) (a0 a1 : Nat -> Int) (k2 v2 : Int) (nilB : Bool) (m : Nat) (b0 b1 : Nat -> Int), yNle n 1000000 = true →
 wxF Try.prog sm1 (λ _ => none) 1000 f (canA gResult [.agg [.v (.y .i64 k), .v (.y .u64 v), .rows nilA n [.int .u64 a0, .int .u64 a1]], .agg [.v (.y .i64 k2), .v (.y .u64 v2), .rows nilB m [.int .u64 b0, .int .u64 b1]]] []).1
  (heapOf (canA gResult [.agg [.v (.y .i64 k), .v (.y .u64 v), .rows nilA n [.int .u64 a0, .int .u64 a1]], .agg [.v (.y .i64 k2), .v (.y .u64 v2), .rows nilB m [.int .u64 b0, .int .u64 b1]]] []).2) (λ r _ => cmpC (.yb (sameRes k v n a0 a1 k2 v2 m b0 b1)) r)
def goalSameRef : Prop := goalSame 25
def goalSameMod : Prop := goalSame 64
theorem goalSameRef_eq : goalSameRef = (∀ (k v : Int) (nilA : Bool) (n : Nat) (a0 a1 : Nat -> Int) (k2 v2 : Int) (nilB : Bool) (m : Nat) (b0 b1 : Nat -> Int),
 yNle n 1000000 = true →
  (yEq k k2 = true →
    (yEq v v2 = true →
      (yNle (yNadd 0 n) n = true →
        ((yCol (CK.int .u64) n λ (i : Nat) => AV.y .u64 (a0 i)) = true →
           ((yCol (CK.int .u64) n λ (i : Nat) => AV.y .u64 (a1 i)) = true →
              (yNle (yNadd 0 m) m = true →
                ((yCol (CK.int .u64) m λ (i : Nat) => AV.y .u64 (b0 i)) = true →
                   ((yCol (CK.int .u64) m λ (i : Nat) => AV.y .u64 (b1 i)) = true →
                      (yNle n 1000000 = true →
                        sameRes k v n a0 a1 k2 v2 m b0 b1 =
                         samePairs n m (λ (i : Nat) => a0 i) (λ (i : Nat) => a1 i)
                          (λ (i : Nat) => b0 i) λ (i : Nat) => b1 i) ∧
                        (yNle n 1000000 = false -> False)) ∧
                     ((yCol (CK.int .u64) m λ (i : Nat) => AV.y .u64 (b1 i)) = false →
                       False)) ∧
                  ((yCol (CK.int .u64) m λ (i : Nat) => AV.y .u64 (b0 i)) = false →
                    False)) ∧
                (yNle (yNadd 0 m) m = false -> False)) ∧
             ((yCol (CK.int .u64) n λ (i : Nat) => AV.y .u64 (a1 i)) = false -> False)) ∧
          ((yCol (CK.int .u64) n λ (i : Nat) => AV.y .u64 (a0 i)) = false -> False)) ∧
        (yNle (yNadd 0 n) n = false -> False)) ∧
      (yEq v v2 = false -> sameRes k v n a0 a1 k2 v2 m b0 b1 = false)) ∧
    (yEq k k2 = false -> sameRes k v n a0 a1 k2 v2 m b0 b1 = false)) := by kernel_rfl
theorem goalSameMod_eq : goalSameMod = (∀ (k v : Int) (nilA : Bool) (n : Nat) (a0 a1 : Nat -> Int) (k2 v2 : Int) (nilB : Bool) (m : Nat) (b0 b1 : Nat -> Int),
 yNle n 1000000 = true →
  (yEq k k2 = true →
    (yEq v v2 = true →
      (yNle (yNadd 0 n) n = true →
        ((yCol (CK.int .u64) n λ (i : Nat) => AV.y .u64 (a0 i)) = true →
           ((yCol (CK.int .u64) n λ (i : Nat) => AV.y .u64 (a1 i)) = true →
              (yNle (yNadd 0 m) m = true →
                ((yCol (CK.int .u64) m λ (i : Nat) => AV.y .u64 (b0 i)) = true →
                   ((yCol (CK.int .u64) m λ (i : Nat) => AV.y .u64 (b1 i)) = true →
                      (yNle n 1000000 = true →
                        sameRes k v n a0 a1 k2 v2 m b0 b1 =
                         samePairs n m (λ (i : Nat) => a0 i) (λ (i : Nat) => a1 i)
                          (λ (i : Nat) => b0 i) λ (i : Nat) => b1 i) ∧
                        (yNle n 1000000 = false -> False)) ∧
                     ((yCol (CK.int .u64) m λ (i : Nat) => AV.y .u64 (b1 i)) = false →
                       False)) ∧
                  ((yCol (CK.int .u64) m λ (i : Nat) => AV.y .u64 (b0 i)) = false →
                    False)) ∧
                (yNle (yNadd 0 m) m = false -> False)) ∧
             ((yCol (CK.int .u64) n λ (i : Nat) => AV.y .u64 (a1 i)) = false -> False)) ∧
          ((yCol (CK.int .u64) n λ (i : Nat) => AV.y .u64 (a0 i)) = false -> False)) ∧
        (yNle (yNadd 0 n) n = false -> False)) ∧
      (yEq v v2 = false -> sameRes k v n a0 a1 k2 v2 m b0 b1 = false)) ∧
    (yEq k k2 = false -> sameRes k v n a0 a1 k2 v2 m b0 b1 = false)) := by kernel_rfl
theorem sameRes_ok {f : FuncId} (he : goalSame f = (∀ (k v : Int) (nilA : Bool) (n : Nat) (a0 a1 : Nat -> Int) (k2 v2 : Int) (nilB : Bool) (m : Nat) (b0 b1 : Nat -> Int),
 yNle n 1000000 = true →
  (yEq k k2 = true →
    (yEq v v2 = true →
      (yNle (yNadd 0 n) n = true →
        ((yCol (CK.int .u64) n λ (i : Nat) => AV.y .u64 (a0 i)) = true →
           ((yCol (CK.int .u64) n λ (i : Nat) => AV.y .u64 (a1 i)) = true →
              (yNle (yNadd 0 m) m = true →
                ((yCol (CK.int .u64) m λ (i : Nat) => AV.y .u64 (b0 i)) = true →
                   ((yCol (CK.int .u64) m λ (i : Nat) => AV.y .u64 (b1 i)) = true →
                      (yNle n 1000000 = true →
                        sameRes k v n a0 a1 k2 v2 m b0 b1 =
                         samePairs n m (λ (i : Nat) => a0 i) (λ (i : Nat) => a1 i)
                          (λ (i : Nat) => b0 i) λ (i : Nat) => b1 i) ∧
                        (yNle n 1000000 = false -> False)) ∧
                     ((yCol (CK.int .u64) m λ (i : Nat) => AV.y .u64 (b1 i)) = false →
                       False)) ∧
                  ((yCol (CK.int .u64) m λ (i : Nat) => AV.y .u64 (b0 i)) = false →
                    False)) ∧
                (yNle (yNadd 0 m) m = false -> False)) ∧
             ((yCol (CK.int .u64) n λ (i : Nat) => AV.y .u64 (a1 i)) = false -> False)) ∧
          ((yCol (CK.int .u64) n λ (i : Nat) => AV.y .u64 (a0 i)) = false -> False)) ∧
        (yNle (yNadd 0 n) n = false -> False)) ∧
      (yEq v v2 = false -> sameRes k v n a0 a1 k2 v2 m b0 b1 = false)) ∧
    (yEq k k2 = false -> sameRes k v n a0 a1 k2 v2 m b0 b1 = false))) : goalSame f := by
 refine kernel_go he ?_
 intro k v nilA n a0 a1 k2 v2 nilB m b0 b1 hn
 simp only [vS, forall_const] at hn ⊢
 unfold sameRes
 refine ⟨λ h => ⟨λ h2 => ?_, λ h2 => by simp [h2]⟩, λ h => by simp [h]⟩
 simp [h, h2, hn]
theorem goalSameRef_ok : goalSame 25 := @sameRes_ok _ goalSameRef_eq
theorem goalSameMod_ok : goalSame 64 := @sameRes_ok _ goalSameMod_eq
theorem smSame (hm : Try.prog.follows .mixedOrders = true) {f : FuncId} (hf : goalSame f) : SmCall Try.prog f (λ args h => (ctS gResult fSame args h).sel) :=
 ctS_ok hm (sm1_ok hm) (by decide) (λ ds a h => by
  unfold fSame at h
  split at h
  . rename_i k v nA n a0 a1 k2 v2 nB m b0 b1
    simp only [sI, Prod.mk.injEq] at h
    obtain ⟨h1, rfl⟩ := h
    have h2 := hf
    unfold goalSame at h2
    exact ⟨λ _ => none, 1000, h2 k v nA n a0 a1 k2 v2 nB m b0 b1 h1⟩
  . cases h)
structure EvS where
 kd : Nat -> Int
 th : Nat -> Int
 id : Nat -> Int
 at_ : Nat -> Int
 ok : Nat -> Int
 key : Nat -> Int
 val : Nat -> Int
 hi : Nat -> Int
 most : Nat -> Int
 rk : Nat -> Int
 rv : Nat -> Int
 nil : Nat -> Bool
 pn : Nat -> Nat
 pk : Nat -> Nat -> Int
 pv : Nat -> Nat -> Int
instance : Inhabited EvS := ⟨⟨λ _ => 0, λ _ => 0, λ _ => 0, λ _ => 0, λ _ => 0, λ _ => 0, λ _ => 0, λ _ => 0, λ _ => 0, λ _ => 0, λ _ => 0, λ _ => true, λ _ => 0, λ _ _ => 0, λ _ _ => 0⟩⟩
def eKd (E : EvS) (i : Nat) : Int := E.kd i
def eTh (E : EvS) (i : Nat) : Int := E.th i
def eId (E : EvS) (i : Nat) : Int := E.id i
def eAt (E : EvS) (i : Nat) : Int := E.at_ i
def eOk (E : EvS) (i : Nat) : Int := E.ok i
def eKey (E : EvS) (i : Nat) : Int := E.key i
def eVal (E : EvS) (i : Nat) : Int := E.val i
def eHi (E : EvS) (i : Nat) : Int := E.hi i
def eMost (E : EvS) (i : Nat) : Int := E.most i
def eRk (E : EvS) (i : Nat) : Int := E.rk i
def eRv (E : EvS) (i : Nat) : Int := E.rv i
def eNil (E : EvS) (i : Nat) : Bool := E.nil i
def ePn (E : EvS) (i : Nat) : Nat := E.pn i
def ePk (E : EvS) (i j : Nat) : Int := E.pk i j
def ePv (E : EvS) (i j : Nat) : Int := E.pv i j
abbrev kEv : List CK := [.int .i64, .int .i64, .int .i64, .int .i64, .int .i64, .int .u64, .int .u64, .int .u64, .int .i64, .int .i64, .int .u64, .ls [.int .u64, .int .u64]]
abbrev colsE (E : EvS) : List Col := [.int .i64 (eKd E), .int .i64 (eTh E), .int .i64 (eId E), .int .i64 (eAt E), .int .i64 (eOk E), .int .u64 (eKey E), .int .u64 (eVal E), .int .u64 (eHi E), .int .i64 (eMost E), .int .i64 (eRk E), .int .u64 (eRv E), .ls (eNil E) (ePn E) [.int .u64 (ePk E), .int .u64 (ePv E)]]
def rightE (k most : Int) : Bool := bif yEq k 4 then yAnd (yLe 1 most) (yLe most 1000) else yAnd (yLe 1 k) (yLe k 3)
structure GS where
 ok : Bool
 n : Nat
 at_ : Int
 p : Int -> Bool
 v : Int -> Int
 ev : Nat -> Nat
 en : Nat -> Nat
def zeroR (E : EvS) (i : Nat) : Bool := sameRes (eRk E i) (eRv E i) (ePn E i) (ePk E i) (ePv E i) 0 0 0 (λ _ => 0) (λ _ => 0)
def sameOp (E : EvS) (a b : Nat) : Bool := yAnd (yEq (eOk E a) (eOk E b)) (yAnd (yEq (eKey E a) (eKey E b)) (yAnd (yEq (eVal E a) (eVal E b)) (yAnd (yEq (eHi E a) (eHi E b)) (yEq (eMost E a) (eMost E b)))))
def gs1 (E : EvS) (i : Nat) (g : GS) : GS :=
 if eAt E i < g.at_ ∨ eTh E i < 0 then { g with ok := false }
 else if eKd E i = 1 then
  (if g.p (eTh E i) = true ∨ eId E i ≠ g.n + 1 ∨ rightE (eOk E i) (eMost E i) = false ∨ zeroR E i = false then { g with ok := false }
   else { ok := true, n := g.n + 1, at_ := eAt E i, p := λ x => yOr (yEq x (eTh E i)) (g.p x), v := λ x => ySel (yEq x (eTh E i)) g.n (g.v x), ev := λ j => if j = g.n then i else g.ev j, en := λ j => if j = g.n then 0 else g.en j })
 else if eKd E i = 2 then
  (if g.p (eTh E i) = false ∨ eId E (g.ev (g.v (eTh E i)).toNat) ≠ eId E i ∨ sameOp E (g.ev (g.v (eTh E i)).toNat) i = false then { g with ok := false }
   else { g with at_ := eAt E i, p := λ x => yAnd (yNot (yEq x (eTh E i))) (g.p x), en := λ j => if j = (g.v (eTh E i)).toNat then i + 1 else g.en j })
 else { g with ok := false }
def gS (E : EvS) : Nat -> GS
 | 0 => ⟨true, 0, 0, λ _ => false, λ _ => 0, λ _ => 0, λ _ => 0⟩
 | i + 1 => bif (gS E i).ok then gs1 E i (gS E i) else gS E i
def gOk (E : EvS) (i : Nat) : Bool := (gS E i).ok
def gN (E : EvS) (i : Nat) : Nat := (gS E i).n
def gAt (E : EvS) (i : Nat) : Int := (gS E i).at_
def gP (E : EvS) (i : Nat) (x : Int) : Bool := (gS E i).p x
def gV (E : EvS) (i : Nat) (x : Int) : Int := (gS E i).v x
def gEv (E : EvS) (i j : Nat) : Nat := (gS E i).ev j
def gEn (E : EvS) (i j : Nat) : Nat := (gS E i).en j
def cTo (E : EvS) (e : Nat) : Int := match e with | 0 => -1 | e + 1 => eAt E e
def cOv (e : Nat) : Bool := match e with | 0 => false | _ + 1 => true
def cRk (E : EvS) (e : Nat) : Int := match e with | 0 => 0 | e + 1 => eRk E e
def cRv (E : EvS) (e : Nat) : Int := match e with | 0 => 0 | e + 1 => eRv E e
def cNil (E : EvS) (e : Nat) : Bool := match e with | 0 => true | e + 1 => eNil E e
def cPn (E : EvS) (e : Nat) : Nat := match e with | 0 => 0 | e + 1 => ePn E e
def cPk (E : EvS) (e p : Nat) : Int := match e with | 0 => 0 | e + 1 => ePk E e p
def cPv (E : EvS) (e p : Nat) : Int := match e with | 0 => 0 | e + 1 => ePv E e p
abbrev kCl : List CK := [.int .i64, .int .i64, .int .i64, .int .u64, .int .u64, .int .u64, .int .i64, .int .i64, .int .i64, .bool, .int .i64, .int .u64, .ls [.int .u64, .int .u64]]
abbrev colsG (E : EvS) (i : Nat) : List Col := [.int .i64 (λ j => eId E (gEv E i j)), .int .i64 (λ j => eTh E (gEv E i j)), .int .i64 (λ j => eOk E (gEv E i j)), .int .u64 (λ j => eKey E (gEv E i j)), .int .u64 (λ j => eVal E (gEv E i j)), .int .u64 (λ j => eHi E (gEv E i j)), .int .i64 (λ j => eMost E (gEv E i j)), .int .i64 (λ j => eAt E (gEv E i j)), .int .i64 (λ j => cTo E (gEn E i j)), .bool (λ j => cOv (gEn E i j)), .int .i64 (λ j => cRk E (gEn E i j)), .int .u64 (λ j => cRv E (gEn E i j)), .ls (λ j => cNil E (gEn E i j)) (λ j => cPn E (gEn E i j)) [.int .u64 (λ j => cPk E (gEn E i j)), .int .u64 (λ j => cPv E (gEn E i j))]]
def prGn (E : EvS) (n i : Nat) : Prop := i <= n /\ gOk E i = true
def mGn (n i : Nat) : Nat := n - i
abbrev slG (id k : Nat) : AV := .ysl false (yNeq k 0) id 13 0 k
def annGn (E : EvS) (n : Nat) (b : Nat) : Option (St -> LoopA) :=
 match b with
 | 0 => some λ _ => { ι := Nat, tms := [4, 6, 14], tmU := λ i => [slG 1 (gN E i), .y .i64 (gAt E i), .y .i64 (yInt i)], ids := [0, 1], hpU := λ i => [.mapy .i64 .i64 (gP E i) (gV E i), .arr false 62 13 (gN E i) (colF (colsG E i))], del := [], ex := 1, pre := prGn E n, ms := mGn n }
 | _ => none
def preE (E : EvS) (n : Nat) : Bool := decide (n <= 200 /\ ∀ i, i < n -> ePn E i <= 50)
def resN (E : EvS) (n : Nat) : Nat := bif gOk E n then gN E n else 0
abbrev sEv : Sx := .pl kEv
abbrev rGn : Sx := .tup [.own 62 kCl, .sc]
abbrev dGn (E : EvS) (n : Nat) : Dx := .l [.rows (yNeq (resN E n) 0) (resN E n) (colsG E n), .v (.yb (gOk E n))]
def fRgE (ds : List Da) : Option (Bool × AV) :=
 match ds with
 | [.agg [.v (.y .i64 k), .v (.y .u64 _), .v (.y .u64 _), .v (.y .u64 _), .v (.y .i64 most)]] => some (true, .yb (rightE k most))
 | _ => none
abbrev gOp : List Ag := [.agg [none, none, none, none, none]]
def goalRgE : Prop := ∀ (k key val hi most : Int), wxF Try.prog noSm (λ _ => none) 1000 52 (canA gOp [.agg [.v (.y .i64 k), .v (.y .u64 key), .v (.y .u64 val), .v (.y .u64 hi), .v (.y .i64 most)]] []).1 (heapOf (canA gOp [.agg [.v (.y .i64 k), .v (.y .u64 key), .v (.y .u64 val), .v (.y .u64 hi), .v (.y .i64 most)]] []).2) (λ v _ => cmpC (.yb (rightE k most)) v)
def lGn : List (Nat × Sm) := [(52, .ct (ctS gOp fRgE)), (64, .ct (ctS gResult fSame))]
abbrev wxH (P : Program) (sm : FuncId -> Option Sm) (ann : Nat -> Option (St -> LoopA)) (f : FuncId) (ss : List Sx) (ds : List Dx) (rs : Sx) (r : Dx) (post : List (List Dx)) : Prop :=
 wxF P sm ann 1000 f (canXs nmI ss ds []).1 (heapOf (canXs nmI ss ds []).2)
  (postX (canXs nmI ss ds []).2.length (delX 0 (canXs nmI ss ds []).2 (ptrId ss (canXs nmI ss ds []).1)) (ptrId ss (canXs nmI ss ds []).1) (expR (λ j => (canXs nmI ss ds []).2.length + j) (ptrSh ss ds) rs r post))
def fGn (ds : List Dx) : Option (Bool × Dx × List (List Dx)) :=
 match ds with
 | [.rows _ n [.int .i64 kd, .int .i64 th, .int .i64 id, .int .i64 at_, .int .i64 ok, .int .u64 key, .int .u64 val, .int .u64 hi, .int .i64 most, .int .i64 rk, .int .u64 rv, .ls nil pn [.int .u64 pk, .int .u64 pv]]] =>
   some (preE ⟨kd, th, id, at_, ok, key, val, hi, most, rk, rv, nil, pn, pk, pv⟩ n, dGn ⟨kd, th, id, at_, ok, key, val, hi, most, rk, rv, nil, pn, pk, pv⟩ n, [])
 | _ => none
def goalGn : Prop := ∀ (E : EvS) (nil : Bool) (n : Nat), preE E n = true -> wxH Try.prog (smL lGn) (annGn E n) 33 [sEv] [.rows nil n (colsE E)] rGn (dGn E n) []
theorem goalRgE_eq : goalRgE = (∀ (k key val hi most : Int), (yEq k (4 : Int) = true -> (yLe (1 : Int) most = true -> rightE k most = yLe most (1000 : Int)) /\ (yLe (1 : Int) most = false -> rightE k most = false)) /\ (yEq k (4 : Int) = false -> (yLe (1 : Int) k = true -> rightE k most = yLe k (3 : Int)) /\ (yLe (1 : Int) k = false -> rightE k most = false))) := by kernel_rfl
def goalGn_1 (E : EvS) (i : Nat) := ySel (gP E i (eTh E (yNat (yInt i)))) (gV E i (eTh E (yNat (yInt i)))) 0
def goalGn_0 (E : EvS) (i : Nat) := yNadd 0 (yNat (goalGn_1 E i))
def goalGn_2 (E : EvS) (i : Nat) := yAnd (yEq (eOk E (gEv E i (goalGn_0 E i))) (eOk E (yNat (yInt i)))) (yAnd (yEq (eKey E (gEv E i (goalGn_0 E i))) (eKey E (yNat (yInt i)))) (yAnd (yEq (eVal E (gEv E i (goalGn_0 E i))) (eVal E (yNat (yInt i)))) (yAnd (yEq (eHi E (gEv E i (goalGn_0 E i))) (eHi E (yNat (yInt i)))) (yAnd (yEq (eMost E (gEv E i (goalGn_0 E i))) (eMost E (yNat (yInt i)))) true))))
def goalGn_3 (E : EvS) (i : Nat) := sameRes (eRk E (yNat (yInt i))) (eRv E (yNat (yInt i))) (ePn E (yNat (yInt i))) (λ (i_1 : Nat) => ePk E (yNat (yInt i)) i_1) (λ (i_1 : Nat) => ePv E (yNat (yInt i)) i_1) 0 0 0 (λ (i : Nat) => (0 : Int)) λ (i : Nat) => (0 : Int)
def goalGnV : Prop := (∀ (E : EvS) (nil : Bool) (n : Nat), preE E n = true -> true = true /\ (∃ (i0 : Nat), prGn E n i0 /\ true = true /\ yNeq (gN E i0) (nat_lit 0) = true /\ gN E i0 = nat_lit 0 /\ gAt E i0 = (0 : Int) /\ yInt i0 = (0 : Int) /\ (∀ (x : Int), gP E i0 x = false) /\ gN E i0 = nat_lit 0 /\ true = true /\ true = true) /\ ∀ (g : Nat -> AV) (i : Nat), prGn E n i -> (yLt (yInt i) (yInt n) = true -> mst (yIn (yInt i) n) ((yLt (eAt E (yNat (yInt i))) (gAt E i) = true -> yNeq (resN E n) (nat_lit 0) = true /\ resN E n = nat_lit 0 /\ gOk E n = false /\ resN E n = nat_lit 0 /\ true = true /\ true = true) /\ (yLt (eAt E (yNat (yInt i))) (gAt E i) = false -> (yLt (eTh E (yNat (yInt i))) (0 : Int) = true -> yNeq (resN E n) (nat_lit 0) = true /\ resN E n = nat_lit 0 /\ gOk E n = false /\ resN E n = nat_lit 0 /\ true = true /\ true = true) /\ (yLt (eTh E (yNat (yInt i))) (0 : Int) = false -> (yEq (eKd E (yNat (yInt i))) (1 : Int) = true -> (gP E i (eTh E (yNat (yInt i))) = true -> yNeq (resN E n) (nat_lit 0) = true /\ resN E n = nat_lit 0 /\ gOk E n = false /\ resN E n = nat_lit 0 /\ true = true /\ true = true) /\ (gP E i (eTh E (yNat (yInt i))) = false -> (yNot (yEq (eId E (yNat (yInt i))) (yWrap .i64 (yAdd (yInt (gN E i)) 1))) = true -> yNeq (resN E n) (nat_lit 0) = true /\ resN E n = nat_lit 0 /\ gOk E n = false /\ resN E n = nat_lit 0 /\ true = true /\ true = true) /\ (yNot (yEq (eId E (yNat (yInt i))) (yWrap .i64 (yAdd (yInt (gN E i)) 1))) = false -> mst (true) ((yNot (rightE (eOk E (yNat (yInt i))) (eMost E (yNat (yInt i)))) = true -> yNeq (resN E n) (nat_lit 0) = true /\ resN E n = nat_lit 0 /\ gOk E n = false /\ resN E n = nat_lit 0 /\ true = true /\ true = true) /\ (yNot (rightE (eOk E (yNat (yInt i))) (eMost E (yNat (yInt i)))) = false -> mst (yCol (CK.int .u64) (ePn E (yNat (yInt i))) λ (i_1 : Nat) => AV.y .u64 (ePk E (yNat (yInt i)) i_1)) (mst (yCol (CK.int .u64) (ePn E (yNat (yInt i))) λ (i_1 : Nat) => AV.y .u64 (ePv E (yNat (yInt i)) i_1)) (mst (yNle (ePn E (yNat (yInt i))) 1000000) ((yNot (goalGn_3 E i) = true -> yNeq (resN E n) (nat_lit 0) = true /\ resN E n = nat_lit 0 /\ gOk E n = false /\ resN E n = nat_lit 0 /\ true = true /\ true = true) /\ (yNot (goalGn_3 E i) = false -> mst (yNeq (gN E i) (gN E i)) (mst (yGrow (yNadd (gN E i) 1) 120) (true = true /\ ∃ (i' : Nat), prGn E n i' /\ Nat.succ (mGn n i') <= mGn n i /\ true = true /\ yNeq (gN E i') (nat_lit 0) = yAnd (yNeq (gN E i) 0) (yNeq 1 0) /\ nat_lit 0 = nat_lit 0 /\ gN E i' = yNadd (gN E i) 1 /\ gAt E i' = eAt E (yNat (yInt i)) /\ yInt i' = yWrap .i64 (yAdd (yInt i) 1) /\ (∀ (x : Int), gP E i' x = yOr (yEq x (eTh E (yNat (yInt i)))) (gP E i x) /\ (gP E i' x = true -> gV E i' x = ySel (yEq x (eTh E (yNat (yInt i)))) (yInt (gN E i)) (gV E i x))) /\ gN E i' = yNadd (gN E i) 1 /\ (∀ (i_1 : Nat), Nat.succ i_1 <= gN E i' -> eId E (gEv E i' i_1) = ySel (yNlt i_1 (gN E i)) (eId E (gEv E i i_1)) (eId E (yNat (yInt i))) /\ eTh E (gEv E i' i_1) = ySel (yNlt i_1 (gN E i)) (eTh E (gEv E i i_1)) (eTh E (yNat (yInt i))) /\ eOk E (gEv E i' i_1) = ySel (yNlt i_1 (gN E i)) (eOk E (gEv E i i_1)) (eOk E (yNat (yInt i))) /\ eKey E (gEv E i' i_1) = ySel (yNlt i_1 (gN E i)) (eKey E (gEv E i i_1)) (eKey E (yNat (yInt i))) /\ eVal E (gEv E i' i_1) = ySel (yNlt i_1 (gN E i)) (eVal E (gEv E i i_1)) (eVal E (yNat (yInt i))) /\ eHi E (gEv E i' i_1) = ySel (yNlt i_1 (gN E i)) (eHi E (gEv E i i_1)) (eHi E (yNat (yInt i))) /\ eMost E (gEv E i' i_1) = ySel (yNlt i_1 (gN E i)) (eMost E (gEv E i i_1)) (eMost E (yNat (yInt i))) /\ eAt E (gEv E i' i_1) = ySel (yNlt i_1 (gN E i)) (eAt E (gEv E i i_1)) (eAt E (yNat (yInt i))) /\ cTo E (gEn E i' i_1) = ySel (yNlt i_1 (gN E i)) (cTo E (gEn E i i_1)) (-1 : Int) /\ cOv (gEn E i' i_1) = ySelB (yNlt i_1 (gN E i)) (cOv (gEn E i i_1)) false /\ cRk E (gEn E i' i_1) = ySel (yNlt i_1 (gN E i)) (cRk E (gEn E i i_1)) 0 /\ cRv E (gEn E i' i_1) = ySel (yNlt i_1 (gN E i)) (cRv E (gEn E i i_1)) 0 /\ (cNil E (gEn E i' i_1) = ySelB (yNlt i_1 (gN E i)) (cNil E (gEn E i i_1)) true /\ cPn E (gEn E i' i_1) = ySelN (yNlt i_1 (gN E i)) (cPn E (gEn E i i_1)) 0 /\ ∀ (i_2 : Nat), Nat.succ i_2 <= cPn E (gEn E i' i_1) -> cPk E (gEn E i' i_1) i_2 = cPk E (gEn E i i_1) i_2 /\ cPv E (gEn E i' i_1) i_2 = cPv E (gEn E i i_1) i_2 /\ True) /\ True) /\ true = true))))))))))) /\ (yEq (eKd E (yNat (yInt i))) (1 : Int) = false -> (yEq (eKd E (yNat (yInt i))) (2 : Int) = true -> (gP E i (eTh E (yNat (yInt i))) = true -> mst (yIn (goalGn_1 E i) (gN E i)) (mst (yNlt (goalGn_0 E i) (gN E i)) ((yNot (yEq (eId E (gEv E i (goalGn_0 E i))) (eId E (yNat (yInt i)))) = true -> yNeq (resN E n) (nat_lit 0) = true /\ resN E n = nat_lit 0 /\ gOk E n = false /\ resN E n = nat_lit 0 /\ true = true /\ true = true) /\ (yNot (yEq (eId E (gEv E i (goalGn_0 E i))) (eId E (yNat (yInt i)))) = false -> mst (yIn (goalGn_1 E i) (gN E i)) (mst (yNlt (goalGn_0 E i) (gN E i)) ((yNot (goalGn_2 E i) = true -> yNeq (resN E n) (nat_lit 0) = true /\ resN E n = nat_lit 0 /\ gOk E n = false /\ resN E n = nat_lit 0 /\ true = true /\ true = true) /\ (yNot (goalGn_2 E i) = false -> mst (yIn (goalGn_1 E i) (gN E i)) (mst (yNlt (goalGn_0 E i) (gN E i)) (mst (yIn (goalGn_1 E i) (gN E i)) (mst (yNlt (goalGn_0 E i) (gN E i)) (mst (yIn (goalGn_1 E i) (gN E i)) (mst (yNlt (goalGn_0 E i) (gN E i)) (true = true /\ ∃ (i' : Nat), prGn E n i' /\ Nat.succ (mGn n i') <= mGn n i /\ true = true /\ yNeq (gN E i') (nat_lit 0) = yNeq (gN E i) 0 /\ nat_lit 0 = nat_lit 0 /\ gN E i' = gN E i /\ gAt E i' = eAt E (yNat (yInt i)) /\ yInt i' = yWrap .i64 (yAdd (yInt i) 1) /\ (∀ (x : Int), gP E i' x = yAnd (yNot (yEq x (eTh E (yNat (yInt i))))) (gP E i x) /\ (gP E i' x = true -> gV E i' x = gV E i x)) /\ gN E i' = gN E i /\ (∀ (i_1 : Nat), Nat.succ i_1 <= gN E i' -> eId E (gEv E i' i_1) = eId E (gEv E i i_1) /\ eTh E (gEv E i' i_1) = eTh E (gEv E i i_1) /\ eOk E (gEv E i' i_1) = eOk E (gEv E i i_1) /\ eKey E (gEv E i' i_1) = eKey E (gEv E i i_1) /\ eVal E (gEv E i' i_1) = eVal E (gEv E i i_1) /\ eHi E (gEv E i' i_1) = eHi E (gEv E i i_1) /\ eMost E (gEv E i' i_1) = eMost E (gEv E i i_1) /\ eAt E (gEv E i' i_1) = eAt E (gEv E i i_1) /\ cTo E (gEn E i' i_1) = ySel (yNeq i_1 (goalGn_0 E i)) (eAt E (yNat (yInt i))) (cTo E (gEn E i i_1)) /\ cOv (gEn E i' i_1) = ySelB (yNeq i_1 (goalGn_0 E i)) true (cOv (gEn E i i_1)) /\ cRk E (gEn E i' i_1) = ySel (yNeq i_1 (goalGn_0 E i)) (eRk E (yNat (yInt i))) (cRk E (gEn E i i_1)) /\ cRv E (gEn E i' i_1) = ySel (yNeq i_1 (goalGn_0 E i)) (eRv E (yNat (yInt i))) (cRv E (gEn E i i_1)) /\ (cNil E (gEn E i' i_1) = ySelB (yNeq i_1 (goalGn_0 E i)) (eNil E (yNat (yInt i))) (cNil E (gEn E i i_1)) /\ cPn E (gEn E i' i_1) = ySelN (yNeq i_1 (goalGn_0 E i)) (ePn E (yNat (yInt i))) (cPn E (gEn E i i_1)) /\ ∀ (i_2 : Nat), Nat.succ i_2 <= cPn E (gEn E i' i_1) -> cPk E (gEn E i' i_1) i_2 = ySel (yNeq i_1 (goalGn_0 E i)) (ePk E (yNat (yInt i)) i_2) (cPk E (gEn E i i_1) i_2) /\ cPv E (gEn E i' i_1) i_2 = ySel (yNeq i_1 (goalGn_0 E i)) (ePv E (yNat (yInt i)) i_2) (cPv E (gEn E i i_1) i_2) /\ True) /\ True) /\ true = true))))))))))))) /\ (gP E i (eTh E (yNat (yInt i))) = false -> yNeq (resN E n) (nat_lit 0) = true /\ resN E n = nat_lit 0 /\ gOk E n = false /\ resN E n = nat_lit 0 /\ true = true /\ true = true)) /\ (yEq (eKd E (yNat (yInt i))) (2 : Int) = false -> yNeq (resN E n) (nat_lit 0) = true /\ resN E n = nat_lit 0 /\ gOk E n = false /\ resN E n = nat_lit 0 /\ true = true /\ true = true)))))) /\ (yLt (yInt i) (yInt n) = false -> yNeq (resN E n) (nat_lit 0) = yNeq (gN E i) 0 /\ nat_lit 0 = nat_lit 0 /\ resN E n = gN E i /\ gOk E n = true /\ resN E n = gN E i /\ (∀ (i_1 : Nat), Nat.succ i_1 <= resN E n -> eId E (gEv E n i_1) = eId E (gEv E i i_1) /\ eTh E (gEv E n i_1) = eTh E (gEv E i i_1) /\ eOk E (gEv E n i_1) = eOk E (gEv E i i_1) /\ eKey E (gEv E n i_1) = eKey E (gEv E i i_1) /\ eVal E (gEv E n i_1) = eVal E (gEv E i i_1) /\ eHi E (gEv E n i_1) = eHi E (gEv E i i_1) /\ eMost E (gEv E n i_1) = eMost E (gEv E i i_1) /\ eAt E (gEv E n i_1) = eAt E (gEv E i i_1) /\ cTo E (gEn E n i_1) = cTo E (gEn E i i_1) /\ cOv (gEn E n i_1) = cOv (gEn E i i_1) /\ cRk E (gEn E n i_1) = cRk E (gEn E i i_1) /\ cRv E (gEn E n i_1) = cRv E (gEn E i i_1) /\ (cNil E (gEn E n i_1) = cNil E (gEn E i i_1) /\ cPn E (gEn E n i_1) = cPn E (gEn E i i_1) /\ ∀ (i_2 : Nat), Nat.succ i_2 <= cPn E (gEn E n i_1) -> cPk E (gEn E n i_1) i_2 = cPk E (gEn E i i_1) i_2 /\ cPv E (gEn E n i_1) i_2 = cPv E (gEn E i i_1) i_2 /\ True) /\ True) /\ true = true))
theorem goalGn_eq : goalGn = goalGnV := by kernel_rfl
theorem goalRgE_ok : goalRgE := by
 refine @kernel_go _ _ goalRgE_eq ?_
 intro k _ _ _ most
 unfold rightE
 refine ⟨λ h => ?_, λ h => ?_⟩
 . rw [h]
   exact ⟨λ h2 => by simp only [cond_true]; rw [h2]; rfl, λ h2 => by simp only [cond_true]; rw [h2]; rfl⟩
 . rw [h]
   exact ⟨λ h2 => by simp only [cond_false]; rw [h2]; rfl, λ h2 => by simp only [cond_false]; rw [h2]; rfl⟩
theorem gS_step {E : EvS} {i : Nat} (h : gOk E i = true) : gS E (i + 1) = gs1 E i (gS E i) := by
 have h : (gS E i).ok = true := h
 show (bif (gS E i).ok then gs1 E i (gS E i) else gS E i) = _
 rw [h]; rfl
theorem gOk_stay {E : EvS} {i : Nat} (h : gOk E i = false) : ∀ k, gOk E (i + k) = false
 | 0 => h
 | k + 1 => by
   have ih : (gS E (i + k)).ok = false := gOk_stay h k
   show (bif (gS E (i + k)).ok then gs1 E (i + k) (gS E (i + k)) else gS E (i + k)).ok = false
   rw [ih]; exact ih
theorem gBad {E : EvS} {i n : Nat} (hin : i < n) (h : (gs1 E i (gS E i)).ok = false) (hok : gOk E i = true) : resN E n = 0 /\ resN E n = 0 /\ gOk E n = false /\ resN E n = 0 := by
 have h1 : gOk E (i + 1) = false := by
  show (gS E (i + 1)).ok = false
  rw [gS_step hok]; exact h
 have h2 := gOk_stay h1 (n - (i + 1))
 rw [show i + 1 + (n - (i + 1)) = n by omega] at h2
 have h3 : resN E n = 0 := by unfold resN; rw [h2]; rfl
 exact ⟨h3, h3, h2, h3⟩
theorem gs1_f1 {E : EvS} {i : Nat} {g : GS} (h : eAt E i < g.at_ ∨ eTh E i < 0) : (gs1 E i g).ok = false := by unfold gs1; rw [if_pos h]
theorem gs1_f2 {E : EvS} {i : Nat} {g : GS} (h1 : ¬ (eAt E i < g.at_ ∨ eTh E i < 0)) (h2 : eKd E i = 1) (h : g.p (eTh E i) = true ∨ eId E i ≠ g.n + 1 ∨ rightE (eOk E i) (eMost E i) = false ∨ zeroR E i = false) : (gs1 E i g).ok = false := by
 unfold gs1; rw [if_neg h1, if_pos h2, if_pos h]
theorem gs1_t2 {E : EvS} {i : Nat} {g : GS} (h1 : ¬ (eAt E i < g.at_ ∨ eTh E i < 0)) (h2 : eKd E i = 1) (h : ¬ (g.p (eTh E i) = true ∨ eId E i ≠ g.n + 1 ∨ rightE (eOk E i) (eMost E i) = false ∨ zeroR E i = false)) :
 gs1 E i g = { ok := true, n := g.n + 1, at_ := eAt E i, p := λ x => yOr (yEq x (eTh E i)) (g.p x), v := λ x => ySel (yEq x (eTh E i)) g.n (g.v x), ev := λ j => if j = g.n then i else g.ev j, en := λ j => if j = g.n then 0 else g.en j } := by
 unfold gs1; rw [if_neg h1, if_pos h2, if_neg h]
theorem gs1_f3 {E : EvS} {i : Nat} {g : GS} (h1 : ¬ (eAt E i < g.at_ ∨ eTh E i < 0)) (h2 : eKd E i ≠ 1) (h3 : eKd E i = 2) (h : g.p (eTh E i) = false ∨ eId E (g.ev (g.v (eTh E i)).toNat) ≠ eId E i ∨ sameOp E (g.ev (g.v (eTh E i)).toNat) i = false) : (gs1 E i g).ok = false := by
 unfold gs1; rw [if_neg h1, if_neg h2, if_pos h3, if_pos h]
theorem gs1_t3 {E : EvS} {i : Nat} {g : GS} (h1 : ¬ (eAt E i < g.at_ ∨ eTh E i < 0)) (h2 : eKd E i ≠ 1) (h3 : eKd E i = 2) (h : ¬ (g.p (eTh E i) = false ∨ eId E (g.ev (g.v (eTh E i)).toNat) ≠ eId E i ∨ sameOp E (g.ev (g.v (eTh E i)).toNat) i = false)) :
 gs1 E i g = { g with at_ := eAt E i, p := λ x => yAnd (yNot (yEq x (eTh E i))) (g.p x), en := λ j => if j = (g.v (eTh E i)).toNat then i + 1 else g.en j } := by
 unfold gs1; rw [if_neg h1, if_neg h2, if_pos h3, if_neg h]
theorem gs1_f4 {E : EvS} {i : Nat} {g : GS} (h1 : ¬ (eAt E i < g.at_ ∨ eTh E i < 0)) (h2 : eKd E i ≠ 1) (h3 : eKd E i ≠ 2) : (gs1 E i g).ok = false := by
 unfold gs1; rw [if_neg h1, if_neg h2, if_neg h3]
theorem gs1_cases (E : EvS) (i : Nat) (g : GS) : (gs1 E i g = { g with ok := false }) ∨
 (eKd E i = 1 /\ ¬ (eAt E i < g.at_ ∨ eTh E i < 0) /\ ¬ (g.p (eTh E i) = true ∨ eId E i ≠ g.n + 1 ∨ rightE (eOk E i) (eMost E i) = false ∨ zeroR E i = false)) ∨
 (eKd E i = 2 /\ ¬ (eAt E i < g.at_ ∨ eTh E i < 0) /\ ¬ (g.p (eTh E i) = false ∨ eId E (g.ev (g.v (eTh E i)).toNat) ≠ eId E i ∨ sameOp E (g.ev (g.v (eTh E i)).toNat) i = false)) := by
 unfold gs1
 by_cases h1 : eAt E i < g.at_ ∨ eTh E i < 0
 . rw [if_pos h1]; exact .inl rfl
 . rw [if_neg h1]
   by_cases h2 : eKd E i = 1
   . rw [if_pos h2]
     by_cases h3 : g.p (eTh E i) = true ∨ eId E i ≠ g.n + 1 ∨ rightE (eOk E i) (eMost E i) = false ∨ zeroR E i = false
     . rw [if_pos h3]; exact .inl rfl
     . exact .inr (.inl ⟨h2, h1, h3⟩)
   . rw [if_neg h2]
     by_cases h3 : eKd E i = 2
     . rw [if_pos h3]
       by_cases h4 : g.p (eTh E i) = false ∨ eId E (g.ev (g.v (eTh E i)).toNat) ≠ eId E i ∨ sameOp E (g.ev (g.v (eTh E i)).toNat) i = false
       . rw [if_pos h4]; exact .inl rfl
       . exact .inr (.inr ⟨h3, h1, h4⟩)
     . rw [if_neg h3]; exact .inl rfl
structure GInv (g : GS) (i : Nat) : Prop where
 le : g.n <= i
 v : ∀ x, g.p x = true -> 0 <= g.v x /\ g.v x < g.n
theorem gInv (E : EvS) : ∀ i, GInv (gS E i) i
 | 0 => ⟨Nat.le_refl _, λ x h => by cases h⟩
 | i + 1 => by
   have ih := gInv E i
   show GInv (bif (gS E i).ok then gs1 E i (gS E i) else gS E i) (i + 1)
   cases hok : (gS E i).ok with
   | false => exact ⟨Nat.le_succ_of_le ih.le, ih.v⟩
   | true =>
     rw [cond_true]
     rcases gs1_cases E i (gS E i) with h | ⟨h2, h1, h3⟩ | ⟨h3, h1, h4⟩
     . rw [h]; exact ⟨Nat.le_succ_of_le ih.le, ih.v⟩
     . rw [gs1_t2 h1 h2 h3]
       refine ⟨Nat.succ_le_succ ih.le, λ x hx => ?_⟩
       show 0 <= ySel (yEq x (eTh E i)) ((gS E i).n : Int) ((gS E i).v x) /\ ySel (yEq x (eTh E i)) ((gS E i).n : Int) ((gS E i).v x) < (((gS E i).n + 1 : Nat) : Int)
       have hx : yOr (yEq x (eTh E i)) ((gS E i).p x) = true := hx
       cases hq : yEq x (eTh E i) with
       | true =>
         show 0 <= ((gS E i).n : Int) /\ ((gS E i).n : Int) < _
         omega
       | false =>
         rw [hq] at hx
         have := ih.v x hx
         show 0 <= (gS E i).v x /\ (gS E i).v x < _
         omega
     . rw [gs1_t3 h1 (by omega) h3 h4]
       refine ⟨Nat.le_succ_of_le ih.le, λ x hx => ih.v x ?_⟩
       have hx : yAnd (yNot (yEq x (eTh E i))) ((gS E i).p x) = true := hx
       simp only [yAnd_t] at hx
       exact hx.2
theorem goalGn_ok : goalGn := by
 refine @kernel_go _ _ goalGn_eq ?_
 unfold goalGnV goalGn_3 goalGn_2 goalGn_0 goalGn_1
 intro E nil n hpre
 obtain ⟨hn, hp⟩ := of_decide_eq_true hpre
 simp only [vS, forall_const, reduceCtorEq]
 refine ⟨⟨0, ⟨Nat.zero_le _, rfl⟩, rfl, rfl, rfl, rfl, λ _ => rfl, rfl⟩, λ _ i hi => ?_⟩
 obtain ⟨hle, hok⟩ := hi
 have hI := gInv E i
 have hN : gN E i <= i := hI.le
 have w0 : yWrap .i64 ((gN E i : Int) + 1) = (gN E i : Int) + 1 := wrap64 (by omega) (by omega)
 have w1 : yWrap .i64 ((i : Int) + 1) = ((i + 1 : Nat) : Int) := by rw [wrap64 (by omega) (by omega)]; omega
 rw [w0]
 simp only [w1]
 refine ⟨λ hlt => ⟨λ _ => ?_, λ h => h ⟨by omega, hlt⟩⟩, λ hge => ?_⟩
 . have hin : i < n := by omega
   have hm : (mGn n (i + 1)).succ <= mGn n i := by unfold mGn; omega
   refine ⟨λ h1 => gBad hin (gs1_f1 (.inl h1)) hok, λ h1 => ⟨λ h2 => gBad hin (gs1_f1 (.inr h2)) hok, λ h2 => ?_⟩⟩
   have h12 : ¬ (eAt E i < (gS E i).at_ ∨ eTh E i < 0) := by
    have h1 : (gS E i).at_ <= eAt E i := h1
    omega
   refine ⟨λ h3 => ?_, λ h3 => ⟨λ h4 => ?_, λ h4 => gBad hin (gs1_f4 h12 h3 h4) hok⟩⟩
   . refine ⟨λ h4 => gBad hin (gs1_f2 h12 h3 (.inl h4)) hok, λ h4 => ⟨λ h5 => gBad hin (gs1_f2 h12 h3 (.inr (.inl h5))) hok, λ h5 => ⟨λ h6 => gBad hin (gs1_f2 h12 h3 (.inr (.inr (.inl h6)))) hok, λ h6 => ⟨λ _ => ⟨λ h7 => gBad hin (gs1_f2 h12 h3 (.inr (.inr (.inr h7)))) hok, λ h7 => ⟨⟨λ _ => ?_, λ h => ?_⟩, λ h => absurd rfl h⟩⟩, λ h => ?_⟩⟩⟩⟩
     . have hne : ¬ ((gS E i).p (eTh E i) = true ∨ eId E i ≠ (gS E i).n + 1 ∨ rightE (eOk E i) (eMost E i) = false ∨ zeroR E i = false) := by
        rintro (h | h | h | h)
        . exact Bool.noConfusion (h.symm.trans h4)
        . exact h h5
        . exact Bool.noConfusion (h.symm.trans h6)
        . exact Bool.noConfusion (h.symm.trans h7)
       have hS := (gS_step hok).trans (gs1_t2 h12 h3 hne)
       have eN : gN E (i + 1) = gN E i + 1 := by unfold gN; rw [hS]
       have eP : ∀ x, gP E (i + 1) x = yOr (yEq x (eTh E i)) (gP E i x) := λ x => by unfold gP; rw [hS]
       have eV : ∀ x, gV E (i + 1) x = ySel (yEq x (eTh E i)) (gN E i) (gV E i x) := λ x => by unfold gV gN; rw [hS]
       have eEv : ∀ q, gEv E (i + 1) q = if q = gN E i then i else gEv E i q := λ q => by unfold gEv gN; rw [hS]
       have eEn : ∀ q, gEn E (i + 1) q = if q = gN E i then 0 else gEn E i q := λ q => by unfold gEn gN; rw [hS]
       refine ⟨i + 1, ⟨hin, by unfold gOk; rw [hS]⟩, hm, ?_, eN, by unfold gAt; rw [hS], rfl, λ x => ⟨eP x, λ _ => eV x⟩, eN, λ q hq => ?_⟩
       . rw [eN]
         have e1 : yNeq (gN E i + 1) 0 = false := by simp only [yNeq_f]; omega
         have e2 : yNeq 1 0 = false := rfl
         rw [e1, e2]
         cases yNeq (gN E i) 0 <;> rfl
       . rw [eN] at hq
         rw [eEv, eEn]
         rcases Nat.lt_or_ge q (gN E i) with h | h
         . have hb : yNlt q (gN E i) = true := decide_eq_true h
           rw [if_neg (by omega), if_neg (by omega), hb]
           exact ⟨rfl, rfl, rfl, rfl, rfl, rfl, rfl, rfl, rfl, rfl, rfl, rfl, rfl, rfl, λ _ _ => ⟨rfl, rfl⟩⟩
         . obtain rfl : q = gN E i := by omega
           have hb : yNlt (gN E i) (gN E i) = false := decide_eq_false (by omega)
           rw [if_pos rfl, if_pos rfl, hb]
           exact ⟨rfl, rfl, rfl, rfl, rfl, rfl, rfl, rfl, rfl, rfl, rfl, rfl, rfl, rfl, λ p hp => absurd hp (Nat.not_succ_le_zero p)⟩
     . omega
     . have := hp i hin; omega
   . refine ⟨λ h5 => ?_, λ h5 => gBad hin (gs1_f3 h12 h3 h4 (.inl h5)) hok⟩
     obtain ⟨j0, j1⟩ := hI.v _ h5
     have j0 : 0 <= gV E i (eTh E i) := j0
     have j1 : gV E i (eTh E i) < gN E i := j1
     have hs : ySel (gP E i (eTh E i)) (gV E i (eTh E i)) 0 = gV E i (eTh E i) := by rw [h5]; rfl
     have j2 : yNat (gV E i (eTh E i)) < gN E i := by unfold yNat; omega
     simp only [hs]
     refine ⟨λ _ => ⟨λ _ => ⟨λ h6 => gBad hin (gs1_f3 h12 h3 h4 (.inr (.inl h6))) hok, λ h6 => ⟨λ _ => ⟨λ _ => ⟨λ h7 => gBad hin (gs1_f3 h12 h3 h4 (.inr (.inr ?_))) hok, λ h7 => ⟨λ _ => ⟨λ _ => ⟨λ _ => ⟨λ _ => ⟨λ _ => ⟨λ _ => ?_, λ h => ?_⟩, λ h => h ⟨j0, j1⟩⟩, λ h => ?_⟩, λ h => h ⟨j0, j1⟩⟩, λ h => ?_⟩, λ h => h ⟨j0, j1⟩⟩⟩, λ h => ?_⟩, λ h => h ⟨j0, j1⟩⟩⟩, λ h => ?_⟩, λ h => h ⟨j0, j1⟩⟩
     . show sameOp E (gEv E i (yNat (gV E i (eTh E i)))) i = false
       simpa [sameOp, yAnd_f, yEq_f] using h7
     . have hop : sameOp E (gEv E i (yNat (gV E i (eTh E i)))) i = true := by
        simp only [sameOp, yAnd_t, yEq_t]; exact h7
       have hne : ¬ ((gS E i).p (eTh E i) = false ∨ eId E ((gS E i).ev ((gS E i).v (eTh E i)).toNat) ≠ eId E i ∨ sameOp E ((gS E i).ev ((gS E i).v (eTh E i)).toNat) i = false) := by
        rintro (h | h | h)
        . exact Bool.noConfusion (h.symm.trans h5)
        . exact h h6
        . exact Bool.noConfusion (h.symm.trans hop)
       have hS := (gS_step hok).trans (gs1_t3 h12 h3 h4 hne)
       have eN : gN E (i + 1) = gN E i := by unfold gN; rw [hS]
       have eP : ∀ x, gP E (i + 1) x = yAnd (yNot (yEq x (eTh E i))) (gP E i x) := λ x => by unfold gP; rw [hS]
       have eV : ∀ x, gV E (i + 1) x = gV E i x := λ x => by unfold gV; rw [hS]
       have eEv : ∀ q, gEv E (i + 1) q = gEv E i q := λ q => by unfold gEv; rw [hS]
       have eEn : ∀ q, gEn E (i + 1) q = if q = yNat (gV E i (eTh E i)) then i + 1 else gEn E i q := λ q => by unfold gEn gV yNat; rw [hS]
       refine ⟨i + 1, ⟨hin, by unfold gOk; rw [hS]; exact hok⟩, hm, by rw [eN], eN, by unfold gAt; rw [hS], rfl, λ x => ⟨eP x, λ _ => eV x⟩, eN, λ q hq => ?_⟩
       rw [eEv, eEn]
       by_cases h : q = yNat (gV E i (eTh E i))
       . have hb : yNeq q (yNat (gV E i (eTh E i))) = true := decide_eq_true h
         rw [if_pos h, hb]
         exact ⟨rfl, rfl, rfl, rfl, rfl, rfl, rfl, rfl, rfl, rfl, rfl, rfl, rfl, rfl, λ _ _ => ⟨rfl, rfl⟩⟩
       . have hb : yNeq q (yNat (gV E i (eTh E i))) = false := decide_eq_false h
         rw [if_neg h, hb]
         exact ⟨rfl, rfl, rfl, rfl, rfl, rfl, rfl, rfl, rfl, rfl, rfl, rfl, rfl, rfl, λ _ _ => ⟨rfl, rfl⟩⟩
     all_goals omega
 . obtain rfl : i = n := by omega
   have hr : resN E i = gN E i := by unfold resN; rw [hok]; rfl
   exact ⟨by rw [hr], hr, hok, hr, λ q _ => ⟨rfl, rfl, rfl, rfl, rfl, rfl, rfl, rfl, rfl, rfl, rfl, rfl, rfl, rfl, λ _ _ => ⟨rfl, rfl⟩⟩⟩
theorem smGn (hm : Try.prog.follows .mixedOrders = true) (hs : SmOK Try.prog (smL lGn)) : SmCall Try.prog 33 (λ args h => (ctX [sEv] rGn fGn args h).sel) :=
 ctX_ok hm hs (λ ds r post h => by
  unfold fGn at h
  split at h
  . rename_i nil n kd th id at_ ok key val hi most rk rv nl pn pk pv
    simp only [sI, Prod.mk.injEq] at h
    obtain ⟨h1, rfl, rfl⟩ := h
    refine ⟨annGn ⟨kd, th, id, at_, ok, key, val, hi, most, rk, rv, nl, pn, pk, pv⟩ n, 1000, ?_⟩
    have h2 := @goalGn_ok
    unfold goalGn at h2
    exact @h2 ⟨kd, th, id, at_, ok, key, val, hi, most, rk, rv, nl, pn, pk, pv⟩ nil n h1
  . cases h)
abbrev kP : List CK := [.int .u64, .int .u64]
abbrev sP : Sx := .pl kP
def nilOk (nil : Bool) (n : Nat) : Bool := yOr (yNot nil) (yNeq n 0)
def wfE (E : EvS) (n : Nat) : Bool := decide (∀ i, i < n -> nilOk (eNil E i) (ePn E i) = true)
def fCln (ds : List Dx) : Option (Bool × Dx × List (List Dx)) :=
 match ds with
 | [.rows nil n [.int .u64 a, .int .u64 b]] => some (yAnd (yNle n 1000000) (nilOk nil n), .rows nil n [.int .u64 a, .int .u64 b], [])
 | _ => none
def goalCln : Prop := ∀ (nil : Bool) (n : Nat) (a b : Nat -> Int), yNle n 1000000 = true -> nilOk nil n = true -> wxH Try.prog noSm (λ _ => none) 67 [sP] [.rows nil n [.int .u64 a, .int .u64 b]] sP (.rows nil n [.int .u64 a, .int .u64 b]) []
abbrev rCl : Sx := .own 62 kCl
abbrev dCl (E : EvS) (n : Nat) : Dx := .rows (yNeq (resN E n) 0) (resN E n) (colsG E n)
def lCl : List (Nat × Sm) := [(33, .ct (ctX [sEv] rGn fGn)), (67, .ct (ctX [sP] sP fCln))]
def prCl (E : EvS) (n i : Nat) : Prop := i <= resN E n
def annCl (E : EvS) (n : Nat) (b : Nat) : Option (St -> LoopA) :=
 match b with
 | 0 => some λ _ => { ι := Nat, tms := [13], tmU := λ i => [.y .i64 (yInt i)], ids := [0], hpU := λ _ => [.arr false 62 13 (resN E n) (colF (colsG E n))], del := [], ex := 0, pre := prCl E n, ms := mGn (resN E n) }
 | _ => none
def goalCl : Prop := ∀ (E : EvS) (nil : Bool) (n : Nat), preE E n = true -> wfE E n = true -> wxH Try.prog (smL lCl) (annCl E n) 36 [sEv] [.rows nil n (colsE E)] rCl (dCl E n) []
theorem goalCln_eq : goalCln = (∀ (nil : Bool) (n : Nat) (a b : Nat -> Int), yNle n (nat_lit 1000000) = true -> nilOk nil n = true -> (nil = true -> nil = true /\ n = nat_lit 0 /\ true = true) /\ (nil = false -> (yNeq n (nat_lit 0) = true -> nil = false /\ n = nat_lit 0 /\ true = true) /\ (yNeq n (nat_lit 0) = false -> (yGrow (yNadd 0 n) (nat_lit 16) = true -> nil = false /\ n = yNadd 0 n /\ yNadd 0 (yNadd 0 n) <= yNadd 0 n /\ (∀ (i : Nat), Nat.succ i <= n -> a i = a (yNadd 0 (yNadd 0 i)) /\ b i = b (yNadd 0 (yNadd 0 i)) /\ True) /\ true = true) /\ (yGrow (yNadd 0 n) (nat_lit 16) = false -> False)))) := by kernel_rfl
def goalCl_0 (E : EvS) (nil : Bool) (n : Nat) (i : Nat) := gEv { kd := λ (i : Nat) => eKd E i, th := λ (i : Nat) => eTh E i, id := λ (i : Nat) => eId E i, at_ := λ (i : Nat) => eAt E i, ok := λ (i : Nat) => eOk E i, key := λ (i : Nat) => eKey E i, val := λ (i : Nat) => eVal E i, hi := λ (i : Nat) => eHi E i, most := λ (i : Nat) => eMost E i, rk := λ (i : Nat) => eRk E i, rv := λ (i : Nat) => eRv E i, nil := λ (i : Nat) => eNil E i, pn := λ (i : Nat) => ePn E i, pk := λ (i p : Nat) => ePk E i p, pv := λ (i p : Nat) => ePv E i p } n i
def goalCl_1 (E : EvS) (nil : Bool) (n : Nat) (i : Nat) := gEn { kd := λ (i : Nat) => eKd E i, th := λ (i : Nat) => eTh E i, id := λ (i : Nat) => eId E i, at_ := λ (i : Nat) => eAt E i, ok := λ (i : Nat) => eOk E i, key := λ (i : Nat) => eKey E i, val := λ (i : Nat) => eVal E i, hi := λ (i : Nat) => eHi E i, most := λ (i : Nat) => eMost E i, rk := λ (i : Nat) => eRk E i, rv := λ (i : Nat) => eRv E i, nil := λ (i : Nat) => eNil E i, pn := λ (i : Nat) => ePn E i, pk := λ (i p : Nat) => ePk E i p, pv := λ (i p : Nat) => ePv E i p } n i
def goalCl_2 (E : EvS) (nil : Bool) (n : Nat) := resN { kd := λ (i : Nat) => eKd E i, th := λ (i : Nat) => eTh E i, id := λ (i : Nat) => eId E i, at_ := λ (i : Nat) => eAt E i, ok := λ (i : Nat) => eOk E i, key := λ (i : Nat) => eKey E i, val := λ (i : Nat) => eVal E i, hi := λ (i : Nat) => eHi E i, most := λ (i : Nat) => eMost E i, rk := λ (i : Nat) => eRk E i, rv := λ (i : Nat) => eRv E i, nil := λ (i : Nat) => eNil E i, pn := λ (i : Nat) => ePn E i, pk := λ (i p : Nat) => ePk E i p, pv := λ (i p : Nat) => ePv E i p } n
def goalClV : Prop := (∀ (E : EvS) (nil : Bool) (n : Nat), preE E n = true -> wfE E n = true -> mst (yCol (CK.int .i64) n λ (i : Nat) => AV.y .i64 (eKd E i)) (mst (yCol (CK.int .i64) n λ (i : Nat) => AV.y .i64 (eTh E i)) (mst (yCol (CK.int .i64) n λ (i : Nat) => AV.y .i64 (eId E i)) (mst (yCol (CK.int .i64) n λ (i : Nat) => AV.y .i64 (eAt E i)) (mst (yCol (CK.int .i64) n λ (i : Nat) => AV.y .i64 (eOk E i)) (mst (yCol (CK.int .u64) n λ (i : Nat) => AV.y .u64 (eKey E i)) (mst (yCol (CK.int .u64) n λ (i : Nat) => AV.y .u64 (eVal E i)) (mst (yCol (CK.int .u64) n λ (i : Nat) => AV.y .u64 (eHi E i)) (mst (yCol (CK.int .i64) n λ (i : Nat) => AV.y .i64 (eMost E i)) (mst (yCol (CK.int .i64) n λ (i : Nat) => AV.y .i64 (eRk E i)) (mst (yCol (CK.int .u64) n λ (i : Nat) => AV.y .u64 (eRv E i)) (mst (yCol (CK.ls [K1.int .u64, K1.int .u64]) n λ (i : Nat) => AV.lst false (eNil E i) 2 (ePn E i) (cl2F [Cl2.int .u64 (ePk E), Cl2.int .u64 (ePv E)] i)) (mst (preE { kd := λ (i : Nat) => eKd E i, th := λ (i : Nat) => eTh E i, id := λ (i : Nat) => eId E i, at_ := λ (i : Nat) => eAt E i, ok := λ (i : Nat) => eOk E i, key := λ (i : Nat) => eKey E i, val := λ (i : Nat) => eVal E i, hi := λ (i : Nat) => eHi E i, most := λ (i : Nat) => eMost E i, rk := λ (i : Nat) => eRk E i, rv := λ (i : Nat) => eRv E i, nil := λ (i : Nat) => eNil E i, pn := λ (i : Nat) => ePn E i, pk := λ (i p : Nat) => ePk E i p, pv := λ (i p : Nat) => ePv E i p } n) (true = true /\ (∃ (i0 : Nat), prCl E n i0 /\ true = true /\ yInt i0 = (0 : Int) /\ resN E n = resN { kd := λ (i : Nat) => eKd E i, th := λ (i : Nat) => eTh E i, id := λ (i : Nat) => eId E i, at_ := λ (i : Nat) => eAt E i, ok := λ (i : Nat) => eOk E i, key := λ (i : Nat) => eKey E i, val := λ (i : Nat) => eVal E i, hi := λ (i : Nat) => eHi E i, most := λ (i : Nat) => eMost E i, rk := λ (i : Nat) => eRk E i, rv := λ (i : Nat) => eRv E i, nil := λ (i : Nat) => eNil E i, pn := λ (i : Nat) => ePn E i, pk := λ (i p : Nat) => ePk E i p, pv := λ (i p : Nat) => ePv E i p } n /\ (∀ (i : Nat), Nat.succ i <= resN E n -> eId E (gEv E n i) = eId { kd := λ (i : Nat) => eKd E i, th := λ (i : Nat) => eTh E i, id := λ (i : Nat) => eId E i, at_ := λ (i : Nat) => eAt E i, ok := λ (i : Nat) => eOk E i, key := λ (i : Nat) => eKey E i, val := λ (i : Nat) => eVal E i, hi := λ (i : Nat) => eHi E i, most := λ (i : Nat) => eMost E i, rk := λ (i : Nat) => eRk E i, rv := λ (i : Nat) => eRv E i, nil := λ (i : Nat) => eNil E i, pn := λ (i : Nat) => ePn E i, pk := λ (i p : Nat) => ePk E i p, pv := λ (i p : Nat) => ePv E i p } (goalCl_0 E nil n i) /\ eTh E (gEv E n i) = eTh { kd := λ (i : Nat) => eKd E i, th := λ (i : Nat) => eTh E i, id := λ (i : Nat) => eId E i, at_ := λ (i : Nat) => eAt E i, ok := λ (i : Nat) => eOk E i, key := λ (i : Nat) => eKey E i, val := λ (i : Nat) => eVal E i, hi := λ (i : Nat) => eHi E i, most := λ (i : Nat) => eMost E i, rk := λ (i : Nat) => eRk E i, rv := λ (i : Nat) => eRv E i, nil := λ (i : Nat) => eNil E i, pn := λ (i : Nat) => ePn E i, pk := λ (i p : Nat) => ePk E i p, pv := λ (i p : Nat) => ePv E i p } (goalCl_0 E nil n i) /\ eOk E (gEv E n i) = eOk { kd := λ (i : Nat) => eKd E i, th := λ (i : Nat) => eTh E i, id := λ (i : Nat) => eId E i, at_ := λ (i : Nat) => eAt E i, ok := λ (i : Nat) => eOk E i, key := λ (i : Nat) => eKey E i, val := λ (i : Nat) => eVal E i, hi := λ (i : Nat) => eHi E i, most := λ (i : Nat) => eMost E i, rk := λ (i : Nat) => eRk E i, rv := λ (i : Nat) => eRv E i, nil := λ (i : Nat) => eNil E i, pn := λ (i : Nat) => ePn E i, pk := λ (i p : Nat) => ePk E i p, pv := λ (i p : Nat) => ePv E i p } (goalCl_0 E nil n i) /\ eKey E (gEv E n i) = eKey { kd := λ (i : Nat) => eKd E i, th := λ (i : Nat) => eTh E i, id := λ (i : Nat) => eId E i, at_ := λ (i : Nat) => eAt E i, ok := λ (i : Nat) => eOk E i, key := λ (i : Nat) => eKey E i, val := λ (i : Nat) => eVal E i, hi := λ (i : Nat) => eHi E i, most := λ (i : Nat) => eMost E i, rk := λ (i : Nat) => eRk E i, rv := λ (i : Nat) => eRv E i, nil := λ (i : Nat) => eNil E i, pn := λ (i : Nat) => ePn E i, pk := λ (i p : Nat) => ePk E i p, pv := λ (i p : Nat) => ePv E i p } (goalCl_0 E nil n i) /\ eVal E (gEv E n i) = eVal { kd := λ (i : Nat) => eKd E i, th := λ (i : Nat) => eTh E i, id := λ (i : Nat) => eId E i, at_ := λ (i : Nat) => eAt E i, ok := λ (i : Nat) => eOk E i, key := λ (i : Nat) => eKey E i, val := λ (i : Nat) => eVal E i, hi := λ (i : Nat) => eHi E i, most := λ (i : Nat) => eMost E i, rk := λ (i : Nat) => eRk E i, rv := λ (i : Nat) => eRv E i, nil := λ (i : Nat) => eNil E i, pn := λ (i : Nat) => ePn E i, pk := λ (i p : Nat) => ePk E i p, pv := λ (i p : Nat) => ePv E i p } (goalCl_0 E nil n i) /\ eHi E (gEv E n i) = eHi { kd := λ (i : Nat) => eKd E i, th := λ (i : Nat) => eTh E i, id := λ (i : Nat) => eId E i, at_ := λ (i : Nat) => eAt E i, ok := λ (i : Nat) => eOk E i, key := λ (i : Nat) => eKey E i, val := λ (i : Nat) => eVal E i, hi := λ (i : Nat) => eHi E i, most := λ (i : Nat) => eMost E i, rk := λ (i : Nat) => eRk E i, rv := λ (i : Nat) => eRv E i, nil := λ (i : Nat) => eNil E i, pn := λ (i : Nat) => ePn E i, pk := λ (i p : Nat) => ePk E i p, pv := λ (i p : Nat) => ePv E i p } (goalCl_0 E nil n i) /\ eMost E (gEv E n i) = eMost { kd := λ (i : Nat) => eKd E i, th := λ (i : Nat) => eTh E i, id := λ (i : Nat) => eId E i, at_ := λ (i : Nat) => eAt E i, ok := λ (i : Nat) => eOk E i, key := λ (i : Nat) => eKey E i, val := λ (i : Nat) => eVal E i, hi := λ (i : Nat) => eHi E i, most := λ (i : Nat) => eMost E i, rk := λ (i : Nat) => eRk E i, rv := λ (i : Nat) => eRv E i, nil := λ (i : Nat) => eNil E i, pn := λ (i : Nat) => ePn E i, pk := λ (i p : Nat) => ePk E i p, pv := λ (i p : Nat) => ePv E i p } (goalCl_0 E nil n i) /\ eAt E (gEv E n i) = eAt { kd := λ (i : Nat) => eKd E i, th := λ (i : Nat) => eTh E i, id := λ (i : Nat) => eId E i, at_ := λ (i : Nat) => eAt E i, ok := λ (i : Nat) => eOk E i, key := λ (i : Nat) => eKey E i, val := λ (i : Nat) => eVal E i, hi := λ (i : Nat) => eHi E i, most := λ (i : Nat) => eMost E i, rk := λ (i : Nat) => eRk E i, rv := λ (i : Nat) => eRv E i, nil := λ (i : Nat) => eNil E i, pn := λ (i : Nat) => ePn E i, pk := λ (i p : Nat) => ePk E i p, pv := λ (i p : Nat) => ePv E i p } (goalCl_0 E nil n i) /\ cTo E (gEn E n i) = cTo { kd := λ (i : Nat) => eKd E i, th := λ (i : Nat) => eTh E i, id := λ (i : Nat) => eId E i, at_ := λ (i : Nat) => eAt E i, ok := λ (i : Nat) => eOk E i, key := λ (i : Nat) => eKey E i, val := λ (i : Nat) => eVal E i, hi := λ (i : Nat) => eHi E i, most := λ (i : Nat) => eMost E i, rk := λ (i : Nat) => eRk E i, rv := λ (i : Nat) => eRv E i, nil := λ (i : Nat) => eNil E i, pn := λ (i : Nat) => ePn E i, pk := λ (i p : Nat) => ePk E i p, pv := λ (i p : Nat) => ePv E i p } (goalCl_1 E nil n i) /\ cOv (gEn E n i) = cOv (goalCl_1 E nil n i) /\ cRk E (gEn E n i) = cRk { kd := λ (i : Nat) => eKd E i, th := λ (i : Nat) => eTh E i, id := λ (i : Nat) => eId E i, at_ := λ (i : Nat) => eAt E i, ok := λ (i : Nat) => eOk E i, key := λ (i : Nat) => eKey E i, val := λ (i : Nat) => eVal E i, hi := λ (i : Nat) => eHi E i, most := λ (i : Nat) => eMost E i, rk := λ (i : Nat) => eRk E i, rv := λ (i : Nat) => eRv E i, nil := λ (i : Nat) => eNil E i, pn := λ (i : Nat) => ePn E i, pk := λ (i p : Nat) => ePk E i p, pv := λ (i p : Nat) => ePv E i p } (goalCl_1 E nil n i) /\ cRv E (gEn E n i) = cRv { kd := λ (i : Nat) => eKd E i, th := λ (i : Nat) => eTh E i, id := λ (i : Nat) => eId E i, at_ := λ (i : Nat) => eAt E i, ok := λ (i : Nat) => eOk E i, key := λ (i : Nat) => eKey E i, val := λ (i : Nat) => eVal E i, hi := λ (i : Nat) => eHi E i, most := λ (i : Nat) => eMost E i, rk := λ (i : Nat) => eRk E i, rv := λ (i : Nat) => eRv E i, nil := λ (i : Nat) => eNil E i, pn := λ (i : Nat) => ePn E i, pk := λ (i p : Nat) => ePk E i p, pv := λ (i p : Nat) => ePv E i p } (goalCl_1 E nil n i) /\ (cNil E (gEn E n i) = cNil { kd := λ (i : Nat) => eKd E i, th := λ (i : Nat) => eTh E i, id := λ (i : Nat) => eId E i, at_ := λ (i : Nat) => eAt E i, ok := λ (i : Nat) => eOk E i, key := λ (i : Nat) => eKey E i, val := λ (i : Nat) => eVal E i, hi := λ (i : Nat) => eHi E i, most := λ (i : Nat) => eMost E i, rk := λ (i : Nat) => eRk E i, rv := λ (i : Nat) => eRv E i, nil := λ (i : Nat) => eNil E i, pn := λ (i : Nat) => ePn E i, pk := λ (i p : Nat) => ePk E i p, pv := λ (i p : Nat) => ePv E i p } (goalCl_1 E nil n i) /\ cPn E (gEn E n i) = cPn { kd := λ (i : Nat) => eKd E i, th := λ (i : Nat) => eTh E i, id := λ (i : Nat) => eId E i, at_ := λ (i : Nat) => eAt E i, ok := λ (i : Nat) => eOk E i, key := λ (i : Nat) => eKey E i, val := λ (i : Nat) => eVal E i, hi := λ (i : Nat) => eHi E i, most := λ (i : Nat) => eMost E i, rk := λ (i : Nat) => eRk E i, rv := λ (i : Nat) => eRv E i, nil := λ (i : Nat) => eNil E i, pn := λ (i : Nat) => ePn E i, pk := λ (i p : Nat) => ePk E i p, pv := λ (i p : Nat) => ePv E i p } (goalCl_1 E nil n i) /\ ∀ (i_1 : Nat), Nat.succ i_1 <= cPn E (gEn E n i) -> cPk E (gEn E n i) i_1 = cPk { kd := λ (i : Nat) => eKd E i, th := λ (i : Nat) => eTh E i, id := λ (i : Nat) => eId E i, at_ := λ (i : Nat) => eAt E i, ok := λ (i : Nat) => eOk E i, key := λ (i : Nat) => eKey E i, val := λ (i : Nat) => eVal E i, hi := λ (i : Nat) => eHi E i, most := λ (i : Nat) => eMost E i, rk := λ (i : Nat) => eRk E i, rv := λ (i : Nat) => eRv E i, nil := λ (i : Nat) => eNil E i, pn := λ (i : Nat) => ePn E i, pk := λ (i p : Nat) => ePk E i p, pv := λ (i p : Nat) => ePv E i p } (goalCl_1 E nil n i) i_1 /\ cPv E (gEn E n i) i_1 = cPv { kd := λ (i : Nat) => eKd E i, th := λ (i : Nat) => eTh E i, id := λ (i : Nat) => eId E i, at_ := λ (i : Nat) => eAt E i, ok := λ (i : Nat) => eOk E i, key := λ (i : Nat) => eKey E i, val := λ (i : Nat) => eVal E i, hi := λ (i : Nat) => eHi E i, most := λ (i : Nat) => eMost E i, rk := λ (i : Nat) => eRk E i, rv := λ (i : Nat) => eRv E i, nil := λ (i : Nat) => eNil E i, pn := λ (i : Nat) => ePn E i, pk := λ (i p : Nat) => ePk E i p, pv := λ (i p : Nat) => ePv E i p } (goalCl_1 E nil n i) i_1 /\ True) /\ True) /\ true = true) /\ ∀ (g : Nat -> AV) (i : Nat), prCl E n i -> (yLt (yInt i) (yInt (goalCl_2 E nil n)) = true -> mst (yIn (yInt i) (goalCl_2 E nil n)) (mst (yNlt (yNadd 0 (yNat (yInt i))) (resN E n)) (mst (yCol (CK.int .u64) (cPn E (gEn E n (yNadd 0 (yNat (yInt i))))) λ (i_1 : Nat) => AV.y .u64 (cPk E (gEn E n (yNadd 0 (yNat (yInt i)))) i_1)) (mst (yCol (CK.int .u64) (cPn E (gEn E n (yNadd 0 (yNat (yInt i))))) λ (i_1 : Nat) => AV.y .u64 (cPv E (gEn E n (yNadd 0 (yNat (yInt i)))) i_1)) (mst (yAnd (yNle (cPn E (gEn E n (yNadd 0 (yNat (yInt i))))) 1000000) (nilOk (cNil E (gEn E n (yNadd 0 (yNat (yInt i))))) (cPn E (gEn E n (yNadd 0 (yNat (yInt i))))))) (mst (yIn (yInt i) (goalCl_2 E nil n)) (mst (yNlt (yNadd 0 (yNat (yInt i))) (resN E n)) (true = true /\ ∃ (i' : Nat), prCl E n i' /\ Nat.succ (mGn (resN E n) i') <= mGn (resN E n) i /\ true = true /\ yInt i' = yWrap .i64 (yAdd (yInt i) 1) /\ resN E n = resN E n /\ (∀ (i_1 : Nat), Nat.succ i_1 <= resN E n -> eId E (gEv E n i_1) = eId E (gEv E n i_1) /\ eTh E (gEv E n i_1) = eTh E (gEv E n i_1) /\ eOk E (gEv E n i_1) = eOk E (gEv E n i_1) /\ eKey E (gEv E n i_1) = eKey E (gEv E n i_1) /\ eVal E (gEv E n i_1) = eVal E (gEv E n i_1) /\ eHi E (gEv E n i_1) = eHi E (gEv E n i_1) /\ eMost E (gEv E n i_1) = eMost E (gEv E n i_1) /\ eAt E (gEv E n i_1) = eAt E (gEv E n i_1) /\ cTo E (gEn E n i_1) = cTo E (gEn E n i_1) /\ cOv (gEn E n i_1) = cOv (gEn E n i_1) /\ cRk E (gEn E n i_1) = cRk E (gEn E n i_1) /\ cRv E (gEn E n i_1) = cRv E (gEn E n i_1) /\ (cNil E (gEn E n i_1) = ySelB (yNeq i_1 (yNadd 0 (yNat (yInt i)))) (cNil E (gEn E n (yNadd 0 (yNat (yInt i))))) (cNil E (gEn E n i_1)) /\ cPn E (gEn E n i_1) = ySelN (yNeq i_1 (yNadd 0 (yNat (yInt i)))) (cPn E (gEn E n (yNadd 0 (yNat (yInt i))))) (cPn E (gEn E n i_1)) /\ ∀ (i_2 : Nat), Nat.succ i_2 <= cPn E (gEn E n i_1) -> cPk E (gEn E n i_1) i_2 = ySel (yNeq i_1 (yNadd 0 (yNat (yInt i)))) (cPk E (gEn E n (yNadd 0 (yNat (yInt i)))) i_2) (cPk E (gEn E n i_1) i_2) /\ cPv E (gEn E n i_1) i_2 = ySel (yNeq i_1 (yNadd 0 (yNat (yInt i)))) (cPv E (gEn E n (yNadd 0 (yNat (yInt i)))) i_2) (cPv E (gEn E n i_1) i_2) /\ True) /\ True) /\ true = true)))))))) /\ (yLt (yInt i) (yInt (goalCl_2 E nil n)) = false -> yNeq (resN E n) (nat_lit 0) = yNeq (goalCl_2 E nil n) 0 /\ nat_lit 0 = nat_lit 0 /\ resN E n = resN { kd := λ (i : Nat) => eKd E i, th := λ (i : Nat) => eTh E i, id := λ (i : Nat) => eId E i, at_ := λ (i : Nat) => eAt E i, ok := λ (i : Nat) => eOk E i, key := λ (i : Nat) => eKey E i, val := λ (i : Nat) => eVal E i, hi := λ (i : Nat) => eHi E i, most := λ (i : Nat) => eMost E i, rk := λ (i : Nat) => eRk E i, rv := λ (i : Nat) => eRv E i, nil := λ (i : Nat) => eNil E i, pn := λ (i : Nat) => ePn E i, pk := λ (i p : Nat) => ePk E i p, pv := λ (i p : Nat) => ePv E i p } n /\ resN E n = resN E n /\ (∀ (i : Nat), Nat.succ i <= resN E n -> eId E (gEv E n i) = eId E (gEv E n i) /\ eTh E (gEv E n i) = eTh E (gEv E n i) /\ eOk E (gEv E n i) = eOk E (gEv E n i) /\ eKey E (gEv E n i) = eKey E (gEv E n i) /\ eVal E (gEv E n i) = eVal E (gEv E n i) /\ eHi E (gEv E n i) = eHi E (gEv E n i) /\ eMost E (gEv E n i) = eMost E (gEv E n i) /\ eAt E (gEv E n i) = eAt E (gEv E n i) /\ cTo E (gEn E n i) = cTo E (gEn E n i) /\ cOv (gEn E n i) = cOv (gEn E n i) /\ cRk E (gEn E n i) = cRk E (gEn E n i) /\ cRv E (gEn E n i) = cRv E (gEn E n i) /\ (cNil E (gEn E n i) = cNil E (gEn E n i) /\ cPn E (gEn E n i) = cPn E (gEn E n i) /\ ∀ (i_1 : Nat), Nat.succ i_1 <= cPn E (gEn E n i) -> cPk E (gEn E n i) i_1 = cPk E (gEn E n i) i_1 /\ cPv E (gEn E n i) i_1 = cPv E (gEn E n i) i_1 /\ True) /\ True) /\ true = true)))))))))))))))
theorem goalCl_eq : goalCl = goalClV := by kernel_rfl
theorem nilOk_t {nil : Bool} {n : Nat} (h : nilOk nil n = true) (hn : nil = true) : n = 0 := by
 unfold nilOk at h
 rw [hn] at h
 have h : yNeq n 0 = true := h
 simpa only [yNeq_t] using h
theorem gEn_le (E : EvS) : ∀ (i j : Nat), gEn E i j <= i
 | 0, _ => Nat.le_refl _
 | i + 1, j => by
   have ih := gEn_le E i
   have ih : ∀ q, (gS E i).en q <= i := ih
   show (bif (gS E i).ok then gs1 E i (gS E i) else gS E i).en j <= i + 1
   cases (gS E i).ok with
   | false => exact Nat.le_succ_of_le (ih j)
   | true =>
     rw [cond_true]
     rcases gs1_cases E i (gS E i) with h | ⟨h2, h1, h3⟩ | ⟨h3, h1, h4⟩
     . rw [h]; exact Nat.le_succ_of_le (ih j)
     . rw [gs1_t2 h1 h2 h3]
       show (if j = (gS E i).n then 0 else (gS E i).en j) <= i + 1
       split
       . omega
       . exact Nat.le_succ_of_le (ih j)
     . rw [gs1_t3 h1 (by omega) h3 h4]
       show (if j = ((gS E i).v (eTh E i)).toNat then i + 1 else (gS E i).en j) <= i + 1
       split
       . omega
       . exact Nat.le_succ_of_le (ih j)
theorem goalCln_ok : goalCln := by
 refine @kernel_go _ _ goalCln_eq ?_
 intro nil n a b hn hk
 have hz := nilOk_t hk
 simp only [vS, forall_const, reduceCtorEq] at hn ⊢
 refine ⟨λ h => ⟨h, hz h⟩, λ h => ⟨λ h2 => ⟨h, h2⟩, λ _ => ⟨λ _ => ⟨h, λ _ _ => trivial⟩, λ h => by omega⟩⟩⟩
theorem goalCl_ok : goalCl := by
 refine @kernel_go _ _ goalCl_eq ?_
 unfold goalClV goalCl_2 goalCl_1 goalCl_0
 intro E nil n hpre hwf
 obtain ⟨hn, hp⟩ := of_decide_eq_true hpre
 have hwf := of_decide_eq_true hwf
 have hE : (EvS.mk (λ i => eKd E i) (λ i => eTh E i) (λ i => eId E i) (λ i => eAt E i) (λ i => eOk E i) (λ i => eKey E i) (λ i => eVal E i) (λ i => eHi E i) (λ i => eMost E i) (λ i => eRk E i) (λ i => eRv E i) (λ i => eNil E i) (λ i => ePn E i) (λ i p => ePk E i p) (λ i p => ePv E i p)) = E := rfl
 simp only [hE, hpre, vS, forall_const, reduceCtorEq]
 have hle : ∀ j, gEn E n j <= n := gEn_le E n
 have hcn : ∀ j, cPn E (gEn E n j) <= 50 /\ (cNil E (gEn E n j) = true -> cPn E (gEn E n j) = 0) := λ j => by
  have h := hle j
  cases hg : gEn E n j with
  | zero => exact ⟨Nat.zero_le _, λ _ => rfl⟩
  | succ e => exact ⟨hp e (by omega), nilOk_t (hwf e (by omega))⟩
 have hrn : resN E n <= n := by
  have := (gInv E n).le
  have this : gN E n <= n := this
  unfold resN
  cases gOk E n <;> simp <;> omega
 have hcol : ∀ m, yCol (.ls [.int .u64, .int .u64]) m (λ i => AV.lst false (eNil E i) 2 (ePn E i) (cl2F [Cl2.int .u64 (ePk E), Cl2.int .u64 (ePv E)] i)) = true := λ m => yCol_ok.2 λ i _ => List.all_eq_true.2 λ p _ => rfl
 refine ⟨λ _ => ⟨⟨0, Nat.zero_le _, rfl, λ _ _ _ _ => trivial⟩, λ _ i hi => ⟨λ hlt => ⟨λ hb => ⟨λ hi2 => ⟨λ _ => ⟨λ _ => ⟨λ _ => ?_, λ h => ?_⟩, λ h => h hb⟩, λ h => ?_⟩, λ h => ?_⟩, λ h => h ⟨by omega, hlt⟩⟩, λ _ _ _ _ _ => trivial⟩⟩, λ h => Bool.noConfusion ((hcol n).symm.trans h)⟩
 . refine ⟨i + 1, hi2, by unfold mGn; omega, by rw [wrap64 (by omega) (by omega)]; omega, λ q _ => ?_⟩
   by_cases hq : q = i
   . subst hq
     have hb2 : yNeq q q = true := decide_eq_true rfl
     rw [hb2]
     exact ⟨rfl, rfl, λ _ _ => ⟨rfl, rfl⟩⟩
   . have hb2 : yNeq q i = false := decide_eq_false hq
     rw [hb2]
     exact ⟨rfl, rfl, λ _ _ => ⟨rfl, rfl⟩⟩
 . omega
 . have h1 := hcn i
   rcases h with h | h
   . omega
   . have : nilOk (cNil E (gEn E n i)) (cPn E (gEn E n i)) = true := by
      unfold nilOk
      cases hc : cNil E (gEn E n i) with
      | false => rfl
      | true => rw [h1.2 hc]; rfl
     rw [this] at h; cases h
 . omega
def fCl (ds : List Dx) : Option (Bool × Dx × List (List Dx)) :=
 match ds with
 | [.rows _ n [.int .i64 kd, .int .i64 th, .int .i64 id, .int .i64 at_, .int .i64 ok, .int .u64 key, .int .u64 val, .int .u64 hi, .int .i64 most, .int .i64 rk, .int .u64 rv, .ls nl pn [.int .u64 pk, .int .u64 pv]]] => some (yAnd (preE ⟨kd, th, id, at_, ok, key, val, hi, most, rk, rv, nl, pn, pk, pv⟩ n) (wfE ⟨kd, th, id, at_, ok, key, val, hi, most, rk, rv, nl, pn, pk, pv⟩ n), dCl ⟨kd, th, id, at_, ok, key, val, hi, most, rk, rv, nl, pn, pk, pv⟩ n, [])
 | _ => none
theorem smCln (hm : Try.prog.follows .mixedOrders = true) : SmCall Try.prog 67 (λ args h => (ctX [sP] sP fCln args h).sel) :=
 ctX_ok hm noSm_ok (λ ds r post h => by
  unfold fCln at h
  split at h
  . rename_i nil n a b
    simp only [sI, Prod.mk.injEq] at h
    obtain ⟨h1, rfl, rfl⟩ := h
    obtain ⟨h1, h3⟩ := yAnd_t.mp h1
    refine ⟨λ _ => none, 1000, ?_⟩
    have h2 := @goalCln_ok
    unfold goalCln at h2
    exact @h2 nil n a b h1 h3
  . cases h)
theorem smCl (hm : Try.prog.follows .mixedOrders = true) (hs : SmOK Try.prog (smL lCl)) : SmCall Try.prog 36 (λ args h => (ctX [sEv] rCl fCl args h).sel) :=
 ctX_ok hm hs (λ ds r post h => by
  unfold fCl at h
  split at h
  . rename_i nil n kd th id at_ ok key val hi most rk rv nl pn pk pv
    simp only [sI, Prod.mk.injEq] at h
    obtain ⟨h1, rfl, rfl⟩ := h
    obtain ⟨h1, h3⟩ := yAnd_t.mp h1
    refine ⟨annCl ⟨kd, th, id, at_, ok, key, val, hi, most, rk, rv, nl, pn, pk, pv⟩ n, 1000, ?_⟩
    have h2 := @goalCl_ok
    unfold goalCl at h2
    revert h1 h3
    exact @h2 ⟨kd, th, id, at_, ok, key, val, hi, most, rk, rv, nl, pn, pk, pv⟩ nil n
  . cases h)
def bkP (E : EvS) (n i : Nat) (x : Int) : Bool := decide (1 <= x /\ x <= i /\ eOk E (gEv E n (x - 1).toNat) ≠ 4)
def bkG (x : Int) : Nat := (x - 1).toNat
def prBk (E : EvS) (n i : Nat) : Prop := i <= resN E n
def mBk (E : EvS) (n i : Nat) : Nat := resN E n - i
abbrev mpBk (E : EvS) (n i : Nat) : AO := .mapz .i64 13 (bkP E n i) (λ x => colF (colsG E n) (bkG x))
def annBk (E : EvS) (n : Nat) (b : Nat) : Option (St -> LoopA) :=
 match b with
 | 1000 => some λ _ => { ι := Nat, tms := [7], tmU := λ i => [.y .i64 (yInt i)], ids := [0], hpU := λ i => [mpBk E n i], del := [], ex := 0, pre := prBk E n, ms := mBk E n }
 | _ => none
def lBk : List (Nat × Sm) := [(36, .ct (ctX [sEv] rCl fCl))]
abbrev rBk : Sx := .mpz .i64 kCl
abbrev dBk (E : EvS) (n : Nat) : Dx := .m (bkP E n (resN E n)) bkG (colsG E n)
def goalBk : Prop := ∀ (E : EvS) (nil : Bool) (n : Nat), preE E n = true -> wfE E n = true -> wxH Try.prog (smL lBk) (annBk E n) 72 [sEv] [.rows nil n (colsE E)] rBk (dBk E n) []
def goalBk_0 (x : Int) (E : EvS) (n : Nat) (i : Nat) := yEq x (eId E (gEv E n (yNadd 0 (yNat (yInt i)))))
def goalBk_1 (E : EvS) (n : Nat) (x : Int) := cNil E (gEn E n (bkG x)) = cNil E (gEn E n (bkG x)) /\ cPn E (gEn E n (bkG x)) = cPn E (gEn E n (bkG x)) /\ ∀ (i : Nat), Nat.succ i <= cPn E (gEn E n (bkG x)) -> cPk E (gEn E n (bkG x)) i = cPk E (gEn E n (bkG x)) i /\ cPv E (gEn E n (bkG x)) i = cPv E (gEn E n (bkG x)) i /\ True
def goalBkV : Prop := (∀ (E : EvS) (nil : Bool) (n : Nat), preE E n = true -> wfE E n = true -> mst (yCol (CK.int .i64) n λ (i : Nat) => AV.y .i64 (eKd E i)) (mst (yCol (CK.int .i64) n λ (i : Nat) => AV.y .i64 (eTh E i)) (mst (yCol (CK.int .i64) n λ (i : Nat) => AV.y .i64 (eId E i)) (mst (yCol (CK.int .i64) n λ (i : Nat) => AV.y .i64 (eAt E i)) (mst (yCol (CK.int .i64) n λ (i : Nat) => AV.y .i64 (eOk E i)) (mst (yCol (CK.int .u64) n λ (i : Nat) => AV.y .u64 (eKey E i)) (mst (yCol (CK.int .u64) n λ (i : Nat) => AV.y .u64 (eVal E i)) (mst (yCol (CK.int .u64) n λ (i : Nat) => AV.y .u64 (eHi E i)) (mst (yCol (CK.int .i64) n λ (i : Nat) => AV.y .i64 (eMost E i)) (mst (yCol (CK.int .i64) n λ (i : Nat) => AV.y .i64 (eRk E i)) (mst (yCol (CK.int .u64) n λ (i : Nat) => AV.y .u64 (eRv E i)) (mst (yCol (CK.ls [K1.int .u64, K1.int .u64]) n λ (i : Nat) => AV.lst false (eNil E i) 2 (ePn E i) (cl2F [Cl2.int .u64 (ePk E), Cl2.int .u64 (ePv E)] i)) (mst (yAnd (preE E n) (wfE E n)) (true = true /\ (∃ (i0 : Nat), prBk E n i0 /\ true = true /\ yInt i0 = (0 : Int) /\ (∀ (x : Int), bkP E n i0 x = false) /\ true = true) /\ ∀ (g : Nat -> AV) (i : Nat), prBk E n i -> (yLt (yInt i) (yInt (resN E n)) = true -> mst (yIn (yInt i) (resN E n)) (mst (yNlt (yNadd 0 (yNat (yInt i))) (resN E n)) ((yNot (yEq (eOk E (gEv E n (yNadd 0 (yNat (yInt i))))) 4) = true -> true = true /\ ∃ (i' : Nat), prBk E n i' /\ Nat.succ (mBk E n i') <= mBk E n i /\ true = true /\ yInt i' = yWrap .i64 (yAdd (yInt i) 1) /\ (∀ (x : Int), bkP E n i' x = yOr (goalBk_0 x E n i) (bkP E n i x) /\ (bkP E n i' x = true -> eId E (gEv E n (bkG x)) = ySel (goalBk_0 x E n i) (eId E (gEv E n (yNadd 0 (yNat (yInt i))))) (eId E (gEv E n (bkG x))) /\ eTh E (gEv E n (bkG x)) = ySel (goalBk_0 x E n i) (eTh E (gEv E n (yNadd 0 (yNat (yInt i))))) (eTh E (gEv E n (bkG x))) /\ eOk E (gEv E n (bkG x)) = ySel (goalBk_0 x E n i) (eOk E (gEv E n (yNadd 0 (yNat (yInt i))))) (eOk E (gEv E n (bkG x))) /\ eKey E (gEv E n (bkG x)) = ySel (goalBk_0 x E n i) (eKey E (gEv E n (yNadd 0 (yNat (yInt i))))) (eKey E (gEv E n (bkG x))) /\ eVal E (gEv E n (bkG x)) = ySel (goalBk_0 x E n i) (eVal E (gEv E n (yNadd 0 (yNat (yInt i))))) (eVal E (gEv E n (bkG x))) /\ eHi E (gEv E n (bkG x)) = ySel (goalBk_0 x E n i) (eHi E (gEv E n (yNadd 0 (yNat (yInt i))))) (eHi E (gEv E n (bkG x))) /\ eMost E (gEv E n (bkG x)) = ySel (goalBk_0 x E n i) (eMost E (gEv E n (yNadd 0 (yNat (yInt i))))) (eMost E (gEv E n (bkG x))) /\ eAt E (gEv E n (bkG x)) = ySel (goalBk_0 x E n i) (eAt E (gEv E n (yNadd 0 (yNat (yInt i))))) (eAt E (gEv E n (bkG x))) /\ cTo E (gEn E n (bkG x)) = ySel (goalBk_0 x E n i) (cTo E (gEn E n (yNadd 0 (yNat (yInt i))))) (cTo E (gEn E n (bkG x))) /\ cOv (gEn E n (bkG x)) = ySelB (goalBk_0 x E n i) (cOv (gEn E n (yNadd 0 (yNat (yInt i))))) (cOv (gEn E n (bkG x))) /\ cRk E (gEn E n (bkG x)) = ySel (goalBk_0 x E n i) (cRk E (gEn E n (yNadd 0 (yNat (yInt i))))) (cRk E (gEn E n (bkG x))) /\ cRv E (gEn E n (bkG x)) = ySel (goalBk_0 x E n i) (cRv E (gEn E n (yNadd 0 (yNat (yInt i))))) (cRv E (gEn E n (bkG x))) /\ (cNil E (gEn E n (bkG x)) = ySelB (goalBk_0 x E n i) (cNil E (gEn E n (yNadd 0 (yNat (yInt i))))) (cNil E (gEn E n (bkG x))) /\ cPn E (gEn E n (bkG x)) = ySelN (goalBk_0 x E n i) (cPn E (gEn E n (yNadd 0 (yNat (yInt i))))) (cPn E (gEn E n (bkG x))) /\ ∀ (i_1 : Nat), Nat.succ i_1 <= cPn E (gEn E n (bkG x)) -> cPk E (gEn E n (bkG x)) i_1 = ySel (goalBk_0 x E n i) (cPk E (gEn E n (yNadd 0 (yNat (yInt i)))) i_1) (cPk E (gEn E n (bkG x)) i_1) /\ cPv E (gEn E n (bkG x)) i_1 = ySel (goalBk_0 x E n i) (cPv E (gEn E n (yNadd 0 (yNat (yInt i)))) i_1) (cPv E (gEn E n (bkG x)) i_1) /\ True) /\ True)) /\ true = true) /\ (yNot (yEq (eOk E (gEv E n (yNadd 0 (yNat (yInt i))))) 4) = false -> true = true /\ ∃ (i' : Nat), prBk E n i' /\ Nat.succ (mBk E n i') <= mBk E n i /\ true = true /\ yInt i' = yWrap .i64 (yAdd (yInt i) 1) /\ (∀ (x : Int), bkP E n i' x = bkP E n i x /\ (bkP E n i' x = true -> eId E (gEv E n (bkG x)) = eId E (gEv E n (bkG x)) /\ eTh E (gEv E n (bkG x)) = eTh E (gEv E n (bkG x)) /\ eOk E (gEv E n (bkG x)) = eOk E (gEv E n (bkG x)) /\ eKey E (gEv E n (bkG x)) = eKey E (gEv E n (bkG x)) /\ eVal E (gEv E n (bkG x)) = eVal E (gEv E n (bkG x)) /\ eHi E (gEv E n (bkG x)) = eHi E (gEv E n (bkG x)) /\ eMost E (gEv E n (bkG x)) = eMost E (gEv E n (bkG x)) /\ eAt E (gEv E n (bkG x)) = eAt E (gEv E n (bkG x)) /\ cTo E (gEn E n (bkG x)) = cTo E (gEn E n (bkG x)) /\ cOv (gEn E n (bkG x)) = cOv (gEn E n (bkG x)) /\ cRk E (gEn E n (bkG x)) = cRk E (gEn E n (bkG x)) /\ cRv E (gEn E n (bkG x)) = cRv E (gEn E n (bkG x)) /\ (goalBk_1 E n x) /\ True)) /\ true = true)))) /\ (yLt (yInt i) (yInt (resN E n)) = false -> (∀ (x : Int), bkP E n (resN E n) x = bkP E n i x /\ (bkP E n (resN E n) x = true -> eId E (gEv E n (bkG x)) = eId E (gEv E n (bkG x)) /\ eTh E (gEv E n (bkG x)) = eTh E (gEv E n (bkG x)) /\ eOk E (gEv E n (bkG x)) = eOk E (gEv E n (bkG x)) /\ eKey E (gEv E n (bkG x)) = eKey E (gEv E n (bkG x)) /\ eVal E (gEv E n (bkG x)) = eVal E (gEv E n (bkG x)) /\ eHi E (gEv E n (bkG x)) = eHi E (gEv E n (bkG x)) /\ eMost E (gEv E n (bkG x)) = eMost E (gEv E n (bkG x)) /\ eAt E (gEv E n (bkG x)) = eAt E (gEv E n (bkG x)) /\ cTo E (gEn E n (bkG x)) = cTo E (gEn E n (bkG x)) /\ cOv (gEn E n (bkG x)) = cOv (gEn E n (bkG x)) /\ cRk E (gEn E n (bkG x)) = cRk E (gEn E n (bkG x)) /\ cRv E (gEn E n (bkG x)) = cRv E (gEn E n (bkG x)) /\ (goalBk_1 E n x) /\ True)) /\ true = true)))))))))))))))
theorem goalBk_eq : goalBk = goalBkV := by kernel_rfl
theorem gIdS (E : EvS) : ∀ i, ∀ j, j < (gS E i).n -> eId E ((gS E i).ev j) = (j : Int) + 1
 | 0, j, hj => absurd hj (Nat.not_lt_zero _)
 | i + 1, j, hj => by
   have ih := gIdS E i
   revert hj
   show j < (bif (gS E i).ok then gs1 E i (gS E i) else gS E i).n -> eId E ((bif (gS E i).ok then gs1 E i (gS E i) else gS E i).ev j) = (j : Int) + 1
   cases hok : (gS E i).ok with
   | false => exact ih j
   | true =>
     rw [cond_true]
     rcases gs1_cases E i (gS E i) with h | ⟨h2, h1, h3⟩ | ⟨h3, h1, h4⟩
     . rw [h]; exact ih j
     . rw [gs1_t2 h1 h2 h3]
       intro hj
       show eId E (if j = (gS E i).n then i else (gS E i).ev j) = (j : Int) + 1
       by_cases hjn : j = (gS E i).n
       . rw [if_pos hjn, hjn]
         exact Classical.byContradiction λ hc => h3 (.inr (.inl hc))
       . rw [if_neg hjn]
         have hj : j < (gS E i).n + 1 := hj
         exact ih j (by omega)
     . rw [gs1_t3 h1 (by omega) h3 h4]; exact ih j
theorem gId {E : EvS} {i j : Nat} (h : j < gN E i) : eId E (gEv E i j) = (j : Int) + 1 := gIdS E i j h
theorem bkP_hit {E : EvS} {n i : Nat} (h : eOk E (gEv E n i) ≠ 4) (x : Int) : bkP E n (i + 1) x = yOr (yEq x ((i : Int) + 1)) (bkP E n i x) := by
 unfold bkP
 by_cases hx : x = (i : Int) + 1
 . rw [show yEq x ((i : Int) + 1) = true from decide_eq_true hx]
   have : (x - 1).toNat = i := by omega
   rw [this]
   show decide _ = true
   rw [decide_eq_true_eq]
   exact ⟨by omega, by omega, h⟩
 . rw [show yEq x ((i : Int) + 1) = false from decide_eq_false hx]
   show _ = decide _
   rw [decide_eq_decide]
   constructor
   . rintro ⟨h1, h2, h3⟩; exact ⟨h1, by omega, h3⟩
   . rintro ⟨h1, h2, h3⟩; exact ⟨h1, by omega, h3⟩
theorem bkP_miss {E : EvS} {n i : Nat} (h : eOk E (gEv E n i) = 4) (x : Int) : bkP E n (i + 1) x = bkP E n i x := by
 unfold bkP
 rw [decide_eq_decide]
 constructor
 . rintro ⟨h1, h2, h3⟩
   refine ⟨h1, Classical.byContradiction λ hc => ?_, h3⟩
   have : (x - 1).toNat = i := by omega
   rw [this] at h3
   exact h3 h
 . rintro ⟨h1, h2, h3⟩; exact ⟨h1, by omega, h3⟩
theorem goalBk_ok : goalBk := by
 refine @kernel_go _ _ goalBk_eq ?_
 unfold goalBkV goalBk_1 goalBk_0
 intro E nil n hpre hwf
 have hcol : ∀ m, yCol (.ls [.int .u64, .int .u64]) m (λ i => AV.lst false (eNil E i) 2 (ePn E i) (cl2F [Cl2.int .u64 (ePk E), Cl2.int .u64 (ePv E)] i)) = true := λ m => yCol_ok.2 λ i _ => List.all_eq_true.2 λ p _ => rfl
 simp only [hpre, hwf, hcol, vS, forall_const, reduceCtorEq]
 have hm : ∀ i, i < resN E n -> (mBk E n (i + 1)).succ <= mBk E n i := λ i hi => by unfold mBk; omega
 have hres : ∀ i, i < resN E n -> i < gN E n := λ i hi => by
  unfold resN at hi
  cases h : gOk E n <;> rw [h] at hi
  . exact absurd hi (Nat.not_lt_zero _)
  . exact hi
 have hrn : resN E n <= 200 := by
  have h1 := (gInv E n).le
  have h1 : gN E n <= n := h1
  have h2 := (of_decide_eq_true hpre).1
  unfold resN
  cases gOk E n <;> simp <;> omega
 refine ⟨⟨⟨0, Nat.zero_le _, rfl, λ x => ?_⟩, λ _ i hi => ⟨λ hlt => ⟨λ hb => ⟨λ hlt2 => ⟨λ h4 => ?_, λ h4 => ?_⟩, λ h => ?_⟩, λ h => ?_⟩, λ hge => ?_⟩⟩, λ h => h.elim id id⟩
 . unfold bkP; rw [decide_eq_false_iff_not]; rintro ⟨h1, h2, _⟩; omega
 . have hid : eId E (gEv E n i) = (i : Int) + 1 := gId (hres i hlt2)
   refine ⟨i + 1, hlt2, hm i hlt2, by rw [wrap64 (by omega) (by omega)]; omega, λ x => ⟨by rw [hid]; exact bkP_hit h4 x, λ _ => ?_⟩⟩
   rw [hid]
   by_cases hx : x = (i : Int) + 1
   . have hg : bkG x = i := by unfold bkG; omega
     rw [show yEq x ((i : Int) + 1) = true from decide_eq_true hx, hg]
     refine ⟨hid, rfl, rfl, rfl, rfl, rfl, rfl, rfl, rfl, rfl, rfl, rfl, rfl, rfl, λ _ _ => ⟨rfl, rfl⟩⟩
   . rw [show yEq x ((i : Int) + 1) = false from decide_eq_false hx]
     refine ⟨rfl, rfl, rfl, rfl, rfl, rfl, rfl, rfl, rfl, rfl, rfl, rfl, rfl, rfl, λ _ _ => ⟨rfl, rfl⟩⟩
 . exact ⟨i + 1, hlt2, hm i hlt2, by rw [wrap64 (by omega) (by omega)]; omega, λ x => ⟨bkP_miss h4 x, λ _ _ _ => trivial⟩⟩
 . omega
 . exact h ⟨by omega, hlt⟩
 . have hi : i <= resN E n := hi
   obtain rfl : i = resN E n := by omega
   exact λ x => ⟨rfl, λ _ _ _ => trivial⟩
def fBk (ds : List Dx) : Option (Bool × Dx × List (List Dx)) :=
 match ds with
 | [.rows _ n [.int .i64 kd, .int .i64 th, .int .i64 id, .int .i64 at_, .int .i64 ok, .int .u64 key, .int .u64 val, .int .u64 hi, .int .i64 most, .int .i64 rk, .int .u64 rv, .ls nl pn [.int .u64 pk, .int .u64 pv]]] => some (yAnd (preE ⟨kd, th, id, at_, ok, key, val, hi, most, rk, rv, nl, pn, pk, pv⟩ n) (wfE ⟨kd, th, id, at_, ok, key, val, hi, most, rk, rv, nl, pn, pk, pv⟩ n), dBk ⟨kd, th, id, at_, ok, key, val, hi, most, rk, rv, nl, pn, pk, pv⟩ n, [])
 | _ => none
theorem smBk (hm : Try.prog.follows .mixedOrders = true) (hs : SmOK Try.prog (smL lBk)) : SmCall Try.prog 72 (λ args h => (ctX [sEv] rBk fBk args h).sel) :=
 ctX_ok hm hs (λ ds r post h => by
  unfold fBk at h
  split at h
  . rename_i nil n kd th id at_ ok key val hi most rk rv nl pn pk pv
    simp only [sI, Prod.mk.injEq] at h
    obtain ⟨h1, rfl, rfl⟩ := h
    obtain ⟨h1, h3⟩ := yAnd_t.mp h1
    refine ⟨annBk ⟨kd, th, id, at_, ok, key, val, hi, most, rk, rv, nl, pn, pk, pv⟩ n, 1000, ?_⟩
    have h2 := @goalBk_ok
    unfold goalBk at h2
    revert h1 h3
    exact @h2 ⟨kd, th, id, at_, ok, key, val, hi, most, rk, rv, nl, pn, pk, pv⟩ nil n
  . cases h)
abbrev kMk : List CK := [.int .i64, .int .u64, .int .u64]
def effB (n : Nat) (mk : Nat -> Int) : Bool := decide (∃ j, j < n /\ mk j = 12)
def prEf (n : Nat) (mk : Nat -> Int) (i : Nat) : Prop := i <= n /\ ∀ j, j < i -> mk j ≠ 12
def mEf (n i : Nat) : Nat := n - i
def annEf (t : Nat) (n : Nat) (mk : Nat -> Int) (b : Nat) : Option (St -> LoopA) :=
 match b with
 | 0 => some λ _ => { ι := Nat, tms := [t], tmU := λ i => [.y .i64 (yInt i)], ids := [], hpU := λ _ => [], del := [], ex := 0, pre := prEf n mk, ms := mEf n }
 | _ => none
abbrev sStp : Sx := .agg [.sc, .sc, .sc, .sc, .sc, .sc, .pl kMk]
abbrev dStp (th ak aat old new got : Int) (nil : Bool) (n : Nat) (mk ma mb : Nat -> Int) : Dx := .l [.v (.y .i64 th), .v (.y .i64 ak), .v (.y .i64 aat), .v (.y .u64 old), .v (.y .u64 new), .v (.y .u64 got), .rows nil n [.int .i64 mk, .int .u64 ma, .int .u64 mb]]
def fEf (ds : List Dx) : Option (Bool × Dx × List (List Dx)) :=
 match ds with
 | [.l [.v (.y .i64 _), .v (.y .i64 _), .v (.y .i64 _), .v (.y .u64 _), .v (.y .u64 _), .v (.y .u64 _), .rows _ n [.int .i64 mk, .int .u64 _, .int .u64 _]]] => some (yNle n 1000000, .v (.yb (effB n mk)), [])
 | _ => none
def goalEf : Prop := ∀ (th ak aat old new got : Int) (nil : Bool) (n : Nat) (mk ma mb : Nat -> Int), yNle n 1000000 = true -> wxH Try.prog noSm (annEf 8 n mk) 71 [sStp] [dStp th ak aat old new got nil n mk ma mb] .sc (.v (.yb (effB n mk))) []
def goalEfR : Prop := ∀ (th ak aat old new got : Int) (nil : Bool) (n : Nat) (mk ma mb : Nat -> Int), yNle n 1000000 = true -> wxH Try.prog noSm (annEf 3 n mk) 63 [sStp] [dStp th ak aat old new got nil n mk ma mb] .sc (.v (.yb (effB n mk))) []
theorem goalEf_eq : goalEf = (∀ (th ak aat old new got : Int) (nil : Bool) (n : Nat) (mk ma mb : Nat -> Int), yNle n (nat_lit 1000000) = true -> true = true /\ (∃ (i0 : Nat), prEf n mk i0 /\ true = true /\ yInt i0 = (0 : Int) /\ true = true) /\ ∀ (g : Nat -> AV) (i : Nat), prEf n mk i -> (yLt (yInt i) (yInt n) = true -> (yIn (yInt i) n = true -> (yEq (mk (yNat (yInt i))) (12 : Int) = true -> effB n mk = true /\ true = true) /\ (yEq (mk (yNat (yInt i))) (12 : Int) = false -> true = true /\ ∃ (i' : Nat), prEf n mk i' /\ Nat.succ (mEf n i') <= mEf n i /\ true = true /\ yInt i' = yWrap .i64 (yAdd (yInt i) 1) /\ true = true)) /\ (yIn (yInt i) n = false -> False)) /\ (yLt (yInt i) (yInt n) = false -> effB n mk = false /\ true = true)) := by kernel_rfl
theorem goalEfR_eq : goalEfR = (∀ (th ak aat old new got : Int) (nil : Bool) (n : Nat) (mk ma mb : Nat -> Int), yNle n (nat_lit 1000000) = true -> true = true /\ (∃ (i0 : Nat), prEf n mk i0 /\ true = true /\ yInt i0 = (0 : Int) /\ true = true) /\ ∀ (g : Nat -> AV) (i : Nat), prEf n mk i -> (yLt (yInt i) (yInt n) = true -> (yIn (yInt i) n = true -> (yEq (mk (yNat (yInt i))) (12 : Int) = true -> effB n mk = true /\ true = true) /\ (yEq (mk (yNat (yInt i))) (12 : Int) = false -> true = true /\ ∃ (i' : Nat), prEf n mk i' /\ Nat.succ (mEf n i') <= mEf n i /\ true = true /\ yInt i' = yWrap .i64 (yAdd (yInt i) 1) /\ true = true)) /\ (yIn (yInt i) n = false -> False)) /\ (yLt (yInt i) (yInt n) = false -> effB n mk = false /\ true = true)) := by kernel_rfl
theorem goalEf_vc : (∀ (th ak aat old new got : Int) (nil : Bool) (n : Nat) (mk ma mb : Nat -> Int), yNle n (nat_lit 1000000) = true -> true = true /\ (∃ (i0 : Nat), prEf n mk i0 /\ true = true /\ yInt i0 = (0 : Int) /\ true = true) /\ ∀ (g : Nat -> AV) (i : Nat), prEf n mk i -> (yLt (yInt i) (yInt n) = true -> (yIn (yInt i) n = true -> (yEq (mk (yNat (yInt i))) (12 : Int) = true -> effB n mk = true /\ true = true) /\ (yEq (mk (yNat (yInt i))) (12 : Int) = false -> true = true /\ ∃ (i' : Nat), prEf n mk i' /\ Nat.succ (mEf n i') <= mEf n i /\ true = true /\ yInt i' = yWrap .i64 (yAdd (yInt i) 1) /\ true = true)) /\ (yIn (yInt i) n = false -> False)) /\ (yLt (yInt i) (yInt n) = false -> effB n mk = false /\ true = true)) := by
 intro _ _ _ _ _ _ _ n mk _ _ hn
 simp only [vS, forall_const, and_true] at hn ⊢
 refine ⟨⟨0, ⟨Nat.zero_le _, λ j hj => absurd hj (Nat.not_lt_zero _)⟩, rfl⟩, λ _ i hi => ⟨λ hlt => ⟨λ _ => ⟨λ h12 => ?_, λ h12 => ?_⟩, λ h => ?_⟩, λ hge => ?_⟩⟩
 . exact decide_eq_true ⟨i, by omega, h12⟩
 . refine ⟨i + 1, ⟨by omega, λ j hj => ?_⟩, by unfold mEf; omega, by rw [wrap64 (by omega) (by omega)]; omega⟩
   rcases Nat.lt_succ_iff_lt_or_eq.1 hj with h | rfl
   . exact hi.2 j h
   . exact h12
 . omega
 . refine decide_eq_false ?_
   rintro ⟨j, h1, h2⟩
   exact hi.2 j (by omega) h2
theorem goalEf_ok : goalEf := by
 refine @kernel_go _ _ goalEf_eq ?_
 exact goalEf_vc
theorem goalEfR_ok : goalEfR := by
 refine @kernel_go _ _ goalEfR_eq ?_
 exact goalEf_vc
theorem smEfA {f : FuncId} {t : Nat} (hm : Try.prog.follows .mixedOrders = true) (hg : ∀ (th ak aat old new got : Int) (nil : Bool) (n : Nat) (mk ma mb : Nat -> Int), yNle n 1000000 = true -> wxH Try.prog noSm (annEf t n mk) f [sStp] [dStp th ak aat old new got nil n mk ma mb] .sc (.v (.yb (effB n mk))) []) :
 SmCall Try.prog f (λ args h => (ctX [sStp] .sc fEf args h).sel) :=
 ctX_ok hm noSm_ok (λ ds r post h => by
  unfold fEf at h
  split at h
  . rename_i th ak aat old new got nil n mk ma mb
    simp only [sI, Prod.mk.injEq] at h
    obtain ⟨h1, rfl, rfl⟩ := h
    exact ⟨annEf t n mk, 1000, hg th ak aat old new got nil n mk ma mb h1⟩
  . cases h)
theorem smEf (hm : Try.prog.follows .mixedOrders = true) : SmCall Try.prog 71 (λ args h => (ctX [sStp] .sc fEf args h).sel) := smEfA (t := 8) hm (by have h := @goalEf_ok; unfold goalEf at h; exact @h)
theorem smEfR (hm : Try.prog.follows .mixedOrders = true) : SmCall Try.prog 63 (λ args h => (ctX [sStp] .sc fEf args h).sel) := smEfA (t := 3) hm (by have h := @goalEfR_ok; unfold goalEfR at h; exact @h)
structure StS where
 th : Nat -> Int
 ak : Nat -> Int
 at_ : Nat -> Int
 old : Nat -> Int
 new : Nat -> Int
 got : Nat -> Int
 nil : Nat -> Bool
 mn : Nat -> Nat
 kk : Nat -> Nat -> Int
 ma : Nat -> Nat -> Int
 mb : Nat -> Nat -> Int
instance : Inhabited StS := ⟨⟨λ _ => 0, λ _ => 0, λ _ => 0, λ _ => 0, λ _ => 0, λ _ => 0, λ _ => true, λ _ => 0, λ _ _ => 0, λ _ _ => 0, λ _ _ => 0⟩⟩
def sTh (S : StS) (i : Nat) : Int := S.th i
def sAk (S : StS) (i : Nat) : Int := S.ak i
def sAt (S : StS) (i : Nat) : Int := S.at_ i
def sOld (S : StS) (i : Nat) : Int := S.old i
def sNew (S : StS) (i : Nat) : Int := S.new i
def sGot (S : StS) (i : Nat) : Int := S.got i
def sNil (S : StS) (i : Nat) : Bool := S.nil i
def sMn (S : StS) (i : Nat) : Nat := S.mn i
def sMk (S : StS) (i j : Nat) : Int := S.kk i j
def sMa (S : StS) (i j : Nat) : Int := S.ma i j
def sMb (S : StS) (i j : Nat) : Int := S.mb i j
abbrev kSt : List CK := [.int .i64, .int .i64, .int .i64, .int .u64, .int .u64, .int .u64, .ls [.int .i64, .int .u64, .int .u64]]
abbrev colsS (S : StS) : List Col := [.int .i64 (sTh S), .int .i64 (sAk S), .int .i64 (sAt S), .int .u64 (sOld S), .int .u64 (sNew S), .int .u64 (sGot S), .ls (sNil S) (sMn S) [.int .i64 (sMk S), .int .u64 (sMa S), .int .u64 (sMb S)]]
abbrev sSts : Sx := .pl kSt
def whB (E : EvS) (n : Nat) (th t : Int) (j : Nat) : Bool := decide (eTh E (gEv E n j) = th /\ eAt E (gEv E n j) <= t /\ (cOv (gEn E n j) = false ∨ t <= cTo E (gEn E n j)))
def whF (E : EvS) (n : Nat) (th t : Int) : Option Nat := (List.range (resN E n)).find? (whB E n th t)
def efL (E : EvS) (n : Nat) (S : StS) (m : Nat) : List Int := (List.range m).filterMap λ (t : Nat) => if effB (sMn S t) (sMk S t) = true then (whF E n (sTh S t) t).map (λ j => eId E (gEv E n j)) else none
def rI (L : List Int) (j : Nat) : Int := L[j]?.getD 0
def rL (L : List Int) : Nat := L.length
abbrev slI (id : Nat) (L : List Int) : AV := .ysl false (yNeq (rL L) 0) id 1 0 (rL L)
abbrev arI (L : List Int) : AO := .arr false 3 1 (rL L) (colF [.int .i64 (rI L)])
def prEs (E : EvS) (m i : Nat) : Prop := i <= m
def mEs (m i : Nat) : Nat := m - i
def prWh (E : EvS) (n : Nat) (th t : Int) (b : Nat) : Prop := b <= resN E n /\ ∀ j, j < b -> whB E n th t j = false
def mWh (E : EvS) (n b : Nat) : Nat := resN E n - b
def yAt (s : St) (t : Nat) : Int := match s.tm.get (t + 1) with | some (.y _ n) => n | _ => 0
def annEs (E : EvS) (n : Nat) (S : StS) (m : Nat) (b : Nat) : Option (St -> LoopA) :=
 match b with
 | 0 => some λ _ => { ι := Nat, tms := [5, 15], tmU := λ i => [slI 1 (efL E n S i), .y .i64 (yInt i)], ids := [1], hpU := λ i => [arI (efL E n S i)], del := [], ex := 1, pre := prEs E m, ms := mEs m }
 | 1 => some λ z => { ι := Nat, tms := [5, 25], tmU := λ i => [evT z.tm (.tmp 5), .y .i64 (yInt i)], ids := [], hpU := λ _ => [], del := [], ex := 0, pre := prWh E n (sTh S (yNat (yAt z 15))) (yAt z 15), ms := mWh E n }
 | _ => none
def preS (S : StS) (m : Nat) : Bool := decide (m <= 1000000 /\ ∀ i, i < m -> sMn S i <= 1000000)
def lEs : List (Nat × Sm) := [(36, .ct (ctX [sEv] rCl fCl)), (71, .ct (ctX [sStp] .sc fEf))]
abbrev rEs : Sx := .own 3 [.int .i64]
abbrev dEs (E : EvS) (n : Nat) (S : StS) (m : Nat) : Dx := .rows (yNeq (rL (efL E n S m)) 0) (rL (efL E n S m)) [.int .i64 (rI (efL E n S m))]
def goalEs : Prop := ∀ (E : EvS) (nil : Bool) (n : Nat) (S : StS) (nilS : Bool) (m : Nat), preE E n = true -> wfE E n = true -> preS S m = true -> wxH Try.prog (smL lEs) (annEs E n S m) 49 [sEv, sSts] [.rows nil n (colsE E), .rows nilS m (colsS S)] rEs (dEs E n S m) []
def goalEs_0 (E : EvS) (n : Nat) (S : StS) (i : Nat) (m : Nat) (i_1 : Nat) := mst (yGrow (yNadd (rL (efL E n S i)) 1) 8) (true = true /\ ∃ (i' : Nat), prEs E m i' /\ Nat.succ (mEs m i') <= mEs m i /\ true = true /\ yNeq (rL (efL E n S i')) (nat_lit 0) = yAnd (yNeq (rL (efL E n S i)) 0) (yNeq 1 0) /\ nat_lit 0 = nat_lit 0 /\ rL (efL E n S i') = yNadd (rL (efL E n S i)) 1 /\ yInt i' = yWrap .i64 (yAdd (yInt i) 1) /\ rL (efL E n S i') = yNadd (rL (efL E n S i)) 1 /\ (∀ (i_2 : Nat), Nat.succ i_2 <= rL (efL E n S i') -> rI (efL E n S i') i_2 = ySel (yNlt i_2 (rL (efL E n S i))) (rI (efL E n S i) i_2) (eId E (gEv E n (yNadd 0 (yNat (yInt i_1))))) /\ True) /\ true = true)
def goalEsV : Prop := (∀ (E : EvS) (nil : Bool) (n : Nat) (S : StS) (nilS : Bool) (m : Nat), preE E n = true -> wfE E n = true -> preS S m = true -> mst (yCol (CK.int .i64) n λ (i : Nat) => AV.y .i64 (eKd E i)) (mst (yCol (CK.int .i64) n λ (i : Nat) => AV.y .i64 (eTh E i)) (mst (yCol (CK.int .i64) n λ (i : Nat) => AV.y .i64 (eId E i)) (mst (yCol (CK.int .i64) n λ (i : Nat) => AV.y .i64 (eAt E i)) (mst (yCol (CK.int .i64) n λ (i : Nat) => AV.y .i64 (eOk E i)) (mst (yCol (CK.int .u64) n λ (i : Nat) => AV.y .u64 (eKey E i)) (mst (yCol (CK.int .u64) n λ (i : Nat) => AV.y .u64 (eVal E i)) (mst (yCol (CK.int .u64) n λ (i : Nat) => AV.y .u64 (eHi E i)) (mst (yCol (CK.int .i64) n λ (i : Nat) => AV.y .i64 (eMost E i)) (mst (yCol (CK.int .i64) n λ (i : Nat) => AV.y .i64 (eRk E i)) (mst (yCol (CK.int .u64) n λ (i : Nat) => AV.y .u64 (eRv E i)) (mst (yCol (CK.ls [K1.int .u64, K1.int .u64]) n λ (i : Nat) => AV.lst false (eNil E i) 2 (ePn E i) (cl2F [Cl2.int .u64 (ePk E), Cl2.int .u64 (ePv E)] i)) (mst (yAnd (preE E n) (wfE E n)) (true = true /\ (∃ (i0 : Nat), prEs E m i0 /\ true = true /\ yNeq (rL (efL E n S i0)) (nat_lit 0) = true /\ rL (efL E n S i0) = nat_lit 0 /\ yInt i0 = (0 : Int) /\ rL (efL E n S i0) = nat_lit 0 /\ true = true /\ true = true) /\ ∀ (g : Nat -> AV) (i : Nat), prEs E m i -> (yLt (yInt i) (yInt m) = true -> mst (yIn (yInt i) m) (mst (yCol (CK.int .i64) (sMn S (yNat (yInt i))) λ (i_1 : Nat) => AV.y .i64 (sMk S (yNat (yInt i)) i_1)) (mst (yCol (CK.int .u64) (sMn S (yNat (yInt i))) λ (i_1 : Nat) => AV.y .u64 (sMa S (yNat (yInt i)) i_1)) (mst (yCol (CK.int .u64) (sMn S (yNat (yInt i))) λ (i_1 : Nat) => AV.y .u64 (sMb S (yNat (yInt i)) i_1)) (mst (yNle (sMn S (yNat (yInt i))) 1000000) ((yNot (effB (sMn S (yNat (yInt i))) λ (i_1 : Nat) => sMk S (yNat (yInt i)) i_1) = true -> true = true /\ ∃ (i' : Nat), prEs E m i' /\ Nat.succ (mEs m i') <= mEs m i /\ true = true /\ yNeq (rL (efL E n S i')) (nat_lit 0) = yNeq (rL (efL E n S i)) 0 /\ nat_lit 0 = nat_lit 0 /\ rL (efL E n S i') = rL (efL E n S i) /\ yInt i' = yWrap .i64 (yAdd (yInt i) 1) /\ rL (efL E n S i') = rL (efL E n S i) /\ (∀ (i_1 : Nat), Nat.succ i_1 <= rL (efL E n S i') -> rI (efL E n S i') i_1 = rI (efL E n S i) i_1 /\ True) /\ true = true) /\ (yNot (effB (sMn S (yNat (yInt i))) λ (i_1 : Nat) => sMk S (yNat (yInt i)) i_1) = false -> true = true /\ (∃ (i0 : Nat), prWh E n (sTh S (yNat (yInt i))) (yInt i) i0 /\ true = true /\ yNeq (rL (efL E n S i)) (nat_lit 0) = yNeq (rL (efL E n S i)) 0 /\ nat_lit 0 = nat_lit 0 /\ rL (efL E n S i) = rL (efL E n S i) /\ yInt i0 = (0 : Int) /\ true = true) /\ ∀ (g : Nat -> AV) (i_1 : Nat), prWh E n (sTh S (yNat (yInt i))) (yInt i) i_1 -> (yLt (yInt i_1) (yInt (resN E n)) = true -> mst (yIn (yInt i_1) (resN E n)) (mst (yNlt (yNadd 0 (yNat (yInt i_1))) (resN E n)) ((yEq (eTh E (gEv E n (yNadd 0 (yNat (yInt i_1))))) (sTh S (yNat (yInt i))) = true -> (yLe (eAt E (gEv E n (yNadd 0 (yNat (yInt i_1))))) (yInt i) = true -> (yNot (cOv (gEn E n (yNadd 0 (yNat (yInt i_1))))) = true -> mst (yNeq (rL (efL E n S i)) (rL (efL E n S i))) (goalEs_0 E n S i m i_1)) /\ (yNot (cOv (gEn E n (yNadd 0 (yNat (yInt i_1))))) = false -> (yLe (yInt i) (cTo E (gEn E n (yNadd 0 (yNat (yInt i_1))))) = true -> mst (yNeq (rL (efL E n S i)) (rL (efL E n S i))) (goalEs_0 E n S i m i_1)) /\ (yLe (yInt i) (cTo E (gEn E n (yNadd 0 (yNat (yInt i_1))))) = false -> true = true /\ ∃ (i' : Nat), prWh E n (sTh S (yNat (yInt i))) (yInt i) i' /\ Nat.succ (mWh E n i') <= mWh E n i_1 /\ true = true /\ yNeq (rL (efL E n S i)) (nat_lit 0) = yNeq (rL (efL E n S i)) 0 /\ nat_lit 0 = nat_lit 0 /\ rL (efL E n S i) = rL (efL E n S i) /\ yInt i' = yWrap .i64 (yAdd (yInt i_1) 1) /\ true = true))) /\ (yLe (eAt E (gEv E n (yNadd 0 (yNat (yInt i_1))))) (yInt i) = false -> true = true /\ ∃ (i' : Nat), prWh E n (sTh S (yNat (yInt i))) (yInt i) i' /\ Nat.succ (mWh E n i') <= mWh E n i_1 /\ true = true /\ yNeq (rL (efL E n S i)) (nat_lit 0) = yNeq (rL (efL E n S i)) 0 /\ nat_lit 0 = nat_lit 0 /\ rL (efL E n S i) = rL (efL E n S i) /\ yInt i' = yWrap .i64 (yAdd (yInt i_1) 1) /\ true = true)) /\ (yEq (eTh E (gEv E n (yNadd 0 (yNat (yInt i_1))))) (sTh S (yNat (yInt i))) = false -> true = true /\ ∃ (i' : Nat), prWh E n (sTh S (yNat (yInt i))) (yInt i) i' /\ Nat.succ (mWh E n i') <= mWh E n i_1 /\ true = true /\ yNeq (rL (efL E n S i)) (nat_lit 0) = yNeq (rL (efL E n S i)) 0 /\ nat_lit 0 = nat_lit 0 /\ rL (efL E n S i) = rL (efL E n S i) /\ yInt i' = yWrap .i64 (yAdd (yInt i_1) 1) /\ true = true)))) /\ (yLt (yInt i_1) (yInt (resN E n)) = false -> true = true /\ ∃ (i' : Nat), prEs E m i' /\ Nat.succ (mEs m i') <= mEs m i /\ true = true /\ yNeq (rL (efL E n S i')) (nat_lit 0) = yNeq (rL (efL E n S i)) 0 /\ nat_lit 0 = nat_lit 0 /\ rL (efL E n S i') = rL (efL E n S i) /\ yInt i' = yWrap .i64 (yAdd (yInt i) 1) /\ rL (efL E n S i') = rL (efL E n S i) /\ (∀ (i_2 : Nat), Nat.succ i_2 <= rL (efL E n S i') -> rI (efL E n S i') i_2 = rI (efL E n S i) i_2 /\ True) /\ true = true)))))))) /\ (yLt (yInt i) (yInt m) = false -> yNeq (rL (efL E n S m)) (nat_lit 0) = yNeq (rL (efL E n S i)) 0 /\ nat_lit 0 = nat_lit 0 /\ rL (efL E n S m) = rL (efL E n S i) /\ rL (efL E n S m) = rL (efL E n S i) /\ (∀ (i_1 : Nat), Nat.succ i_1 <= rL (efL E n S m) -> rI (efL E n S m) i_1 = rI (efL E n S i) i_1 /\ True) /\ true = true)))))))))))))))
theorem goalEs_eq : goalEs = goalEsV := by kernel_rfl
theorem find_range {p : Nat -> Bool} {b : Nat} (h : ∀ j, j < b -> p j = false) (hb : p b = true) : ∀ N, b < N -> (List.range N).find? p = some b
 | 0, hN => absurd hN (Nat.not_lt_zero _)
 | N + 1, hN => by
   rw [List.range_succ, List.find?_append]
   rcases Nat.lt_succ_iff_lt_or_eq.1 hN with h1 | h1
   . rw [find_range h hb N h1]; rfl
   . subst h1
     have : (List.range b).find? p = none := List.find?_eq_none.2 λ j hj => by rw [h j (List.mem_range.1 hj)]; simp
     rw [this]
     simp [hb]
theorem find_none {p : Nat -> Bool} {N : Nat} (h : ∀ j, j < N -> p j = false) : (List.range N).find? p = none := List.find?_eq_none.2 λ j hj => by rw [h j (List.mem_range.1 hj)]; simp
theorem efL_succ (E : EvS) (n : Nat) (S : StS) (i : Nat) : efL E n S (i + 1) = efL E n S i ++ ((if effB (sMn S i) (sMk S i) = true then (whF E n (sTh S i) i).map (λ j => eId E (gEv E n j)) else none).toList) := by
 unfold efL
 rw [List.range_succ, List.filterMap_append]
 congr 1
theorem efL_len (E : EvS) (n : Nat) (S : StS) (i : Nat) : rL (efL E n S i) <= i := by
 unfold rL efL
 exact Nat.le_trans (List.length_filterMap_le _ _) (by simp)
theorem rL_snoc (L : List Int) (x : Int) : rL (L ++ [x]) = rL L + 1 := by unfold rL; simp
theorem rI_snoc (L : List Int) (x : Int) (j : Nat) (h : j < rL L + 1) : rI (L ++ [x]) j = ySel (yNlt j (rL L)) (rI L j) x := by
 unfold rL at *
 unfold rI
 by_cases hj : j < L.length
 . rw [show yNlt j L.length = true from decide_eq_true hj, List.getElem?_append_left hj]; rfl
 . rw [show yNlt j L.length = false from decide_eq_false hj]
   obtain rfl : j = L.length := by omega
   simp [ySel]
theorem goalEs_ok : goalEs := by
 refine @kernel_go _ _ goalEs_eq ?_
 unfold goalEsV goalEs_0
 intro E nil n S nilS m hpre hwf hS
 have hcol : ∀ m, yCol (.ls [.int .u64, .int .u64]) m (λ i => AV.lst false (eNil E i) 2 (ePn E i) (cl2F [Cl2.int .u64 (ePk E), Cl2.int .u64 (ePv E)] i)) = true := λ m => yCol_ok.2 λ i _ => List.all_eq_true.2 λ p _ => rfl
 obtain ⟨hm, hmn⟩ := of_decide_eq_true hS
 simp only [hpre, hwf, hcol, vS, forall_const, reduceCtorEq]
 have hrn : resN E n <= 200 := by
  have h1 := (gInv E n).le
  have h1 : gN E n <= n := h1
  have h2 := (of_decide_eq_true hpre).1
  unfold resN
  cases gOk E n <;> simp <;> omega
 have hms : ∀ i, i < m -> (mEs m (i + 1)).succ <= mEs m i := λ i hi => by unfold mEs; omega
 have hmw : ∀ b, b < resN E n -> (mWh E n (b + 1)).succ <= mWh E n b := λ b hb => by unfold mWh; omega
 have hw : ∀ i, i < m -> ((i + 1 : Nat) : Int) = yWrap .i64 ((i : Int) + 1) := λ i hi => by rw [wrap64 (by omega) (by omega)]; omega
 have hw2 : ∀ i, i < resN E n -> ((i + 1 : Nat) : Int) = yWrap .i64 ((i : Int) + 1) := λ i hi => by rw [wrap64 (by omega) (by omega)]; omega
 have stay : ∀ i, i < m -> efL E n S (i + 1) = efL E n S i -> ∃ i', prEs E m i' /\ (mEs m i').succ <= mEs m i /\ yNeq (rL (efL E n S i')) 0 = yNeq (rL (efL E n S i)) 0 /\ rL (efL E n S i') = rL (efL E n S i) /\ (i' : Int) = yWrap .i64 ((i : Int) + 1) /\ rL (efL E n S i') = rL (efL E n S i) /\ ∀ (i_1 : Nat), i_1.succ <= rL (efL E n S i') -> rI (efL E n S i') i_1 = rI (efL E n S i) i_1 := λ i hi he =>
  ⟨i + 1, hi, hms i hi, by rw [he], by rw [he], hw i hi, by rw [he], λ j _ => by rw [he]⟩
 have app : ∀ i b, i < m -> efL E n S (i + 1) = efL E n S i ++ [eId E (gEv E n b)] -> (4 * (rL (efL E n S i) + 1) * 8 <= 140737488355328 -> ∃ i', prEs E m i' /\ (mEs m i').succ <= mEs m i /\ yNeq (rL (efL E n S i')) 0 = yAnd (yNeq (rL (efL E n S i)) 0) (yNeq 1 0) /\ rL (efL E n S i') = rL (efL E n S i) + 1 /\ (i' : Int) = yWrap .i64 ((i : Int) + 1) /\ rL (efL E n S i') = rL (efL E n S i) + 1 /\ ∀ (i_2 : Nat), i_2.succ <= rL (efL E n S i') -> rI (efL E n S i') i_2 = ySel (yNlt i_2 (rL (efL E n S i))) (rI (efL E n S i) i_2) (eId E (gEv E n b))) /\ (140737488355328 < 4 * (rL (efL E n S i) + 1) * 8 -> False) := λ i b hi he => by
  have hl := efL_len E n S i
  refine ⟨λ _ => ⟨i + 1, hi, hms i hi, ?_, ?_, hw i hi, ?_, λ j hj => ?_⟩, λ h => by omega⟩
  . rw [he, rL_snoc, show yNeq (rL (efL E n S i) + 1) 0 = false from decide_eq_false (by omega), show yNeq 1 0 = false from rfl]
    cases yNeq (rL (efL E n S i)) 0 <;> rfl
  . rw [he, rL_snoc]
  . rw [he, rL_snoc]
  . rw [he] at hj ⊢
    rw [rL_snoc] at hj
    exact rI_snoc _ _ _ hj
 have hit : ∀ i b, effB (sMn S i) (sMk S i) = true -> prWh E n (sTh S i) i b -> b < resN E n -> whB E n (sTh S i) i b = true -> efL E n S (i + 1) = efL E n S i ++ [eId E (gEv E n b)] := λ i b h1 h2 h3 h4 => by
  rw [efL_succ, if_pos h1]
  have : whF E n (sTh S i) i = some b := find_range h2.2 h4 _ h3
  rw [this]; rfl
 have nxt : ∀ i b, prWh E n (sTh S i) i b -> b < resN E n -> whB E n (sTh S i) i b = false -> ∃ i', prWh E n (sTh S i) i i' /\ (mWh E n i').succ <= mWh E n b /\ (i' : Int) = yWrap .i64 ((b : Int) + 1) := λ i b h2 h3 h4 =>
  ⟨b + 1, ⟨h3, λ j hj => by
   rcases Nat.lt_succ_iff_lt_or_eq.1 hj with h | rfl
   . exact h2.2 j h
   . exact h4⟩, hmw b h3, hw2 b h3⟩
 refine ⟨⟨⟨0, Nat.zero_le _, rfl, rfl, rfl, rfl⟩, λ _ i hi => ⟨λ hlt => ⟨λ _ => ⟨λ _ => ⟨λ he => ?_, λ he => ⟨⟨0, ⟨Nat.zero_le _, λ j hj => absurd hj (Nat.not_lt_zero _)⟩, rfl⟩, λ _ b hb => ⟨λ hbl => ⟨λ _ => ⟨λ hb2 => ⟨λ e1 => ⟨λ e2 => ⟨λ e3 => ⟨app i b (by omega) (hit i b he hb hb2 (decide_eq_true ⟨e1, e2, .inl e3⟩)), λ h => absurd rfl h⟩, λ e3 => ⟨λ e4 => ⟨app i b (by omega) (hit i b he hb hb2 (decide_eq_true ⟨e1, e2, .inr e4⟩)), λ h => absurd rfl h⟩, λ e4 => ?_⟩⟩, λ e2 => ?_⟩, λ e1 => ?_⟩, λ h => ?_⟩, λ h => ?_⟩, λ hbg => ?_⟩⟩⟩, λ h => ?_⟩, λ h => ?_⟩, λ hge => ?_⟩⟩, λ h => h.elim id id⟩
 . exact stay i (by omega) (by rw [efL_succ, if_neg (by rw [he]; simp)]; simp)
 . refine nxt i b hb hb2 (decide_eq_false ?_)
   rintro ⟨_, _, h | h⟩
   . rw [e3] at h; cases h
   . omega
 . refine nxt i b hb hb2 (decide_eq_false ?_)
   rintro ⟨_, h, _⟩; omega
 . refine nxt i b hb hb2 (decide_eq_false ?_)
   rintro ⟨h, _, _⟩; exact e1 h
 . omega
 . exact h ⟨by omega, hbl⟩
 . refine stay i (by omega) ?_
   rw [efL_succ, if_pos he]
   have hb1 : b = resN E n := by have := hb.1; omega
   have : whF E n (sTh S i) i = none := find_none (λ j hj => hb.2 j (by omega))
   rw [this]; simp
 . have := hmn i (by omega); omega
 . exact h ⟨by omega, hlt⟩
 . have hi : i <= m := hi
   obtain rfl : i = m := by omega
   exact ⟨rfl, rfl, rfl, λ _ _ => rfl⟩
def fEs (ds : List Dx) : Option (Bool × Dx × List (List Dx)) :=
 match ds with
 | [.rows _ n [.int .i64 kd, .int .i64 th, .int .i64 id, .int .i64 at_, .int .i64 ok, .int .u64 key, .int .u64 val, .int .u64 hi, .int .i64 most, .int .i64 rk, .int .u64 rv, .ls nl pn [.int .u64 pk, .int .u64 pv]], .rows _ m [.int .i64 sth, .int .i64 sak, .int .i64 sat, .int .u64 sold, .int .u64 snew, .int .u64 sgot, .ls snl smn [.int .i64 smk, .int .u64 sma, .int .u64 smb]]] =>
   some (yAnd (preE ⟨kd, th, id, at_, ok, key, val, hi, most, rk, rv, nl, pn, pk, pv⟩ n) (yAnd (wfE ⟨kd, th, id, at_, ok, key, val, hi, most, rk, rv, nl, pn, pk, pv⟩ n) (preS ⟨sth, sak, sat, sold, snew, sgot, snl, smn, smk, sma, smb⟩ m)), dEs ⟨kd, th, id, at_, ok, key, val, hi, most, rk, rv, nl, pn, pk, pv⟩ n ⟨sth, sak, sat, sold, snew, sgot, snl, smn, smk, sma, smb⟩ m, [])
 | _ => none
theorem smEs (hm : Try.prog.follows .mixedOrders = true) (hs : SmOK Try.prog (smL lEs)) : SmCall Try.prog 49 (λ args h => (ctX [sEv, sSts] rEs fEs args h).sel) :=
 ctX_ok hm hs (λ ds r post h => by
  unfold fEs at h
  split at h
  . rename_i nil n kd th id at_ ok key val hi most rk rv nl pn pk pv nilS m sth sak sat sold snew sgot snl smn smk sma smb
    simp only [sI, Prod.mk.injEq] at h
    obtain ⟨h1, rfl, rfl⟩ := h
    obtain ⟨h1, h3⟩ := yAnd_t.mp h1
    obtain ⟨h3, h4⟩ := yAnd_t.mp h3
    refine ⟨annEs ⟨kd, th, id, at_, ok, key, val, hi, most, rk, rv, nl, pn, pk, pv⟩ n ⟨sth, sak, sat, sold, snew, sgot, snl, smn, smk, sma, smb⟩ m, 1000, ?_⟩
    have h2 := @goalEs_ok
    unfold goalEs at h2
    revert h1 h3 h4
    exact @h2 ⟨kd, th, id, at_, ok, key, val, hi, most, rk, rv, nl, pn, pk, pv⟩ nil n ⟨sth, sak, sat, sold, snew, sgot, snl, smn, smk, sma, smb⟩ nilS m
  . cases h)
abbrev sKeep (a i : Nat) (x : Int) : Int := ySel (yNeq i a) x 0
def soleS (S : StS) (a : Nat) : StS := ⟨λ i => sKeep a i (sTh S a), λ i => sKeep a i (sAk S a), λ i => sKeep a i (sAt S a), λ i => sKeep a i (sOld S a), λ i => sKeep a i (sNew S a), λ i => sKeep a i (sGot S a), λ i => ySelB (yNeq i a) (sNil S a) true, λ i => ySelN (yNeq i a) (sMn S a) 0, λ _ p => sMk S a p, λ _ p => sMa S a p, λ _ p => sMb S a p⟩
abbrev colsSo (S : StS) (a : Nat) : List Col := [.int .i64 (λ i => sKeep a i (sTh S a)), .int .i64 (λ i => sKeep a i (sAk S a)), .int .i64 (λ i => sKeep a i (sAt S a)), .int .u64 (λ i => sKeep a i (sOld S a)), .int .u64 (λ i => sKeep a i (sNew S a)), .int .u64 (λ i => sKeep a i (sGot S a)), .ls (λ i => ySelB (yNeq i a) (sNil S a) true) (λ i => ySelN (yNeq i a) (sMn S a) 0) [.int .i64 (λ _ p => sMk S a p), .int .u64 (λ _ p => sMa S a p), .int .u64 (λ _ p => sMb S a p)]]
abbrev rSo : Sx := .own 85 kSt
abbrev dSo (S : StS) (a : Nat) : Dx := .rows false (yNadd a 1) (colsSo S a)
def goalSo : Prop := ∀ (S : StS) (nilS : Bool) (m a : Nat), yNle m 1000000 = true -> yNlt a m = true -> wxH Try.prog noSm (λ _ => none) 50 [sSts, .sc] [.rows nilS m (colsS S), .v (.y .i64 (yInt a))] rSo (dSo S a) []
theorem goalSo_eq : goalSo = (∀ (S : StS) (nilS : Bool) (m a : Nat), yNle m (nat_lit 1000000) = true -> yNlt a m = true -> (yLe 0 (yWrap .i64 (yAdd (yInt a) 1)) = true -> (yEq (yWrap .i64 (yAdd (yInt a) 1)) (yWrap .i64 (yAdd (yInt a) 1)) = true -> (yGrow (yNat (yWrap .i64 (yAdd (yInt a) 1))) (nat_lit 72) = true -> (yIn (yInt a) m = true -> (yIn (yInt a) (yNat (yWrap .i64 (yAdd (yInt a) 1))) = true -> (yNlt (yNadd 0 (yNat (yInt a))) (yNat (yWrap .i64 (yAdd (yInt a) 1))) = true -> false = false /\ nat_lit 0 = nat_lit 0 /\ yNadd a (nat_lit 1) = yNat (yWrap .i64 (yAdd (yInt a) 1)) /\ yNadd a (nat_lit 1) = yNat (yWrap .i64 (yAdd (yInt a) 1)) /\ (∀ (i : Nat), Nat.succ i <= yNadd a 1 -> ySel (yNeq i a) (sTh S a) (0 : Int) = ySel (yNeq i (yNadd 0 (yNat (yInt a)))) (sTh S (yNat (yInt a))) 0 /\ ySel (yNeq i a) (sAk S a) (0 : Int) = ySel (yNeq i (yNadd 0 (yNat (yInt a)))) (sAk S (yNat (yInt a))) 0 /\ ySel (yNeq i a) (sAt S a) (0 : Int) = ySel (yNeq i (yNadd 0 (yNat (yInt a)))) (sAt S (yNat (yInt a))) 0 /\ ySel (yNeq i a) (sOld S a) (0 : Int) = ySel (yNeq i (yNadd 0 (yNat (yInt a)))) (sOld S (yNat (yInt a))) 0 /\ ySel (yNeq i a) (sNew S a) (0 : Int) = ySel (yNeq i (yNadd 0 (yNat (yInt a)))) (sNew S (yNat (yInt a))) 0 /\ ySel (yNeq i a) (sGot S a) (0 : Int) = ySel (yNeq i (yNadd 0 (yNat (yInt a)))) (sGot S (yNat (yInt a))) 0 /\ (ySelB (yNeq i a) (sNil S a) true = ySelB (yNeq i (yNadd 0 (yNat (yInt a)))) (sNil S (yNat (yInt a))) true /\ ySelN (yNeq i a) (sMn S a) (nat_lit 0) = ySelN (yNeq i (yNadd 0 (yNat (yInt a)))) (sMn S (yNat (yInt a))) 0 /\ ∀ (i_1 : Nat), Nat.succ i_1 <= ySelN (yNeq i a) (sMn S a) 0 -> sMk S a i_1 = sMk S (yNat (yInt a)) i_1 /\ sMa S a i_1 = sMa S (yNat (yInt a)) i_1 /\ sMb S a i_1 = sMb S (yNat (yInt a)) i_1 /\ True) /\ True) /\ true = true) /\ (yNlt (yNadd 0 (yNat (yInt a))) (yNat (yWrap .i64 (yAdd (yInt a) 1))) = false -> False)) /\ (yIn (yInt a) (yNat (yWrap .i64 (yAdd (yInt a) 1))) = false -> False)) /\ (yIn (yInt a) m = false -> False)) /\ (yGrow (yNat (yWrap .i64 (yAdd (yInt a) 1))) (nat_lit 72) = false -> False)) /\ (yEq (yWrap .i64 (yAdd (yInt a) 1)) (yWrap .i64 (yAdd (yInt a) 1)) = false -> False)) /\ (yLe 0 (yWrap .i64 (yAdd (yInt a) 1)) = false -> False)) := by kernel_rfl
theorem goalSo_ok : goalSo := by
 refine @kernel_go _ _ goalSo_eq ?_
 intro S nilS m a hm ha
 have hm : m <= 1000000 := of_decide_eq_true hm
 have ha : a < m := of_decide_eq_true ha
 have hw : yWrap .i64 (yAdd (yInt a) (1 : Int)) = ((a + 1 : Nat) : Int) := by
  show yWrap .i64 ((a : Int) + 1) = _
  rw [wrap64 (by omega) (by omega)]; omega
 rw [hw]
 have hn : yNat ((a + 1 : Nat) : Int) = a + 1 := rfl
 rw [hn]
 simp only [vS, forall_const, Nat.zero_add]
 repeat' (first | exact trivial | apply And.intro | intro _)
 all_goals first
  | omega
  | (rename_i h; exact absurd rfl h)
def fSo (ds : List Dx) : Option (Bool × Dx × List (List Dx)) :=
 match ds with
 | [.rows _ m [.int .i64 sth, .int .i64 sak, .int .i64 sat, .int .u64 sold, .int .u64 snew, .int .u64 sgot, .ls snl smn [.int .i64 smk, .int .u64 sma, .int .u64 smb]], .v (.y .i64 a)] =>
   some (yAnd (yNle m 1000000) (yIn a m), dSo ⟨sth, sak, sat, sold, snew, sgot, snl, smn, smk, sma, smb⟩ (yNat a), [])
 | _ => none
theorem smSo (hm : Try.prog.follows .mixedOrders = true) : SmCall Try.prog 50 (λ args h => (ctX [sSts, .sc] rSo fSo args h).sel) :=
 ctX_ok hm noSm_ok (λ ds r post h => by
  unfold fSo at h
  split at h
  . rename_i nilS m sth sak sat sold snew sgot snl smn smk sma smb a
    simp only [sI, Prod.mk.injEq] at h
    obtain ⟨h1, rfl, rfl⟩ := h
    obtain ⟨k1, k2⟩ := yAnd_t.mp h1
    clear h1
    refine ⟨λ _ => none, 1000, ?_⟩
    have h2 := @goalSo_ok
    unfold goalSo at h2
    obtain ⟨x, rfl⟩ : ∃ x : Nat, a = (x : Int) := ⟨a.toNat, by rw [yIn_t] at k2; omega⟩
    have k3 : yNlt x m = true := by rw [yIn_t] at k2; rw [yNlt_t]; omega
    clear k2
    revert k1 k3
    exact @h2 ⟨sth, sak, sat, sold, snew, sgot, snl, smn, smk, sma, smb⟩ nilS m x
  . cases h)
def opB (th : Nat -> Int) (ov : Nat -> Bool) (t : Int) (j : Nat) : Bool := decide (th j = t /\ ov j = false)
def opI (n : Nat) (th : Nat -> Int) (ov : Nat -> Bool) (t : Int) : Int := match (List.range n).find? (opB th ov t) with | some j => (j : Int) | none => -1
def prOp (n : Nat) (th : Nat -> Int) (ov : Nat -> Bool) (t : Int) (i : Nat) : Prop := i <= n /\ ∀ j, j < i -> opB th ov t j = false
def mOp (n i : Nat) : Nat := n - i
def annOp (n : Nat) (th : Nat -> Int) (ov : Nat -> Bool) (t : Int) (b : Nat) : Option (St -> LoopA) :=
 match b with
 | 0 => some λ _ => { ι := Nat, tms := [5], tmU := λ i => [.y .i64 (yInt i)], ids := [], hpU := λ _ => [], del := [], ex := 0, pre := prOp n th ov t, ms := mOp n }
 | _ => none
abbrev sRc : Sx := .mut 75 kCl
abbrev colsC (id th ok : Nat -> Int) (key val hi : Nat -> Int) (most fr to : Nat -> Int) (ov : Nat -> Bool) (rk rv : Nat -> Int) (nl : Nat -> Bool) (pn : Nat -> Nat) (pk pv : Nat -> Nat -> Int) : List Col := [.int .i64 id, .int .i64 th, .int .i64 ok, .int .u64 key, .int .u64 val, .int .u64 hi, .int .i64 most, .int .i64 fr, .int .i64 to, .bool ov, .int .i64 rk, .int .u64 rv, .ls nl pn [.int .u64 pk, .int .u64 pv]]
def fOp (ds : List Dx) : Option (Bool × Dx × List (List Dx)) :=
 match ds with
 | [.rows nil n [.int .i64 id, .int .i64 th, .int .i64 ok, .int .u64 key, .int .u64 val, .int .u64 hi, .int .i64 most, .int .i64 fr, .int .i64 to, .bool ov, .int .i64 rk, .int .u64 rv, .ls nl pn [.int .u64 pk, .int .u64 pv]], .v (.y .i64 t)] => some (yNle n 1000000, .v (.y .i64 (opI n th ov t)), [[.rows nil n (colsC id th ok key val hi most fr to ov rk rv nl pn pk pv)]])
 | _ => none
def goalOp : Prop := ∀ (id th ok key val hi most fr to : Nat -> Int) (ov : Nat -> Bool) (rk rv : Nat -> Int) (nl : Nat -> Bool) (pn : Nat -> Nat) (pk pv : Nat -> Nat -> Int) (nil : Bool) (n : Nat) (t : Int), yNle n 1000000 = true →
 wxH Try.prog noSm (annOp n th ov t) 42 [sRc, .sc] [.rows nil n (colsC id th ok key val hi most fr to ov rk rv nl pn pk pv), .v (.y .i64 t)] .sc (.v (.y .i64 (opI n th ov t))) [[.rows nil n (colsC id th ok key val hi most fr to ov rk rv nl pn pk pv)]]
theorem goalOp_eq : goalOp = (∀ (id th ok key val hi most fr to : Nat -> Int) (ov : Nat -> Bool) (rk rv : Nat -> Int) (nl : Nat -> Bool) (pn : Nat -> Nat) (pk pv : Nat -> Nat -> Int) (nil : Bool) (n : Nat) (t : Int), yNle n (nat_lit 1000000) = true -> true = true /\ (∃ (i0 : Nat), prOp n th ov t i0 /\ true = true /\ yInt i0 = (0 : Int) /\ true = true) /\ ∀ (g : Nat -> AV) (i : Nat), prOp n th ov t i -> (yLt (yInt i) (yInt n) = true -> (yIn (yInt i) n = true -> (yNlt (yNadd 0 (yNat (yInt i))) n = true -> (yEq (th (yNadd 0 (yNat (yInt i)))) t = true -> (yIn (yInt i) n = true -> (yNlt (yNadd 0 (yNat (yInt i))) n = true -> (yNot (ov (yNadd 0 (yNat (yInt i)))) = true -> opI n th ov t = yInt i /\ n = n /\ (∀ (i : Nat), Nat.succ i <= n -> id i = id i /\ th i = th i /\ ok i = ok i /\ key i = key i /\ val i = val i /\ hi i = hi i /\ most i = most i /\ fr i = fr i /\ to i = to i /\ ov i = ov i /\ rk i = rk i /\ rv i = rv i /\ (nl i = nl i /\ pn i = pn i /\ ∀ (i_1 : Nat), Nat.succ i_1 <= pn i -> pk i i_1 = pk i i_1 /\ pv i i_1 = pv i i_1 /\ True) /\ True) /\ true = true) /\ (yNot (ov (yNadd 0 (yNat (yInt i)))) = false -> true = true /\ ∃ (i' : Nat), prOp n th ov t i' /\ Nat.succ (mOp n i') <= mOp n i /\ true = true /\ yInt i' = yWrap .i64 (yAdd (yInt i) 1) /\ true = true)) /\ (yNlt (yNadd 0 (yNat (yInt i))) n = false -> False)) /\ (yIn (yInt i) n = false -> False)) /\ (yEq (th (yNadd 0 (yNat (yInt i)))) t = false -> true = true /\ ∃ (i' : Nat), prOp n th ov t i' /\ Nat.succ (mOp n i') <= mOp n i /\ true = true /\ yInt i' = yWrap .i64 (yAdd (yInt i) 1) /\ true = true)) /\ (yNlt (yNadd 0 (yNat (yInt i))) n = false -> False)) /\ (yIn (yInt i) n = false -> False)) /\ (yLt (yInt i) (yInt n) = false -> opI n th ov t = (-1 : Int) /\ n = n /\ (∀ (i : Nat), Nat.succ i <= n -> id i = id i /\ th i = th i /\ ok i = ok i /\ key i = key i /\ val i = val i /\ hi i = hi i /\ most i = most i /\ fr i = fr i /\ to i = to i /\ ov i = ov i /\ rk i = rk i /\ rv i = rv i /\ (nl i = nl i /\ pn i = pn i /\ ∀ (i_1 : Nat), Nat.succ i_1 <= pn i -> pk i i_1 = pk i i_1 /\ pv i i_1 = pv i i_1 /\ True) /\ True) /\ true = true)) := by kernel_rfl
theorem goalOp_ok : goalOp := by
 refine @kernel_go _ _ goalOp_eq ?_
 intro id th ok key val hi most fr to ov rk rv nl pn pk pv nil n t hn
 simp only [vS, forall_const, and_true, Nat.zero_add] at hn ⊢
 have nxt : ∀ i, i < n -> prOp n th ov t i -> opB th ov t i = false -> ∃ i', prOp n th ov t i' /\ (mOp n i').succ <= mOp n i /\ (i' : Int) = yWrap .i64 ((i : Int) + 1) := λ i hi hp hb =>
  ⟨i + 1, ⟨hi, λ j hj => by
   rcases Nat.lt_succ_iff_lt_or_eq.1 hj with h | rfl
   . exact hp.2 j h
   . exact hb⟩, by unfold mOp; omega, by rw [wrap64 (by omega) (by omega)]; omega⟩
 refine ⟨⟨0, ⟨Nat.zero_le _, λ j hj => absurd hj (Nat.not_lt_zero _)⟩, rfl⟩, λ _ i hp => ⟨λ hlt => ⟨λ _ => ⟨λ hi => ⟨λ e1 => ⟨λ _ => ⟨λ _ => ⟨λ e2 => ?_, λ e2 => ?_⟩, λ h => ?_⟩, λ h => ?_⟩, λ e1 => ?_⟩, λ h => ?_⟩, λ h => ?_⟩, λ hge => ?_⟩⟩
 . refine ⟨?_, λ _ _ _ _ => trivial⟩
   unfold opI
   rw [find_range hp.2 (show opB th ov t i = true from decide_eq_true ⟨e1, e2⟩) n hi]
 . refine nxt i hi hp (decide_eq_false ?_)
   rintro ⟨_, h⟩; rw [e2] at h; cases h
 . omega
 . exact h ⟨by omega, hlt⟩
 . refine nxt i hi hp (decide_eq_false ?_)
   rintro ⟨h, _⟩; exact e1 h
 . omega
 . exact h ⟨by omega, hlt⟩
 . refine ⟨?_, λ _ _ _ _ => trivial⟩
   unfold opI
   have hpn := hp.1
   rw [find_none (λ j hj => hp.2 j (by omega))]
theorem smOp (hm : Try.prog.follows .mixedOrders = true) : SmCall Try.prog 42 (λ args h => (ctX [sRc, .sc] .sc fOp args h).sel) :=
 ctX_ok hm noSm_ok (λ ds r post h => by
  unfold fOp at h
  split at h
  . rename_i nil n id th ok key val hi most fr to ov rk rv nl pn pk pv t
    simp only [sI, Prod.mk.injEq] at h
    obtain ⟨h1, rfl, rfl⟩ := h
    refine ⟨annOp n th ov t, 1000, ?_⟩
    have h2 := @goalOp_ok
    unfold goalOp at h2
    revert h1
    exact @h2 id th ok key val hi most fr to ov rk rv nl pn pk pv nil n t
  . cases h)
def prRk (E : EvS) (n i : Nat) : Prop := i <= n /\ gOk E i = true
def annRk (E : EvS) (n : Nat) (b : Nat) : Option (St -> LoopA) :=
 match b with
 | 0 => some λ _ => { ι := Nat, tms := [4, 5], tmU := λ i => [slG 0 (gN E i), .y .i64 (yInt i)], ids := [0], hpU := λ i => [.arr false 75 13 (gN E i) (colF (colsG E i))], del := [], ex := 1, pre := prRk E n, ms := mGn n }
 | _ => none
def goalRgR : Prop := ∀ (k key val hi most : Int), wxF Try.prog noSm (λ _ => none) 1000 43 (canA gOp [.agg [.v (.y .i64 k), .v (.y .u64 key), .v (.y .u64 val), .v (.y .u64 hi), .v (.y .i64 most)]] []).1 (heapOf (canA gOp [.agg [.v (.y .i64 k), .v (.y .u64 key), .v (.y .u64 val), .v (.y .u64 hi), .v (.y .i64 most)]] []).2) (λ v _ => cmpC (.yb (rightE k most)) v)
def lRk : List (Nat × Sm) := [(42, .ct (ctX [sRc, .sc] .sc fOp)), (43, .ct (ctS gOp fRgE)), (25, .ct (ctS gResult fSame))]
theorem goalRgR_eq : goalRgR = (∀ (k key val hi most : Int), (yEq k (4 : Int) = true -> (yLe (1 : Int) most = true -> rightE k most = yLe most (1000 : Int)) /\ (yLe (1 : Int) most = false -> rightE k most = false)) /\ (yEq k (4 : Int) = false -> (yLe (1 : Int) k = true -> rightE k most = yLe k (3 : Int)) /\ (yLe (1 : Int) k = false -> rightE k most = false))) := by kernel_rfl
theorem goalRgR_ok : goalRgR := by
 refine @kernel_go _ _ goalRgR_eq ?_
 intro k _ _ _ most
 unfold rightE
 refine ⟨λ h => ?_, λ h => ?_⟩
 . rw [h]
   exact ⟨λ h2 => by simp only [cond_true]; rw [h2]; rfl, λ h2 => by simp only [cond_true]; rw [h2]; rfl⟩
 . rw [h]
   exact ⟨λ h2 => by simp only [cond_false]; rw [h2]; rfl, λ h2 => by simp only [cond_false]; rw [h2]; rfl⟩
theorem cOv_f {e : Nat} : cOv e = false ↔ e = 0 := by
 cases e with
 | zero => exact ⟨λ _ => rfl, λ _ => rfl⟩
 | succ e => exact ⟨λ h => (Bool.noConfusion h : False).elim, λ h => absurd h (Nat.succ_ne_zero e)⟩
structure GLk (E : EvS) (g : GS) : Prop where
 fw : ∀ x, g.p x = true -> eTh E (g.ev (g.v x).toNat) = x /\ g.en (g.v x).toNat = 0
 bw : ∀ j, j < g.n -> g.en j = 0 -> g.p (eTh E (g.ev j)) = true /\ g.v (eTh E (g.ev j)) = j
theorem gLk (E : EvS) : ∀ i, GLk E (gS E i)
 | 0 => ⟨λ x h => (Bool.noConfusion h : False).elim, λ j h => absurd h (Nat.not_lt_zero j)⟩
 | i + 1 => by
   have ih := gLk E i
   have hI := gInv E i
   show GLk E (bif (gS E i).ok then gs1 E i (gS E i) else gS E i)
   cases hok : (gS E i).ok with
   | false => exact ih
   | true =>
     rw [cond_true]
     rcases gs1_cases E i (gS E i) with h | ⟨h2, h1, h3⟩ | ⟨h3, h1, h4⟩
     . rw [h]; exact ⟨ih.fw, ih.bw⟩
     . rw [gs1_t2 h1 h2 h3]
       have hnp : (gS E i).p (eTh E i) = false := by
        cases hp : (gS E i).p (eTh E i) with
        | false => rfl
        | true => exact absurd (.inl hp) h3
       refine ⟨λ x hx => ?_, λ j hj he => ?_⟩
       . have hx : yOr (yEq x (eTh E i)) ((gS E i).p x) = true := hx
         show eTh E (if (ySel (yEq x (eTh E i)) ((gS E i).n : Int) ((gS E i).v x)).toNat = (gS E i).n then i else (gS E i).ev (ySel (yEq x (eTh E i)) ((gS E i).n : Int) ((gS E i).v x)).toNat) = x /\ (if (ySel (yEq x (eTh E i)) ((gS E i).n : Int) ((gS E i).v x)).toNat = (gS E i).n then 0 else (gS E i).en (ySel (yEq x (eTh E i)) ((gS E i).n : Int) ((gS E i).v x)).toNat) = 0
         cases hq : yEq x (eTh E i) with
         | true =>
           have e : (ySel true ((gS E i).n : Int) ((gS E i).v x)).toNat = (gS E i).n := by
            show ((gS E i).n : Int).toNat = _
            omega
           rw [if_pos e, if_pos e]
           simp only [yEq_t] at hq
           exact ⟨hq.symm, rfl⟩
         | false =>
           rw [hq] at hx
           have hx : (gS E i).p x = true := hx
           have hv := hI.v x hx
           have e : ¬ (ySel false ((gS E i).n : Int) ((gS E i).v x)).toNat = (gS E i).n := by
            show ¬ ((gS E i).v x).toNat = _
            omega
           rw [if_neg e, if_neg e]
           exact ih.fw x hx
       . have hj : j < (gS E i).n + 1 := hj
         have he : (if j = (gS E i).n then 0 else (gS E i).en j) = 0 := he
         show yOr (yEq (eTh E (if j = (gS E i).n then i else (gS E i).ev j)) (eTh E i)) ((gS E i).p (eTh E (if j = (gS E i).n then i else (gS E i).ev j))) = true /\ ySel (yEq (eTh E (if j = (gS E i).n then i else (gS E i).ev j)) (eTh E i)) ((gS E i).n : Int) ((gS E i).v (eTh E (if j = (gS E i).n then i else (gS E i).ev j))) = (j : Int)
         by_cases hjn : j = (gS E i).n
         . rw [if_pos hjn]
           have e : yEq (eTh E i) (eTh E i) = true := by simp only [yEq_t]
           rw [e]
           exact ⟨rfl, by rw [hjn]; rfl⟩
         . rw [if_neg hjn] at he ⊢
           obtain ⟨a, b⟩ := ih.bw j (by omega) he
           cases hq : yEq (eTh E ((gS E i).ev j)) (eTh E i) with
           | true =>
             simp only [yEq_t] at hq
             rw [hq, hnp] at a; cases a
           | false =>
             rw [a, b]; exact ⟨rfl, rfl⟩
     . rw [gs1_t3 h1 (by omega) h3 h4]
       have hp : (gS E i).p (eTh E i) = true := by
        cases hp : (gS E i).p (eTh E i) with
        | true => rfl
        | false => exact absurd (.inl hp) h4
       refine ⟨λ x hx => ?_, λ j hj he => ?_⟩
       . have hx : yAnd (yNot (yEq x (eTh E i))) ((gS E i).p x) = true := hx
         simp only [yAnd_t, yNot_t, yEq_f] at hx
         obtain ⟨a, b⟩ := ih.fw x hx.2
         show eTh E ((gS E i).ev ((gS E i).v x).toNat) = x /\ (if ((gS E i).v x).toNat = ((gS E i).v (eTh E i)).toNat then i + 1 else (gS E i).en ((gS E i).v x).toNat) = 0
         have hne : ¬ ((gS E i).v x).toNat = ((gS E i).v (eTh E i)).toNat := λ e => by
          rw [e] at a
          exact hx.1 (a.symm.trans (ih.fw _ hp).1)
         rw [if_neg hne]
         exact ⟨a, b⟩
       . have he : (if j = ((gS E i).v (eTh E i)).toNat then i + 1 else (gS E i).en j) = 0 := he
         by_cases hjn : j = ((gS E i).v (eTh E i)).toNat
         . rw [if_pos hjn] at he; cases he
         . rw [if_neg hjn] at he
           obtain ⟨a, b⟩ := ih.bw j hj he
           show yAnd (yNot (yEq (eTh E ((gS E i).ev j)) (eTh E i))) ((gS E i).p (eTh E ((gS E i).ev j))) = true /\ (gS E i).v (eTh E ((gS E i).ev j)) = j
           refine ⟨?_, b⟩
           simp only [yAnd_t, yNot_t, yEq_f]
           refine ⟨λ e => hjn ?_, a⟩
           rw [<- e, b]; omega
theorem gs1_at {E : EvS} {i : Nat} (h : gOk E (i + 1) = true) : gOk E i = true /\ gAt E (i + 1) = eAt E i := by
 have h0 : gOk E i = true := by
  cases hb : gOk E i with
  | true => rfl
  | false => have := gOk_stay hb 1; rw [h] at this; cases this
 refine ⟨h0, ?_⟩
 have h : (gS E (i + 1)).ok = true := h
 unfold gAt
 rw [gS_step h0] at h ⊢
 rcases gs1_cases E i (gS E i) with e | ⟨h2, h1, h3⟩ | ⟨h3, h1, h4⟩
 . rw [e] at h; cases h
 . rw [gs1_t2 h1 h2 h3]
 . rw [gs1_t3 h1 (by omega) h3 h4]
theorem gAt_nn (E : EvS) : ∀ i, gOk E i = true -> 0 <= (gS E i).at_
 | 0, _ => Int.le_refl 0
 | i + 1, h => by
   obtain ⟨h0, h1⟩ := gs1_at h
   have ih := gAt_nn E i h0
   have h1 : (gS E (i + 1)).at_ = eAt E i := h1
   rw [h1]
   have h : (gS E (i + 1)).ok = true := h
   rw [gS_step h0] at h
   rcases gs1_cases E i (gS E i) with e | ⟨_, h2, _⟩ | ⟨_, h2, _⟩
   . rw [e] at h; cases h
   . omega
   . omega
theorem opI_eq (E : EvS) (i : Nat) (t : Int) : opI (gN E i) (λ j => eTh E (gEv E i j)) (λ j => cOv (gEn E i j)) t = bif gP E i t then gV E i t else -1 := by
 have hL := gLk E i
 have hI := gInv E i
 cases hp : gP E i t with
 | true =>
   obtain ⟨a, b⟩ := hL.fw t hp
   obtain ⟨c, d⟩ := hI.v t hp
   have hlt : ((gS E i).v t).toNat < gN E i := by
    show _ < (gS E i).n
    omega
   have hj : opB (λ j => eTh E (gEv E i j)) (λ j => cOv (gEn E i j)) t ((gS E i).v t).toNat = true := decide_eq_true ⟨a, cOv_f.2 b⟩
   have hb : ∀ j, j < ((gS E i).v t).toNat -> opB (λ j => eTh E (gEv E i j)) (λ j => cOv (gEn E i j)) t j = false := λ j hjl => decide_eq_false λ h => by
    obtain ⟨h1, h2⟩ := h
    have h3 := hL.bw j (by omega) (cOv_f.1 h2)
    have h1 : eTh E ((gS E i).ev j) = t := h1
    rw [h1] at h3
    have := h3.2
    omega
   unfold opI
   rw [find_range hb hj (gN E i) hlt]
   show ((((gS E i).v t).toNat : Nat) : Int) = (gS E i).v t
   omega
 | false =>
   unfold opI
   have hb : ∀ j, j < gN E i -> opB (λ j => eTh E (gEv E i j)) (λ j => cOv (gEn E i j)) t j = false := λ j hj => decide_eq_false λ h => by
    obtain ⟨h1, h2⟩ := h
    have h3 := hL.bw j hj (cOv_f.1 h2)
    have h1 : eTh E ((gS E i).ev j) = t := h1
    rw [h1] at h3
    exact Bool.noConfusion (h3.1.symm.trans hp)
   rw [find_none hb]
   rfl
def fRk (ds : List Dx) : Option (Bool × Dx × List (List Dx)) := fGn ds
def wsB (th fr to : Nat -> Int) (ov : Nat -> Bool) (t a : Int) (j : Nat) : Bool := decide (th j = t /\ fr j <= a /\ (ov j = false ∨ a <= to j))
def wsV (n : Nat) (id th fr to : Nat -> Int) (ov : Nat -> Bool) (t a : Int) : Int := match (List.range n).find? (wsB th fr to ov t a) with | some j => id j | none => 0
def prWs (n : Nat) (th fr to : Nat -> Int) (ov : Nat -> Bool) (t a : Int) (i : Nat) : Prop := i <= n /\ ∀ j, j < i -> wsB th fr to ov t a j = false
def mWs (n i : Nat) : Nat := n - i
def annWs (n : Nat) (th fr to : Nat -> Int) (ov : Nat -> Bool) (t a : Int) (b : Nat) : Option (St -> LoopA) :=
 match b with
 | 0 => some λ _ => { ι := Nat, tms := [7], tmU := λ i => [.y .i64 (yInt i)], ids := [], hpU := λ _ => [], del := [], ex := 0, pre := prWs n th fr to ov t a, ms := mWs n }
 | _ => none
def fWs (ds : List Dx) : Option (Bool × Dx × List (List Dx)) :=
 match ds with
 | [.rows _ n [.int .i64 id, .int .i64 th, .int .i64 _, .int .u64 _, .int .u64 _, .int .u64 _, .int .i64 _, .int .i64 fr, .int .i64 to, .bool ov, .int .i64 _, .int .u64 _, .ls _ _ [.int .u64 _, .int .u64 _]], .v (.y .i64 t), .v (.y .i64 a)] => some (yNle n 1000000, .v (.y .i64 (wsV n id th fr to ov t a)), [])
 | _ => none
abbrev sRp : Sx := .pl kCl
def goalWs : Prop := ∀ (id th ok key val hi most fr to : Nat -> Int) (ov : Nat -> Bool) (rk rv : Nat -> Int) (nl : Nat -> Bool) (pn : Nat -> Nat) (pk pv : Nat -> Nat -> Int) (nil : Bool) (n : Nat) (t a : Int), yNle n 1000000 = true →
 wxH Try.prog noSm (annWs n th fr to ov t a) 62 [sRp, .sc, .sc] [.rows nil n (colsC id th ok key val hi most fr to ov rk rv nl pn pk pv), .v (.y .i64 t), .v (.y .i64 a)] .sc (.v (.y .i64 (wsV n id th fr to ov t a))) []
theorem goalWs_eq : goalWs = (∀ (id th ok key val hi most fr to : Nat -> Int) (ov : Nat -> Bool) (rk rv : Nat -> Int) (nl : Nat -> Bool) (pn : Nat -> Nat) (pk pv : Nat -> Nat -> Int) (nil : Bool) (n : Nat) (t a : Int), yNle n (nat_lit 1000000) = true -> true = true /\ (∃ (i0 : Nat), prWs n th fr to ov t a i0 /\ true = true /\ yInt i0 = (0 : Int) /\ true = true) /\ ∀ (g : Nat -> AV) (i : Nat), prWs n th fr to ov t a i -> (yLt (yInt i) (yInt n) = true -> (yIn (yInt i) n = true -> (yEq (th (yNat (yInt i))) t = true -> (yIn (yInt i) n = true -> (yLe (fr (yNat (yInt i))) a = true -> (yIn (yInt i) n = true -> (yNot (ov (yNat (yInt i))) = true -> (yIn (yInt i) n = true -> wsV n id th fr to ov t a = id (yNat (yInt i)) /\ true = true) /\ (yIn (yInt i) n = false -> False)) /\ (yNot (ov (yNat (yInt i))) = false -> (yIn (yInt i) n = true -> (yLe a (to (yNat (yInt i))) = true -> (yIn (yInt i) n = true -> wsV n id th fr to ov t a = id (yNat (yInt i)) /\ true = true) /\ (yIn (yInt i) n = false -> False)) /\ (yLe a (to (yNat (yInt i))) = false -> true = true /\ ∃ (i' : Nat), prWs n th fr to ov t a i' /\ Nat.succ (mWs n i') <= mWs n i /\ true = true /\ yInt i' = yWrap .i64 (yAdd (yInt i) 1) /\ true = true)) /\ (yIn (yInt i) n = false -> False))) /\ (yIn (yInt i) n = false -> False)) /\ (yLe (fr (yNat (yInt i))) a = false -> true = true /\ ∃ (i' : Nat), prWs n th fr to ov t a i' /\ Nat.succ (mWs n i') <= mWs n i /\ true = true /\ yInt i' = yWrap .i64 (yAdd (yInt i) 1) /\ true = true)) /\ (yIn (yInt i) n = false -> False)) /\ (yEq (th (yNat (yInt i))) t = false -> true = true /\ ∃ (i' : Nat), prWs n th fr to ov t a i' /\ Nat.succ (mWs n i') <= mWs n i /\ true = true /\ yInt i' = yWrap .i64 (yAdd (yInt i) 1) /\ true = true)) /\ (yIn (yInt i) n = false -> False)) /\ (yLt (yInt i) (yInt n) = false -> wsV n id th fr to ov t a = (0 : Int) /\ true = true)) := by kernel_rfl
theorem goalWs_ok : goalWs := by
 refine @kernel_go _ _ goalWs_eq ?_
 intro id th ok key val hi most fr to ov rk rv nl pn pk pv nil n t a hn
 simp only [vS, forall_const, and_true, Nat.zero_add] at hn ⊢
 have nxt : ∀ i, i < n -> prWs n th fr to ov t a i -> wsB th fr to ov t a i = false -> ∃ i', prWs n th fr to ov t a i' /\ (mWs n i').succ <= mWs n i /\ (i' : Int) = yWrap .i64 ((i : Int) + 1) := λ i hi hp hb =>
  ⟨i + 1, ⟨hi, λ j hj => by
   rcases Nat.lt_succ_iff_lt_or_eq.1 hj with h | rfl
   . exact hp.2 j h
   . exact hb⟩, by unfold mWs; omega, by rw [wrap64 (by omega) (by omega)]; omega⟩
 have fnd : ∀ i, i < n -> prWs n th fr to ov t a i -> wsB th fr to ov t a i = true -> wsV n id th fr to ov t a = id i := λ i hi hp hb => by
  unfold wsV
  rw [find_range hp.2 hb n hi]
 refine ⟨⟨0, ⟨Nat.zero_le _, λ j hj => absurd hj (Nat.not_lt_zero _)⟩, rfl⟩, λ _ i hp => ⟨λ hlt => ?_, λ hge => ?_⟩⟩
 . have hi : i < n := by omega
   have hin : 0 <= (i : Int) /\ (i : Int) < (n : Int) := ⟨by omega, hlt⟩
   refine ⟨λ _ => ⟨λ e1 => ⟨λ _ => ⟨λ e2 => ⟨λ _ => ⟨λ e3 => ⟨λ _ => ?_, λ h => h hin⟩, λ e3 => ⟨λ _ => ⟨λ e4 => ⟨λ _ => ?_, λ h => h hin⟩, λ e4 => ?_⟩, λ h => h hin⟩⟩, λ h => h hin⟩, λ e2 => ?_⟩, λ h => h hin⟩, λ e1 => ?_⟩, λ h => h hin⟩
   . exact fnd i hi hp (decide_eq_true ⟨e1, e2, .inl e3⟩)
   . exact fnd i hi hp (decide_eq_true ⟨e1, e2, .inr e4⟩)
   . refine nxt i hi hp (decide_eq_false ?_)
     rintro ⟨_, _, h | h⟩
     . rw [e3] at h; cases h
     . omega
   . refine nxt i hi hp (decide_eq_false ?_)
     rintro ⟨_, h, _⟩; omega
   . refine nxt i hi hp (decide_eq_false ?_)
     rintro ⟨h, _⟩; exact e1 h
 . unfold wsV
   have hpn := hp.1
   rw [find_none (λ j hj => hp.2 j (by omega))]
theorem smWs (hm : Try.prog.follows .mixedOrders = true) : SmCall Try.prog 62 (λ args h => (ctX [sRp, .sc, .sc] .sc fWs args h).sel) :=
 ctX_ok hm noSm_ok (λ ds r post h => by
  unfold fWs at h
  split at h
  . rename_i nil n id th ok key val hi most fr to ov rk rv nl pn pk pv t a
    simp only [sI, Prod.mk.injEq] at h
    obtain ⟨h1, rfl, rfl⟩ := h
    refine ⟨annWs n th fr to ov t a, 1000, ?_⟩
    have h2 := @goalWs_ok
    unfold goalWs at h2
    revert h1
    exact @h2 id th ok key val hi most fr to ov rk rv nl pn pk pv nil n t a
  . cases h)
def fullE (ov : Bool) (ok rk rv : Int) (n : Nat) (a0 a1 : Nat -> Int) : Bool := yAnd ov (yAnd (yEq ok 2) (sameRes rk rv n a0 a1 3 0 0 (λ _ => 0) (λ _ => 0)))
abbrev gCa : List Ag := [.agg [none, none, none, none, none, none, none, none, none, none, none, none, cPair]]
def lFu : List (Nat × Sm) := [(25, .ct (ctS gResult fSame)), (64, .ct (ctS gResult fSame))]
def fFu (ds : List Da) : Option (Bool × AV) :=
 match ds with
 | [.agg [.v (.y .i64 _), .v (.y .i64 _), .v (.y .i64 ok), .v (.y .u64 _), .v (.y .u64 _), .v (.y .u64 _), .v (.y .i64 _), .v (.y .i64 _), .v (.y .i64 _), .v (.yb ov), .v (.y .i64 rk), .v (.y .u64 rv), .rows _ n [.int .u64 a0, .int .u64 a1]]] => some (yNle n 1000000, .yb (fullE ov ok rk rv n a0 a1))
 | _ => none
def goalFu (f : FuncId) : Prop := ∀ (id th ok key val hi most fr to : Int) (ov : Bool) (rk rv : Int) (nl : Bool) (n : Nat) (a0 a1 : Nat -> Int), yNle n 1000000 = true →
 wxF Try.prog (smL lFu) (λ _ => none) 1000 f (canA gCa [.agg [.v (.y .i64 id), .v (.y .i64 th), .v (.y .i64 ok), .v (.y .u64 key), .v (.y .u64 val), .v (.y .u64 hi), .v (.y .i64 most), .v (.y .i64 fr), .v (.y .i64 to), .v (.yb ov), .v (.y .i64 rk), .v (.y .u64 rv), .rows nl n [.int .u64 a0, .int .u64 a1]]] []).1 (heapOf (canA gCa [.agg [.v (.y .i64 id), .v (.y .i64 th), .v (.y .i64 ok), .v (.y .u64 key), .v (.y .u64 val), .v (.y .u64 hi), .v (.y .i64 most), .v (.y .i64 fr), .v (.y .i64 to), .v (.yb ov), .v (.y .i64 rk), .v (.y .u64 rv), .rows nl n [.int .u64 a0, .int .u64 a1]]] []).2) (λ r _ => cmpC (.yb (fullE ov ok rk rv n a0 a1)) r)
def goalFuR : Prop := goalFu 24
def goalFuM : Prop := goalFu 95
theorem goalFuR_eq : goalFuR = (∀ (id th ok key val hi most fr to : Int) (ov : Bool) (rk rv : Int) (nl : Bool) (n : Nat) (a0 a1 : Nat -> Int), yNle n (nat_lit 1000000) = true -> (ov = true -> (yEq ok (2 : Int) = true -> (yNle (yNadd 0 n) n = true -> ((yCol (CK.int .u64) n λ (i : Nat) => AV.y .u64 (a0 i)) = true -> ((yCol (CK.int .u64) n λ (i : Nat) => AV.y .u64 (a1 i)) = true -> (yNle n (nat_lit 1000000) = true -> fullE ov ok rk rv n a0 a1 = sameRes rk rv n (λ (i : Nat) => a0 i) (λ (i : Nat) => a1 i) 3 0 0 (λ (i : Nat) => (0 : Int)) λ (i : Nat) => (0 : Int)) /\ (yNle n (nat_lit 1000000) = false -> False)) /\ ((yCol (CK.int .u64) n λ (i : Nat) => AV.y .u64 (a1 i)) = false -> False)) /\ ((yCol (CK.int .u64) n λ (i : Nat) => AV.y .u64 (a0 i)) = false -> False)) /\ (yNle (yNadd 0 n) n = false -> False)) /\ (yEq ok (2 : Int) = false -> fullE ov ok rk rv n a0 a1 = false)) /\ (ov = false -> fullE ov ok rk rv n a0 a1 = false)) := by kernel_rfl
theorem goalFuM_eq : goalFuM = (∀ (id th ok key val hi most fr to : Int) (ov : Bool) (rk rv : Int) (nl : Bool) (n : Nat) (a0 a1 : Nat -> Int), yNle n (nat_lit 1000000) = true -> (ov = true -> (yEq ok (2 : Int) = true -> (yNle (yNadd 0 n) n = true -> ((yCol (CK.int .u64) n λ (i : Nat) => AV.y .u64 (a0 i)) = true -> ((yCol (CK.int .u64) n λ (i : Nat) => AV.y .u64 (a1 i)) = true -> (yNle n (nat_lit 1000000) = true -> fullE ov ok rk rv n a0 a1 = sameRes rk rv n (λ (i : Nat) => a0 i) (λ (i : Nat) => a1 i) 3 0 0 (λ (i : Nat) => (0 : Int)) λ (i : Nat) => (0 : Int)) /\ (yNle n (nat_lit 1000000) = false -> False)) /\ ((yCol (CK.int .u64) n λ (i : Nat) => AV.y .u64 (a1 i)) = false -> False)) /\ ((yCol (CK.int .u64) n λ (i : Nat) => AV.y .u64 (a0 i)) = false -> False)) /\ (yNle (yNadd 0 n) n = false -> False)) /\ (yEq ok (2 : Int) = false -> fullE ov ok rk rv n a0 a1 = false)) /\ (ov = false -> fullE ov ok rk rv n a0 a1 = false)) := by kernel_rfl
theorem fullE_ok {f : FuncId} (he : goalFu f = (∀ (id th ok key val hi most fr to : Int) (ov : Bool) (rk rv : Int) (nl : Bool) (n : Nat) (a0 a1 : Nat -> Int), yNle n (nat_lit 1000000) = true -> (ov = true -> (yEq ok (2 : Int) = true -> (yNle (yNadd 0 n) n = true -> ((yCol (CK.int .u64) n λ (i : Nat) => AV.y .u64 (a0 i)) = true -> ((yCol (CK.int .u64) n λ (i : Nat) => AV.y .u64 (a1 i)) = true -> (yNle n (nat_lit 1000000) = true -> fullE ov ok rk rv n a0 a1 = sameRes rk rv n (λ (i : Nat) => a0 i) (λ (i : Nat) => a1 i) 3 0 0 (λ (i : Nat) => (0 : Int)) λ (i : Nat) => (0 : Int)) /\ (yNle n (nat_lit 1000000) = false -> False)) /\ ((yCol (CK.int .u64) n λ (i : Nat) => AV.y .u64 (a1 i)) = false -> False)) /\ ((yCol (CK.int .u64) n λ (i : Nat) => AV.y .u64 (a0 i)) = false -> False)) /\ (yNle (yNadd 0 n) n = false -> False)) /\ (yEq ok (2 : Int) = false -> fullE ov ok rk rv n a0 a1 = false)) /\ (ov = false -> fullE ov ok rk rv n a0 a1 = false))) : goalFu f := by
 refine @kernel_go _ _ he ?_
 intro id th ok key val hi most fr to ov rk rv nl n a0 a1 hn
 simp only [vS, forall_const] at hn ⊢
 unfold fullE
 refine ⟨λ h => ⟨λ h2 => ?_, λ h2 => ?_⟩, λ h => ?_⟩
 . have e : yEq ok 2 = true := decide_eq_true h2
   rw [h, e]
   exact ⟨⟨λ _ => rfl, λ h => by omega⟩, λ h => by omega⟩
 . have e : yEq ok 2 = false := decide_eq_false h2
   rw [e]; cases ov <;> rfl
 . rw [h]; rfl
theorem goalFuR_ok : goalFu 24 := @fullE_ok _ goalFuR_eq
theorem goalFuM_ok : goalFu 95 := @fullE_ok _ goalFuM_eq
theorem smFu (hm : Try.prog.follows .mixedOrders = true) (hs : SmOK Try.prog (smL lFu)) {f : FuncId} (hf : goalFu f) : SmCall Try.prog f (λ args h => (ctS gCa fFu args h).sel) :=
 ctS_ok hm hs (by decide) (λ ds a h => by
  unfold fFu at h
  split at h
  . rename_i id th ok key val hi most fr to ov rk rv nl n a0 a1
    simp only [sI, Prod.mk.injEq] at h
    obtain ⟨h1, rfl⟩ := h
    have h2 := hf
    unfold goalFu at h2
    exact ⟨λ _ => none, 1000, @h2 id th ok key val hi most fr to ov rk rv nl n a0 a1 h1⟩
  . cases h)
def fmO (key hi : Int) (pk : Nat -> Int) (i : Nat) : Bool := decide (pk i < key ∨ hi < pk i)
def fmB (key hi : Int) (pk : Nat -> Int) (i : Nat) : Bool := decide (pk i < key ∨ hi < pk i ∨ (0 < i /\ pk i <= pk (i - 1)))
def fmK (key hi most : Int) (n : Nat) (pk : Nat -> Int) : Int := if most < n then 0 else match (List.range n).find? (fmB key hi pk) with | some i => pk i | none => 0
def fmE (key hi most : Int) (n : Nat) (pk : Nat -> Int) : Int := if most < n then 8 else match (List.range n).find? (fmB key hi pk) with | some i => (bif fmO key hi pk i then 5 else 13) | none => 0
def prFm (key hi most : Int) (n : Nat) (pk : Nat -> Int) (i : Nat) : Prop := i <= n /\ ¬ most < n /\ ∀ j, j < i -> fmB key hi pk j = false
def mFm (n i : Nat) : Nat := n - i
def annFm (key hi most : Int) (n : Nat) (pk : Nat -> Int) (b : Nat) : Option (St -> LoopA) :=
 match b with
 | 0 => some λ _ => { ι := Nat, tms := [18], tmU := λ i => [.y .i64 (yInt i)], ids := [], hpU := λ _ => [], del := [], ex := 0, pre := prFm key hi most n pk, ms := mFm n }
 | _ => none
abbrev sCal : Sx := .agg [.sc, .sc, .sc, .sc, .sc, .sc, .sc, .sc, .sc, .sc, .sc, .sc, .pl [.int .u64, .int .u64]]
def fFm (ds : List Dx) : Option (Bool × Dx × List (List Dx)) :=
 match ds with
 | [.l [.v (.y .i64 _), .v (.y .i64 _), .v (.y .i64 _), .v (.y .u64 key), .v (.y .u64 _), .v (.y .u64 hi), .v (.y .i64 most), .v (.y .i64 _), .v (.y .i64 _), .v (.yb _), .v (.y .i64 _), .v (.y .u64 _), .rows _ n [.int .u64 pk, .int .u64 _]]] => some (yNle n 1000000, .l [.v (.y .u64 (fmK key hi most n pk)), .v (.y .i64 (fmE key hi most n pk))], [])
 | _ => none
def goalFm : Prop := ∀ (id th ok key val hi most fr to : Int) (ov : Bool) (rk rv : Int) (nl : Bool) (n : Nat) (pk pv : Nat -> Int), yNle n 1000000 = true →
 wxH Try.prog noSm (annFm key hi most n pk) 53 [sCal] [.l [.v (.y .i64 id), .v (.y .i64 th), .v (.y .i64 ok), .v (.y .u64 key), .v (.y .u64 val), .v (.y .u64 hi), .v (.y .i64 most), .v (.y .i64 fr), .v (.y .i64 to), .v (.yb ov), .v (.y .i64 rk), .v (.y .u64 rv), .rows nl n [.int .u64 pk, .int .u64 pv]]] (.tup [.sc, .sc]) (.l [.v (.y .u64 (fmK key hi most n pk)), .v (.y .i64 (fmE key hi most n pk))]) []
theorem goalFm_eq : goalFm = (∀ (id th ok key val hi most fr to : Int) (ov : Bool) (rk rv : Int) (nl : Bool) (n : Nat) (pk pv : Nat -> Int), yNle n (nat_lit 1000000) = true -> (yLt most (yInt n) = true -> fmK key hi most n pk = (0 : Int) /\ fmE key hi most n pk = (8 : Int) /\ true = true) /\ (yLt most (yInt n) = false -> true = true /\ (∃ (i0 : Nat), prFm key hi most n pk i0 /\ true = true /\ yInt i0 = (0 : Int) /\ true = true) /\ ∀ (g : Nat -> AV) (i : Nat), prFm key hi most n pk i -> (yLt (yInt i) (yInt n) = true -> (yIn (yInt i) n = true -> (yLt (pk (yNat (yInt i))) key = true -> fmK key hi most n pk = pk (yNat (yInt i)) /\ fmE key hi most n pk = (5 : Int) /\ true = true) /\ (yLt (pk (yNat (yInt i))) key = false -> (yLt hi (pk (yNat (yInt i))) = true -> fmK key hi most n pk = pk (yNat (yInt i)) /\ fmE key hi most n pk = (5 : Int) /\ true = true) /\ (yLt hi (pk (yNat (yInt i))) = false -> (yLt 0 (yInt i) = true -> (yIn (yWrap .i64 (ySub (yInt i) 1)) n = true -> (yLe (pk (yNat (yInt i))) (pk (yNat (yWrap .i64 (ySub (yInt i) 1)))) = true -> fmK key hi most n pk = pk (yNat (yInt i)) /\ fmE key hi most n pk = (13 : Int) /\ true = true) /\ (yLe (pk (yNat (yInt i))) (pk (yNat (yWrap .i64 (ySub (yInt i) 1)))) = false -> true = true /\ ∃ (i' : Nat), prFm key hi most n pk i' /\ Nat.succ (mFm n i') <= mFm n i /\ true = true /\ yInt i' = yWrap .i64 (yAdd (yInt i) 1) /\ true = true)) /\ (yIn (yWrap .i64 (ySub (yInt i) 1)) n = false -> False)) /\ (yLt 0 (yInt i) = false -> true = true /\ ∃ (i' : Nat), prFm key hi most n pk i' /\ Nat.succ (mFm n i') <= mFm n i /\ true = true /\ yInt i' = yWrap .i64 (yAdd (yInt i) 1) /\ true = true)))) /\ (yIn (yInt i) n = false -> False)) /\ (yLt (yInt i) (yInt n) = false -> fmK key hi most n pk = (0 : Int) /\ fmE key hi most n pk = (0 : Int) /\ true = true))) := by kernel_rfl
theorem goalFm_ok : goalFm := by
 refine @kernel_go _ _ goalFm_eq ?_
 intro id th ok key val hi most fr to ov rk rv nl n pk pv hn
 simp only [vS, forall_const] at hn ⊢
 have nxt : ∀ i, i < n -> prFm key hi most n pk i -> fmB key hi pk i = false -> ∃ i', prFm key hi most n pk i' /\ (mFm n i').succ <= mFm n i /\ (i' : Int) = yWrap .i64 ((i : Int) + 1) := λ i hi' hp hb =>
  ⟨i + 1, ⟨hi', hp.2.1, λ j hj => by
   rcases Nat.lt_succ_iff_lt_or_eq.1 hj with h | rfl
   . exact hp.2.2 j h
   . exact hb⟩, by unfold mFm; omega, by rw [wrap64 (by omega) (by omega)]; omega⟩
 have fnd : ∀ i, i < n -> prFm key hi most n pk i -> fmB key hi pk i = true -> fmK key hi most n pk = pk i /\ fmE key hi most n pk = bif fmO key hi pk i then 5 else 13 := λ i hi' hp hb => by
  unfold fmK fmE
  rw [if_neg hp.2.1, if_neg hp.2.1, find_range hp.2.2 hb n hi']
  exact ⟨rfl, rfl⟩
 have out : ∀ i, i < n -> prFm key hi most n pk i -> (pk i < key ∨ hi < pk i) -> fmK key hi most n pk = pk i /\ fmE key hi most n pk = 5 := λ i hi' hp h => by
  have := fnd i hi' hp (decide_eq_true (h.elim .inl λ h => .inr (.inl h)))
  rw [show fmO key hi pk i = true from decide_eq_true h] at this
  exact this
 refine ⟨λ h => ?_, λ hmo => ⟨⟨0, ⟨Nat.zero_le _, by omega, λ j hj => absurd hj (Nat.not_lt_zero _)⟩, rfl⟩, λ _ i hp => ⟨λ hlt => ⟨λ _ => ⟨λ e1 => ?_, λ e1 => ⟨λ e2 => ?_, λ e2 => ⟨λ e3 => ⟨λ _ => ⟨λ e4 => ?_, λ e4 => ?_⟩, λ h => ?_⟩, λ e3 => ?_⟩⟩⟩, λ h => h ⟨by omega, hlt⟩⟩, λ hge => ?_⟩⟩⟩
 . unfold fmK fmE; rw [if_pos h, if_pos h]; exact ⟨rfl, rfl⟩
 . exact out i (by omega) hp (.inl e1)
 . exact out i (by omega) hp (.inr e2)
 . have e : yNat (yWrap .i64 ((i : Int) - 1)) = i - 1 := by rw [wrap64 (by omega) (by omega)]; unfold yNat; omega
   rw [e] at e4
   have := fnd i (by omega) hp (decide_eq_true (.inr (.inr ⟨by omega, e4⟩)))
   rw [show fmO key hi pk i = false from decide_eq_false (by omega)] at this
   exact this
 . have e : yNat (yWrap .i64 ((i : Int) - 1)) = i - 1 := by rw [wrap64 (by omega) (by omega)]; unfold yNat; omega
   rw [e] at e4
   exact nxt i (by omega) hp (decide_eq_false (by omega))
 . rw [wrap64 (by omega) (by omega)] at h; exact h (by omega)
 . exact nxt i (by omega) hp (decide_eq_false (by omega))
 . have hpn := hp.1
   unfold fmK fmE
   rw [if_neg hp.2.1, if_neg hp.2.1, find_none (λ j hj => hp.2.2 j (by omega))]
   exact ⟨rfl, rfl⟩
theorem smFm (hm : Try.prog.follows .mixedOrders = true) : SmCall Try.prog 53 (λ args h => (ctX [sCal] (.tup [.sc, .sc]) fFm args h).sel) :=
 ctX_ok hm noSm_ok (λ ds r post h => by
  unfold fFm at h
  split at h
  . rename_i id th ok key val hi most fr to ov rk rv nl n pk pv
    simp only [sI, Prod.mk.injEq] at h
    obtain ⟨h1, rfl, rfl⟩ := h
    refine ⟨annFm key hi most n pk, 1000, ?_⟩
    have h2 := @goalFm_ok
    unfold goalFm at h2
    exact @h2 id th ok key val hi most fr to ov rk rv nl n pk pv h1
  . cases h)
def prs (n : Nat) (a0 a1 : Nat -> Int) : List (Int × Int) := (List.range n).map λ j => (a0 j, a1 j)
def rN (l : List (Int × Int)) : Nat := l.length
def rA (l : List (Int × Int)) (i : Nat) : Int := (l.getD i (0, 0)).1
def rB (l : List (Int × Int)) (i : Nat) : Int := (l.getD i (0, 0)).2
def rE (l : List (Int × Int)) : Bool := l.isEmpty
def mTo (n i : Nat) : Nat := n - i
abbrev cols2 (a0 a1 : Nat -> Int) : List Col := [.int .u64 a0, .int .u64 a1]
abbrev rowsL (l : List (Int × Int)) : Dx := .rows (rE l) (rN l) (cols2 (rA l) (rB l))
abbrev roP : Sx := .ro 113 [.int .u64, .int .u64]
abbrev ownP : Sx := .own 113 [.int .u64, .int .u64]
abbrev slP (id : Nat) (l : List (Int × Int)) : AV := .ysl false (rE l) id 2 0 (rN l)
abbrev arP (l : List (Int × Int)) : AO := .arr false 113 2 (rN l) (colF (cols2 (rA l) (rB l)))
abbrev wxP (P : Program) (sm : FuncId -> Option Sm) (ann : Nat -> Option (St -> LoopA)) (f : FuncId) (ss : List Sx) (ds : List Dx) (rs : Sx) (r : Dx) (post : List (List Dx)) : Prop :=
 wxF P sm ann 1000 f (canXs nmI ss ds []).1 (heapOf (canXs nmI ss ds []).2)
  (postX (canXs nmI ss ds []).2.length (delX 0 (canXs nmI ss ds []).2 (ptrId ss (canXs nmI ss ds []).1)) (ptrId ss (canXs nmI ss ds []).1) (expR (λ j => (canXs nmI ss ds []).2.length + j) (ptrSh ss ds) rs r post))
theorem prs_succ (i : Nat) (a0 a1 : Nat -> Int) : prs (i + 1) a0 a1 = prs i a0 a1 ++ [(a0 i, a1 i)] := by simp [prs, List.range_succ]
theorem prs_len (i : Nat) (a0 a1 : Nat -> Int) : (prs i a0 a1).length = i := by simp [prs]
theorem rN_snoc (l : List (Int × Int)) (x : Int × Int) : rN (l ++ [x]) = rN l + 1 := by simp [rN]
theorem rE_snoc (l : List (Int × Int)) (x : Int × Int) : rE (l ++ [x]) = false := by simp [rE]
theorem rA_snoc (l : List (Int × Int)) (x : Int × Int) {j : Nat} (h : j < rN l + 1) : rA (l ++ [x]) j = ySel (yNlt j (rN l)) (rA l j) x.1 := by
 unfold rN at h
 unfold rA ySel yNlt rN
 rw [List.getD_eq_getElem?_getD, List.getD_eq_getElem?_getD, List.getElem?_append]
 by_cases hj : j < l.length
 . simp [hj]
 . have : j = l.length := by omega
   subst this; simp
theorem rB_snoc (l : List (Int × Int)) (x : Int × Int) {j : Nat} (h : j < rN l + 1) : rB (l ++ [x]) j = ySel (yNlt j (rN l)) (rB l j) x.2 := by
 unfold rN at h
 unfold rB ySel yNlt rN
 rw [List.getD_eq_getElem?_getD, List.getD_eq_getElem?_getD, List.getElem?_append]
 by_cases hj : j < l.length
 . simp [hj]
 . have : j = l.length := by omega
   subst this; simp
theorem rA_snoc2 (l : List (Int × Int)) (x y : Int × Int) {j : Nat} (h : j < rN l + 1 + 1) : rA (l ++ [x] ++ [y]) j = ySel (yNlt j (rN l + 1)) (ySel (yNlt j (rN l)) (rA l j) x.1) y.1 := by
 rw [rA_snoc _ y (by rw [rN_snoc]; exact h), rN_snoc]
 by_cases hj : j < rN l + 1
 . rw [rA_snoc _ x hj]
 . simp [ySel, yNlt, hj]
theorem rB_snoc2 (l : List (Int × Int)) (x y : Int × Int) {j : Nat} (h : j < rN l + 1 + 1) : rB (l ++ [x] ++ [y]) j = ySel (yNlt j (rN l + 1)) (ySel (yNlt j (rN l)) (rB l j) x.2) y.2 := by
 rw [rB_snoc _ y (by rw [rN_snoc]; exact h), rN_snoc]
 by_cases hj : j < rN l + 1
 . rw [rB_snoc _ x hj]
 . simp [ySel, yNlt, hj]
theorem yAnd10 (b : Bool) : yAnd b (yNeq 1 0) = false := by cases b <;> rfl
def sortB (n : Nat) (a : Nat -> Int) : Bool := (List.range n).all λ i => (List.range i).all λ j => decide (a j < a i)
def belowN (n : Nat) (a : Nat -> Int) (k : Int) : Int := ((List.range n).filter λ i => decide (a i < k)).length
def wantV (lo hi : Nat) : Int := if hi <= lo then -1 else (lo : Int) + ((hi : Int) - lo) / 2
def skPre (n : Nat) (a : Nat -> Int) (k : Int) (i : Nat × Nat) : Prop := i.1 <= i.2 /\ i.2 <= n /\ (∀ j, j < i.1 -> a j < k) /\ ∀ j, i.2 <= j -> j < n -> k <= a j
def skMs (i : Nat × Nat) : Nat := i.2 - i.1
def annTo (n : Nat) (a : Nat -> Int) (k : Int) (b : Nat) : Option (St -> LoopA) :=
 match b with
 | 0 => some λ _ => { ι := Nat × Nat, tms := [5], tmU := λ i => [.y .i64 (wantV i.1 i.2)], ids := [2], hpU := λ i => [.cells [.y .i64 1, .y .i64 (yInt i.1), .y .i64 (yInt i.2), .y .u64 k] 197 none], del := [], ex := 0, pre := skPre n a k, ms := skMs }
 | _ => none
abbrev sTo : List Sx := [.agg [.sc, .sc, .sc, .sc], .fn 122 [.ptr 52 [.ro 34 [.int .u64]]]]
abbrev dTo (nil : Bool) (n : Nat) (a : Nat -> Int) (k : Int) : List Dx := [.l [.v (.y .i64 1), .v (.y .i64 0), .v (.y .i64 (yInt n)), .v (.y .u64 k)], .l [.l [.rows nil n [.int .u64 a]]]]
def goalTo : Prop := ∀ (nil : Bool) (n : Nat) (a : Nat -> Int) (k : Int), yNle n 100000000 = true -> sortB n a = true →
 wxP Try.prog noSm (annTo n a k) 120 sTo (dTo nil n a k) .sc (.v (.y .i64 (belowN n a k))) []
def goalTo_1 (i : Nat × Nat) := yAdd (yInt i.1) (yQuo .i64 (yWrap .i64 (ySub (yInt i.2) (yInt i.1))) 2)
def goalTo_2 (i : Nat × Nat) (n : Nat) (a : Nat -> Int) (k : Int) := yLe (yInt i.2) (yWrap .i64 (yAdd (yWrap .i64 (goalTo_1 i)) 1)) = false -> (yEq 2 (0 : Int) = true -> False) /\ (yEq 2 (0 : Int) = false -> true = true /\ ∃ (i' : Nat × Nat), skPre n a k i' /\ Nat.succ (skMs i') <= skMs i /\ true = true /\ wantV i'.1 i'.2 = yWrap .i64 (yAdd (yWrap .i64 (yAdd (yWrap .i64 (goalTo_1 i)) 1)) (yQuo .i64 (yWrap .i64 (ySub (yInt i.2) (yWrap .i64 (yAdd (yWrap .i64 (goalTo_1 i)) 1)))) 2)) /\ (1 : Int) = (1 : Int) /\ yInt i'.1 = yWrap .i64 (yAdd (yWrap .i64 (goalTo_1 i)) 1) /\ yInt i'.2 = yInt i.2 /\ k = k /\ true = true)
def goalTo_3 (i : Nat × Nat) (n : Nat) (a : Nat -> Int) (k : Int) := yLe (yWrap .i64 (goalTo_1 i)) (yInt i.1) = false -> (yEq 2 (0 : Int) = true -> False) /\ (yEq 2 (0 : Int) = false -> true = true /\ ∃ (i' : Nat × Nat), skPre n a k i' /\ Nat.succ (skMs i') <= skMs i /\ true = true /\ wantV i'.1 i'.2 = yWrap .i64 (yAdd (yInt i.1) (yQuo .i64 (yWrap .i64 (ySub (yWrap .i64 (goalTo_1 i)) (yInt i.1))) 2)) /\ (1 : Int) = (1 : Int) /\ yInt i'.1 = yInt i.1 /\ yInt i'.2 = yWrap .i64 (goalTo_1 i) /\ k = k /\ true = true)
def goalTo_4 (i : Nat × Nat) (n : Nat) (a : Nat -> Int) (k : Int) := yLe (yInt i.2) (yWrap .i64 (yAdd (yWrap .i64 (goalTo_1 i)) 1)) = true -> true = true /\ ∃ (i' : Nat × Nat), skPre n a k i' /\ Nat.succ (skMs i') <= skMs i /\ true = true /\ wantV i'.1 i'.2 = (-1 : Int) /\ (1 : Int) = (1 : Int) /\ yInt i'.1 = yWrap .i64 (yAdd (yWrap .i64 (goalTo_1 i)) 1) /\ yInt i'.2 = yInt i.2 /\ k = k /\ true = true
def goalTo_5 (i : Nat × Nat) (n : Nat) (a : Nat -> Int) (k : Int) := yLe (yInt i.2) (yInt i.1) = false -> (yEq 2 (0 : Int) = true -> False) /\ (yEq 2 (0 : Int) = false -> true = true /\ ∃ (i' : Nat × Nat), skPre n a k i' /\ Nat.succ (skMs i') <= skMs i /\ true = true /\ wantV i'.1 i'.2 = yWrap .i64 (goalTo_1 i) /\ (1 : Int) = (1 : Int) /\ yInt i'.1 = yInt i.1 /\ yInt i'.2 = yInt i.2 /\ k = k /\ true = true)
def goalTo_6 (i : Nat × Nat) (n : Nat) (a : Nat -> Int) (k : Int) := yLe (yWrap .i64 (goalTo_1 i)) (yInt i.1) = true -> true = true /\ ∃ (i' : Nat × Nat), skPre n a k i' /\ Nat.succ (skMs i') <= skMs i /\ true = true /\ wantV i'.1 i'.2 = (-1 : Int) /\ (1 : Int) = (1 : Int) /\ yInt i'.1 = yInt i.1 /\ yInt i'.2 = yWrap .i64 (goalTo_1 i) /\ k = k /\ true = true
def goalTo_7 (i : Nat × Nat) (n : Nat) (a : Nat -> Int) (k : Int) := yLe (yInt i.2) (yInt i.1) = true -> true = true /\ ∃ (i' : Nat × Nat), skPre n a k i' /\ Nat.succ (skMs i') <= skMs i /\ true = true /\ wantV i'.1 i'.2 = (-1 : Int) /\ (1 : Int) = (1 : Int) /\ yInt i'.1 = yInt i.1 /\ yInt i'.2 = yInt i.2 /\ k = k /\ true = true
def goalTo_0 (i : Nat × Nat) (n : Nat) (a : Nat -> Int) (k : Int) := yLe 0 (wantV i.1 i.2) = true -> mst (yIn (wantV i.1 i.2) n) (mst (yNlt (yNadd 0 (yNat (wantV i.1 i.2))) n) ((yLe (yInt i.2) (yInt i.1) = true -> (goalTo_7 i n a k) /\ (goalTo_5 i n a k)) /\ (yLe (yInt i.2) (yInt i.1) = false -> (yEq 2 (0 : Int) = true -> False) /\ (yEq 2 (0 : Int) = false -> (yLt (yWrap .i64 (goalTo_1 i)) (0 : Int) = true -> (goalTo_7 i n a k) /\ (goalTo_5 i n a k)) /\ (yLt (yWrap .i64 (goalTo_1 i)) (0 : Int) = false -> (yEq 1 (1 : Int) = true -> (yLt (a (yNadd 0 (yNat (wantV i.1 i.2)))) k = true -> (goalTo_4 i n a k) /\ (goalTo_2 i n a k)) /\ (yLt (a (yNadd 0 (yNat (wantV i.1 i.2)))) k = false -> (goalTo_6 i n a k) /\ (goalTo_3 i n a k))) /\ (yEq 1 (1 : Int) = false -> (yLe (a (yNadd 0 (yNat (wantV i.1 i.2)))) k = true -> (goalTo_4 i n a k) /\ (goalTo_2 i n a k)) /\ (yLe (a (yNadd 0 (yNat (wantV i.1 i.2)))) k = false -> (goalTo_6 i n a k) /\ (goalTo_3 i n a k))))))))
def goalToV : Prop := (∀ (nil : Bool) (n : Nat) (a : Nat -> Int) (k : Int), yNle n (nat_lit 100000000) = true -> sortB n a = true -> (yLe (yInt n) (0 : Int) = true -> true = true /\ (∃ (i0 : Nat × Nat), skPre n a k i0 /\ true = true /\ wantV i0.1 i0.2 = (-1 : Int) /\ (1 : Int) = (1 : Int) /\ yInt i0.1 = (0 : Int) /\ yInt i0.2 = yInt n /\ k = k /\ true = true) /\ ∀ (g : Nat -> AV) (i : Nat × Nat), skPre n a k i -> (goalTo_0 i n a k) /\ (yLe 0 (wantV i.1 i.2) = false -> belowN n a k = yInt i.1 /\ true = true)) /\ (yLe (yInt n) (0 : Int) = false -> (yEq 2 (0 : Int) = true -> False) /\ (yEq 2 (0 : Int) = false -> true = true /\ (∃ (i0 : Nat × Nat), skPre n a k i0 /\ true = true /\ wantV i0.1 i0.2 = yWrap .i64 (yAdd 0 (yQuo .i64 (yWrap .i64 (ySub (yInt n) 0)) 2)) /\ (1 : Int) = (1 : Int) /\ yInt i0.1 = (0 : Int) /\ yInt i0.2 = yInt n /\ k = k /\ true = true) /\ ∀ (g : Nat -> AV) (i : Nat × Nat), skPre n a k i -> (goalTo_0 i n a k) /\ (yLe 0 (wantV i.1 i.2) = false -> belowN n a k = yInt i.1 /\ true = true))))
theorem goalTo_eq : goalTo = goalToV := by kernel_rfl
theorem midE {lo hi : Nat} (h1 : lo < hi) (h2 : hi <= 100000000) : yWrap .i64 ((lo : Int) + yQuo .i64 (yWrap .i64 ((hi : Int) - lo)) 2) = ((lo + (hi - lo) / 2 : Nat) : Int) := by
 rw [wrap64 (n := (hi : Int) - lo) (by omega) (by omega)]
 have e : yQuo .i64 ((hi : Int) - lo) 2 = (((hi - lo) / 2 : Nat) : Int) := by
  unfold yQuo
  rw [show ((hi : Int) - lo) = ((hi - lo : Nat) : Int) by omega, Int.tdiv_eq_ediv_of_nonneg (by omega)]
  exact (wrap64 (n := ((hi - lo : Nat) : Int) / 2) (by omega) (by omega)).trans (by omega)
 rw [e, wrap64 (by omega) (by omega)]
 omega
theorem wantE {lo hi : Nat} (h1 : lo < hi) : wantV lo hi = ((lo + (hi - lo) / 2 : Nat) : Int) := by
 unfold wantV; rw [if_neg (by omega)]; omega
theorem wantN {lo hi : Nat} (h1 : hi <= lo) : wantV lo hi = -1 := by
 unfold wantV; rw [if_pos h1]
theorem below_eq {n : Nat} {a : Nat -> Int} {k : Int} {lo : Nat} (h1 : lo <= n) (h2 : ∀ j, j < lo -> a j < k) (h3 : ∀ j, lo <= j -> j < n -> k <= a j) : belowN n a k = lo := by
 have : (List.range n).filter (λ i => decide (a i < k)) = List.range lo := by
  rw [show n = lo + (n - lo) by omega, List.range_add, List.filter_append, List.filter_eq_self.2 (λ x hx => by simpa using h2 x (List.mem_range.1 hx)), List.filter_eq_nil_iff.2 (λ x hx => by
   obtain ⟨y, hy, rfl⟩ := List.mem_map.1 hx
   have := h3 (lo + y) (by omega) (by have := List.mem_range.1 hy; omega)
   simp; omega), List.append_nil]
 unfold belowN
 rw [this, List.length_range]
theorem goalTo_ok : goalTo := by
 refine kernel_go goalTo_eq ?_
 unfold goalToV goalTo_0 goalTo_7 goalTo_6 goalTo_5 goalTo_4 goalTo_3 goalTo_2 goalTo_1
 intro nil n a k hn hs
 simp only [vS, forall_const] at hn ⊢
 have hsort : ∀ i j, j < i -> i < n -> a j < a i := λ i j h1 h2 => by
  have := List.all_eq_true.1 hs i (List.mem_range.2 h2)
  simpa using List.all_eq_true.1 this j (List.mem_range.2 h1)
 have p0 : skPre n a k (0, n) := ⟨Nat.zero_le _, Nat.le_refl _, λ j hj => by simp at hj, λ j h1 h2 => by simp at h1; omega⟩
 refine ⟨λ h0 => ⟨⟨(0, n), p0, wantN (by omega), rfl, rfl⟩, ?_⟩, λ h0 => ⟨λ h => by omega, λ _ => ⟨⟨(0, n), p0, ?_, rfl, rfl⟩, ?_⟩⟩⟩
 . rintro _ ⟨lo, hi⟩ ⟨h1, h2, h3, h4⟩
   have : lo = 0 /\ hi = 0 := by simp only at h1 h2; omega
   obtain ⟨rfl, rfl⟩ := this
   simp only [wantN (Nat.le_refl 0)]
   refine ⟨λ h => by omega, λ _ => ?_⟩
   exact below_eq (Nat.zero_le _) (λ j hj => by omega) (λ j _ hj => by omega)
 . exact (wantE (lo := 0) (hi := n) (by omega)).trans (midE (lo := 0) (hi := n) (by omega) hn).symm
 . rintro _ ⟨lo, hi⟩ ⟨h1, h2, h3, h4⟩
   simp only at h1 h2 h3 h4 ⊢
   by_cases hlt : lo < hi
   . simp only [wantE hlt, midE hlt (by omega), yNat_e]
     have hmb : lo <= lo + (hi - lo) / 2 /\ lo + (hi - lo) / 2 < hi := by omega
     generalize lo + (hi - lo) / 2 = m at hmb ⊢
     obtain ⟨hm1, hm2⟩ := hmb
     have w1 : yWrap .i64 ((m : Int) + 1) = ((m + 1 : Nat) : Int) := by rw [wrap64 (by omega) (by omega)]; rfl
     simp only [w1]
     have up : a m < k -> skPre n a k (m + 1, hi) := λ h => ⟨by simp only; omega, h2, λ j hj => by
      simp only at hj
      by_cases e : j = m
      . subst e; exact h
      . have := hsort m j (by omega) (by omega); omega, h4⟩
     have dn : k <= a m -> skPre n a k (lo, m) := λ h => ⟨hm1, by simp only; omega, h3, λ j hj hjn => by
      simp only at hj
      by_cases e : j = m
      . subst e; exact h
      . have := hsort j m (by omega) hjn; omega⟩
     have mu : Nat.succ (skMs (m + 1, hi)) <= skMs (lo, hi) := by simp only [skMs]; omega
     have md : Nat.succ (skMs (lo, m)) <= skMs (lo, hi) := by simp only [skMs]; omega
     repeat' (first | apply And.intro | intro _)
     all_goals try omega
     . exact ⟨(m + 1, hi), up (by assumption), mu, wantN (by omega), rfl, rfl⟩
     . exact ⟨(m + 1, hi), up (by assumption), mu, (wantE (by omega)).trans (midE (by omega) (by omega)).symm, rfl, rfl⟩
     . exact ⟨(lo, m), dn (by assumption), md, wantN (by omega), rfl, rfl⟩
     . exact ⟨(lo, m), dn (by assumption), md, (wantE (by omega)).trans (midE (by omega) (by omega)).symm, rfl, rfl⟩
   . have : lo = hi := by omega
     subst this
     simp only [wantN (Nat.le_refl lo)]
     refine ⟨λ h => by omega, λ _ => ?_⟩
     exact below_eq h2 h3 h4
def fTo (ds : List Dx) : Option (Bool × Dx × List (List Dx)) :=
 match ds with
 | [.l [.v (.y .i64 kd), .v (.y .i64 lo), .v (.y .i64 hi), .v (.y .u64 k)], .l [.l [.rows _ n [.int .u64 a]]]] =>
   some (yAnd (yAnd (yEq kd 1) (yEq lo 0)) (yAnd (yEq hi (yInt n)) (yAnd (yNle n 100000000) (sortB n a))), .v (.y .i64 (belowN n a k)), [])
 | _ => none
theorem smTo (hm : Try.prog.follows .mixedOrders = true) : SmCall Try.prog 120 (λ args h => (ctX sTo .sc fTo args h).sel) :=
 ctX_ok hm noSm_ok (λ ds r post h => by
  unfold fTo at h
  split at h
  . simp only [sI, Prod.mk.injEq, yAnd_t, yEq_t] at h
    obtain ⟨⟨⟨rfl, rfl⟩, rfl, h1, h3⟩, rfl, rfl⟩ := h
    rename_i k nil n a
    have h2 := goalTo_ok
    unfold goalTo at h2
    exact ⟨annTo n a k, 1000, h2 nil n a k h1 h3⟩
  . cases h)
def putStep (k v : Int) (s : List (Int × Int) × Bool) (x : Int × Int) : List (Int × Int) × Bool :=
 let s1 := if k <= x.1 /\ s.2 = false then (s.1 ++ [(k, v)], true) else s
 if x.1 = k then s1 else (s1.1 ++ [x], s1.2)
def putSt (k v : Int) (l : List (Int × Int)) : List (Int × Int) × Bool := l.foldl (putStep k v) ([], false)
def putO (k v : Int) (l : List (Int × Int)) : List (Int × Int) := (putSt k v l).1
def putD (k v : Int) (l : List (Int × Int)) : Bool := (putSt k v l).2
def putL (k v : Int) (l : List (Int × Int)) : List (Int × Int) := if putD k v l = true then putO k v l else putO k v l ++ [(k, v)]
def annPut (n : Nat) (a0 a1 : Nat -> Int) (k v : Int) (b : Nat) : Option (St -> LoopA) :=
 match b with
 | 0 => some λ _ => { ι := Nat, tms := [7, 8, 9], tmU := λ i => [slP 1 (putO k v (prs i a0 a1)), .yb (putD k v (prs i a0 a1)), .y .i64 (yInt i)], ids := [1], hpU := λ i => [arP (putO k v (prs i a0 a1))], del := [], ex := 1, pre := λ i => i <= n, ms := mTo n }
 | _ => none
def fPut (ds : List Dx) : Option (Bool × Dx × List (List Dx)) :=
 match ds with
 | [.rows _ n [.int .u64 a0, .int .u64 a1], .v (.y .u64 k), .v (.y .u64 v)] => some (yNle n 1000000, rowsL (putL k v (prs n a0 a1)), [])
 | _ => none
def goalPut : Prop := ∀ (nilA : Bool) (n : Nat) (a0 a1 : Nat -> Int) (k v : Int), yNle n 1000000 = true →
 wxP Try.prog noSm (annPut n a0 a1 k v) 47 [roP, .sc, .sc] [.rows nilA n (cols2 a0 a1), .v (.y .u64 k), .v (.y .u64 v)] ownP (rowsL (putL k v (prs n a0 a1))) []
def goalPut_0 (i : Nat) (n : Nat) (a0 : Nat -> Int) (k : Int) (v : Int) (a1 : Nat -> Int) := mst (yNlt (yNadd 0 (yNat (yInt i))) n) ((yNot (yEq (a0 (yNadd 0 (yNat (yInt i)))) k) = true -> mst (yIn (yInt i) n) (mst (yNlt (yNadd 0 (yNat (yInt i))) n) (mst (yNeq (rN (putO k v (prs i a0 a1))) (rN (putO k v (prs i a0 a1)))) (mst (yGrow (yNadd (rN (putO k v (prs i a0 a1))) 1) 16) (true = true /\ ∃ (i' : Nat), i' <= n /\ Nat.succ (mTo n i') <= mTo n i /\ true = true /\ rE (putO k v (prs i' a0 a1)) = yAnd (rE (putO k v (prs i a0 a1))) (yNeq 1 0) /\ 0 = 0 /\ rN (putO k v (prs i' a0 a1)) = yNadd (rN (putO k v (prs i a0 a1))) 1 /\ putD k v (prs i' a0 a1) = putD k v (prs i a0 a1) /\ yInt i' = yWrap .i64 (yAdd (yInt i) 1) /\ rN (putO k v (prs i' a0 a1)) = yNadd (rN (putO k v (prs i a0 a1))) 1 /\ (∀ (i_1 : Nat), Nat.succ i_1 <= rN (putO k v (prs i' a0 a1)) -> rA (putO k v (prs i' a0 a1)) i_1 = ySel (yNlt i_1 (rN (putO k v (prs i a0 a1)))) (rA (putO k v (prs i a0 a1)) i_1) (a0 (yNadd 0 (yNat (yInt i)))) /\ rB (putO k v (prs i' a0 a1)) i_1 = ySel (yNlt i_1 (rN (putO k v (prs i a0 a1)))) (rB (putO k v (prs i a0 a1)) i_1) (a1 (yNadd 0 (yNat (yInt i)))) /\ True) /\ true = true))))) /\ (yNot (yEq (a0 (yNadd 0 (yNat (yInt i)))) k) = false -> true = true /\ ∃ (i' : Nat), i' <= n /\ Nat.succ (mTo n i') <= mTo n i /\ true = true /\ rE (putO k v (prs i' a0 a1)) = rE (putO k v (prs i a0 a1)) /\ 0 = 0 /\ rN (putO k v (prs i' a0 a1)) = rN (putO k v (prs i a0 a1)) /\ putD k v (prs i' a0 a1) = putD k v (prs i a0 a1) /\ yInt i' = yWrap .i64 (yAdd (yInt i) 1) /\ rN (putO k v (prs i' a0 a1)) = rN (putO k v (prs i a0 a1)) /\ (∀ (i_1 : Nat), Nat.succ i_1 <= rN (putO k v (prs i' a0 a1)) -> rA (putO k v (prs i' a0 a1)) i_1 = rA (putO k v (prs i a0 a1)) i_1 /\ rB (putO k v (prs i' a0 a1)) i_1 = rB (putO k v (prs i a0 a1)) i_1 /\ True) /\ true = true))
def goalPutV : Prop := (∀ (nilA : Bool) (n : Nat) (a0 a1 : Nat -> Int) (k v : Int), yNle n 1000000 = true -> true = true /\ (∃ (i0 : Nat), i0 <= n /\ true = true /\ rE (putO k v (prs i0 a0 a1)) = true /\ rN (putO k v (prs i0 a0 a1)) = 0 /\ putD k v (prs i0 a0 a1) = false /\ yInt i0 = 0 /\ rN (putO k v (prs i0 a0 a1)) = 0 /\ true = true /\ true = true) /\ ∀ (g : Nat -> AV) (i : Nat), i <= n -> (yLt (yInt i) (yInt n) = true -> mst (yIn (yInt i) n) (mst (yNlt (yNadd 0 (yNat (yInt i))) n) ((yLe k (a0 (yNadd 0 (yNat (yInt i)))) = true -> (putD k v (prs i a0 a1) = true -> mst (yIn (yInt i) n) (goalPut_0 i n a0 k v a1)) /\ (putD k v (prs i a0 a1) = false -> mst (yNeq (rN (putO k v (prs i a0 a1))) (rN (putO k v (prs i a0 a1)))) (mst (yGrow (yNadd (rN (putO k v (prs i a0 a1))) 1) 16) (mst (yIn (yInt i) n) (mst (yNlt (yNadd 0 (yNat (yInt i))) n) ((yNot (yEq (a0 (yNadd 0 (yNat (yInt i)))) k) = true -> mst (yIn (yInt i) n) (mst (yNlt (yNadd 0 (yNat (yInt i))) n) (mst (yNeq (yNadd (rN (putO k v (prs i a0 a1))) 1) (yNadd (rN (putO k v (prs i a0 a1))) 1)) (mst (yGrow (yNadd (yNadd (rN (putO k v (prs i a0 a1))) 1) 1) 16) (true = true /\ ∃ (i' : Nat), i' <= n /\ Nat.succ (mTo n i') <= mTo n i /\ true = true /\ rE (putO k v (prs i' a0 a1)) = yAnd (yAnd (rE (putO k v (prs i a0 a1))) (yNeq 1 0)) (yNeq 1 0) /\ 0 = 0 /\ rN (putO k v (prs i' a0 a1)) = yNadd (yNadd (rN (putO k v (prs i a0 a1))) 1) 1 /\ putD k v (prs i' a0 a1) = true /\ yInt i' = yWrap .i64 (yAdd (yInt i) 1) /\ rN (putO k v (prs i' a0 a1)) = yNadd (yNadd (rN (putO k v (prs i a0 a1))) 1) 1 /\ (∀ (i_1 : Nat), Nat.succ i_1 <= rN (putO k v (prs i' a0 a1)) -> rA (putO k v (prs i' a0 a1)) i_1 = ySel (yNlt i_1 (yNadd (rN (putO k v (prs i a0 a1))) 1)) (ySel (yNlt i_1 (rN (putO k v (prs i a0 a1)))) (rA (putO k v (prs i a0 a1)) i_1) k) (a0 (yNadd 0 (yNat (yInt i)))) /\ rB (putO k v (prs i' a0 a1)) i_1 = ySel (yNlt i_1 (yNadd (rN (putO k v (prs i a0 a1))) 1)) (ySel (yNlt i_1 (rN (putO k v (prs i a0 a1)))) (rB (putO k v (prs i a0 a1)) i_1) v) (a1 (yNadd 0 (yNat (yInt i)))) /\ True) /\ true = true))))) /\ (yNot (yEq (a0 (yNadd 0 (yNat (yInt i)))) k) = false -> true = true /\ ∃ (i' : Nat), i' <= n /\ Nat.succ (mTo n i') <= mTo n i /\ true = true /\ rE (putO k v (prs i' a0 a1)) = yAnd (rE (putO k v (prs i a0 a1))) (yNeq 1 0) /\ 0 = 0 /\ rN (putO k v (prs i' a0 a1)) = yNadd (rN (putO k v (prs i a0 a1))) 1 /\ putD k v (prs i' a0 a1) = true /\ yInt i' = yWrap .i64 (yAdd (yInt i) 1) /\ rN (putO k v (prs i' a0 a1)) = yNadd (rN (putO k v (prs i a0 a1))) 1 /\ (∀ (i_1 : Nat), Nat.succ i_1 <= rN (putO k v (prs i' a0 a1)) -> rA (putO k v (prs i' a0 a1)) i_1 = ySel (yNlt i_1 (rN (putO k v (prs i a0 a1)))) (rA (putO k v (prs i a0 a1)) i_1) k /\ rB (putO k v (prs i' a0 a1)) i_1 = ySel (yNlt i_1 (rN (putO k v (prs i a0 a1)))) (rB (putO k v (prs i a0 a1)) i_1) v /\ True) /\ true = true))))))) /\ (yLe k (a0 (yNadd 0 (yNat (yInt i)))) = false -> mst (yIn (yInt i) n) (goalPut_0 i n a0 k v a1))))) /\ (yLt (yInt i) (yInt n) = false -> (putD k v (prs i a0 a1) = true -> rE (putL k v (prs n a0 a1)) = rE (putO k v (prs i a0 a1)) /\ 0 = 0 /\ rN (putL k v (prs n a0 a1)) = rN (putO k v (prs i a0 a1)) /\ rN (putL k v (prs n a0 a1)) = rN (putO k v (prs i a0 a1)) /\ (∀ (i_1 : Nat), Nat.succ i_1 <= rN (putL k v (prs n a0 a1)) -> rA (putL k v (prs n a0 a1)) i_1 = rA (putO k v (prs i a0 a1)) i_1 /\ rB (putL k v (prs n a0 a1)) i_1 = rB (putO k v (prs i a0 a1)) i_1 /\ True) /\ true = true) /\ (putD k v (prs i a0 a1) = false -> mst (yNeq (rN (putO k v (prs i a0 a1))) (rN (putO k v (prs i a0 a1)))) (mst (yGrow (yNadd (rN (putO k v (prs i a0 a1))) 1) 16) (rE (putL k v (prs n a0 a1)) = yAnd (rE (putO k v (prs i a0 a1))) (yNeq 1 0) /\ 0 = 0 /\ rN (putL k v (prs n a0 a1)) = yNadd (rN (putO k v (prs i a0 a1))) 1 /\ rN (putL k v (prs n a0 a1)) = yNadd (rN (putO k v (prs i a0 a1))) 1 /\ (∀ (i_1 : Nat), Nat.succ i_1 <= rN (putL k v (prs n a0 a1)) -> rA (putL k v (prs n a0 a1)) i_1 = ySel (yNlt i_1 (rN (putO k v (prs i a0 a1)))) (rA (putO k v (prs i a0 a1)) i_1) k /\ rB (putL k v (prs n a0 a1)) i_1 = ySel (yNlt i_1 (rN (putO k v (prs i a0 a1)))) (rB (putO k v (prs i a0 a1)) i_1) v /\ True) /\ true = true)))))
theorem goalPut_eq : goalPut = goalPutV := by kernel_rfl
theorem putSt_succ (k v : Int) (i : Nat) (a0 a1 : Nat -> Int) : putSt k v (prs (i + 1) a0 a1) = putStep k v (putSt k v (prs i a0 a1)) (a0 i, a1 i) := by
 unfold putSt; rw [prs_succ, List.foldl_append]; rfl
theorem putO_len (k v : Int) (l : List (Int × Int)) : rN (putO k v l) <= 2 * l.length := by
 have : ∀ (l : List (Int × Int)) (s : List (Int × Int) × Bool), (l.foldl (putStep k v) s).1.length <= s.1.length + 2 * l.length := by
  intro l
  induction l with
  | nil => intro s; simp
  | cons x l ih =>
    intro s
    have := ih (putStep k v s x)
    have h2 : (putStep k v s x).1.length <= s.1.length + 2 := by
     unfold putStep
     simp only
     repeat' split
     all_goals simp
    simp only [List.foldl_cons, List.length_cons]
    omega
 simpa [rN, putO, putSt] using this l ([], false)
theorem goalPut_ok : goalPut := by
 refine kernel_go goalPut_eq ?_
 unfold goalPutV goalPut_0
 intro nilA n a0 a1 k v hn
 simp only [vS, forall_const] at hn ⊢
 refine ⟨⟨0, Nat.zero_le _, rfl, rfl, rfl, rfl, rfl⟩, λ _ i hi => ⟨?_, λ hge => ?_⟩⟩
 . have hs := putSt_succ k v i a0 a1
   have hl := putO_len k v (prs i a0 a1)
   rw [prs_len] at hl
   have hO : putO k v (prs (i + 1) a0 a1) = (putStep k v (putO k v (prs i a0 a1), putD k v (prs i a0 a1)) (a0 i, a1 i)).1 := congrArg Prod.fst hs
   have hD : putD k v (prs (i + 1) a0 a1) = (putStep k v (putO k v (prs i a0 a1), putD k v (prs i a0 a1)) (a0 i, a1 i)).2 := congrArg Prod.snd hs
   generalize putO k v (prs i a0 a1) = O at *
   generalize putD k v (prs i a0 a1) = D at *
   cases D <;> by_cases h1 : k <= a0 i <;> by_cases h2 : a0 i = k
   all_goals simp only [putStep, h1, h2, Bool.false_eq_true, Bool.true_eq_false, and_true, and_false, if_true, if_false, Int.le_refl] at hO hD ⊢
   all_goals repeat' (first | apply And.intro | intro _)
   all_goals try omega
   all_goals try contradiction
   all_goals refine ⟨i + 1, by omega, by unfold mTo; omega, ?_⟩
   all_goals rw [hO, hD, wrap64 (by omega) (by omega)]
   all_goals simp only [rE_snoc, rN_snoc, yAnd10, true_and]
   all_goals refine ⟨rfl, ?_⟩
   all_goals first | exact λ _ _ => trivial | exact λ j hj => ⟨rA_snoc _ _ hj, rB_snoc _ _ hj⟩ | exact λ j hj => ⟨rA_snoc2 _ _ _ hj, rB_snoc2 _ _ _ hj⟩
 . have : i = n := by omega
   subst this
   have hl := putO_len k v (prs i a0 a1)
   rw [prs_len] at hl
   unfold putL
   generalize putO k v (prs i a0 a1) = O at *
   generalize putD k v (prs i a0 a1) = D at *
   cases D
   all_goals simp only [Bool.false_eq_true, if_true, if_false]
   all_goals repeat' (first | apply And.intro | intro _)
   all_goals try first | omega | contradiction | rfl
   all_goals try simp only [rE_snoc, rN_snoc, yAnd10]
   . rename_i hj; exact rA_snoc _ _ (by rw [rN_snoc] at hj; exact hj)
   . rename_i hj; exact rB_snoc _ _ (by rw [rN_snoc] at hj; exact hj)
theorem smPut (hm : Try.prog.follows .mixedOrders = true) : SmCall Try.prog 47 (λ args h => (ctX [roP, .sc, .sc] ownP fPut args h).sel) :=
 ctX_ok hm noSm_ok (λ ds r post h => by
  unfold fPut at h
  split at h
  . simp only [sI, Prod.mk.injEq] at h
    obtain ⟨h1, rfl, rfl⟩ := h
    rename_i nA n a0 a1 k v
    have h2 := goalPut_ok
    unfold goalPut at h2
    exact ⟨annPut n a0 a1 k v, 1000, h2 nA n a0 a1 k v h1⟩
  . cases h)
def dropL (k : Int) (l : List (Int × Int)) : List (Int × Int) := l.filter λ p => p.1 != k
def annDrop (n : Nat) (a0 a1 : Nat -> Int) (k : Int) (b : Nat) : Option (St -> LoopA) :=
 match b with
 | 0 => some λ _ => { ι := Nat, tms := [5, 6], tmU := λ i => [slP 1 (dropL k (prs i a0 a1)), .y .i64 (yInt i)], ids := [1], hpU := λ i => [arP (dropL k (prs i a0 a1))], del := [], ex := 1, pre := λ i => i <= n, ms := mTo n }
 | _ => none
def fDrop (ds : List Dx) : Option (Bool × Dx × List (List Dx)) :=
 match ds with
 | [.rows _ n [.int .u64 a0, .int .u64 a1], .v (.y .u64 k)] => some (yNle n 1000000, rowsL (dropL k (prs n a0 a1)), [])
 | _ => none
def goalDrop : Prop := ∀ (nilA : Bool) (n : Nat) (a0 a1 : Nat -> Int) (k : Int), yNle n 1000000 = true →
 wxP Try.prog noSm (annDrop n a0 a1 k) 48 [roP, .sc] [.rows nilA n (cols2 a0 a1), .v (.y .u64 k)] ownP (rowsL (dropL k (prs n a0 a1))) []
theorem goalDrop_eq : goalDrop = (∀ (nilA : Bool) (n : Nat) (a0 a1 : Nat -> Int) (k : Int), yNle n 1000000 = true -> true = true /\ (∃ (i0 : Nat), i0 <= n /\ true = true /\ rE (dropL k (prs i0 a0 a1)) = true /\ rN (dropL k (prs i0 a0 a1)) = 0 /\ yInt i0 = 0 /\ rN (dropL k (prs i0 a0 a1)) = 0 /\ true = true /\ true = true) /\ ∀ (g : Nat -> AV) (i : Nat), i <= n -> (yLt (yInt i) (yInt n) = true -> (yIn (yInt i) n = true -> (yNlt (yNadd 0 (yNat (yInt i))) n = true -> (yNot (yEq (a0 (yNadd 0 (yNat (yInt i)))) k) = true -> (yIn (yInt i) n = true -> (yNlt (yNadd 0 (yNat (yInt i))) n = true -> (yNeq (rN (dropL k (prs i a0 a1))) (rN (dropL k (prs i a0 a1))) = true -> (yGrow (yNadd (rN (dropL k (prs i a0 a1))) 1) 16 = true -> true = true /\ ∃ (i' : Nat), i' <= n /\ Nat.succ (mTo n i') <= mTo n i /\ true = true /\ rE (dropL k (prs i' a0 a1)) = yAnd (rE (dropL k (prs i a0 a1))) (yNeq 1 0) /\ 0 = 0 /\ rN (dropL k (prs i' a0 a1)) = yNadd (rN (dropL k (prs i a0 a1))) 1 /\ yInt i' = yWrap .i64 (yAdd (yInt i) 1) /\ rN (dropL k (prs i' a0 a1)) = yNadd (rN (dropL k (prs i a0 a1))) 1 /\ (∀ (i_1 : Nat), Nat.succ i_1 <= rN (dropL k (prs i' a0 a1)) -> rA (dropL k (prs i' a0 a1)) i_1 = ySel (yNlt i_1 (rN (dropL k (prs i a0 a1)))) (rA (dropL k (prs i a0 a1)) i_1) (a0 (yNadd 0 (yNat (yInt i)))) /\ rB (dropL k (prs i' a0 a1)) i_1 = ySel (yNlt i_1 (rN (dropL k (prs i a0 a1)))) (rB (dropL k (prs i a0 a1)) i_1) (a1 (yNadd 0 (yNat (yInt i)))) /\ True) /\ true = true) /\ (yGrow (yNadd (rN (dropL k (prs i a0 a1))) 1) 16 = false -> False)) /\ (yNeq (rN (dropL k (prs i a0 a1))) (rN (dropL k (prs i a0 a1))) = false -> False)) /\ (yNlt (yNadd 0 (yNat (yInt i))) n = false -> False)) /\ (yIn (yInt i) n = false -> False)) /\ (yNot (yEq (a0 (yNadd 0 (yNat (yInt i)))) k) = false -> true = true /\ ∃ (i' : Nat), i' <= n /\ Nat.succ (mTo n i') <= mTo n i /\ true = true /\ rE (dropL k (prs i' a0 a1)) = rE (dropL k (prs i a0 a1)) /\ 0 = 0 /\ rN (dropL k (prs i' a0 a1)) = rN (dropL k (prs i a0 a1)) /\ yInt i' = yWrap .i64 (yAdd (yInt i) 1) /\ rN (dropL k (prs i' a0 a1)) = rN (dropL k (prs i a0 a1)) /\ (∀ (i_1 : Nat), Nat.succ i_1 <= rN (dropL k (prs i' a0 a1)) -> rA (dropL k (prs i' a0 a1)) i_1 = rA (dropL k (prs i a0 a1)) i_1 /\ rB (dropL k (prs i' a0 a1)) i_1 = rB (dropL k (prs i a0 a1)) i_1 /\ True) /\ true = true)) /\ (yNlt (yNadd 0 (yNat (yInt i))) n = false -> False)) /\ (yIn (yInt i) n = false -> False)) /\ (yLt (yInt i) (yInt n) = false -> rE (dropL k (prs n a0 a1)) = rE (dropL k (prs i a0 a1)) /\ 0 = 0 /\ rN (dropL k (prs n a0 a1)) = rN (dropL k (prs i a0 a1)) /\ rN (dropL k (prs n a0 a1)) = rN (dropL k (prs i a0 a1)) /\ (∀ (i_1 : Nat), Nat.succ i_1 <= rN (dropL k (prs n a0 a1)) -> rA (dropL k (prs n a0 a1)) i_1 = rA (dropL k (prs i a0 a1)) i_1 /\ rB (dropL k (prs n a0 a1)) i_1 = rB (dropL k (prs i a0 a1)) i_1 /\ True) /\ true = true)) := by kernel_rfl
theorem dropL_len (k : Int) (l : List (Int × Int)) : rN (dropL k l) <= l.length := List.length_filter_le _ _
theorem goalDrop_ok : goalDrop := by
 refine kernel_go goalDrop_eq ?_
 intro nilA n a0 a1 k hn
 simp only [vS, forall_const] at hn ⊢
 refine ⟨⟨0, Nat.zero_le _, rfl, rfl, rfl, rfl⟩, λ _ i hi => ⟨?_, λ hge => ?_⟩⟩
 . have hd : dropL k (prs (i + 1) a0 a1) = if a0 i = k then dropL k (prs i a0 a1) else dropL k (prs i a0 a1) ++ [(a0 i, a1 i)] := by
    rw [prs_succ]; unfold dropL; rw [List.filter_append]; by_cases h : a0 i = k <;> simp [h]
   have hl := dropL_len k (prs i a0 a1)
   rw [prs_len] at hl
   repeat' (first | apply And.intro | intro _)
   all_goals try omega
   all_goals refine ⟨i + 1, by omega, by unfold mTo; omega, ?_⟩
   all_goals rw [hd, wrap64 (by omega) (by omega)]
   . rename_i hk _ _ _
     rw [if_neg hk, rE_snoc, rN_snoc, yAnd10]
     exact ⟨rfl, rfl, rfl, rfl, λ j hj => ⟨rA_snoc _ _ hj, rB_snoc _ _ hj⟩⟩
   . rename_i hk
     rw [if_pos hk]
     exact ⟨rfl, rfl, rfl, rfl, λ _ _ => ⟨rfl, rfl⟩⟩
 . have : i = n := by omega
   subst this
   exact ⟨rfl, rfl, rfl, λ _ _ => ⟨rfl, rfl⟩⟩
theorem smDrop (hm : Try.prog.follows .mixedOrders = true) : SmCall Try.prog 48 (λ args h => (ctX [roP, .sc] ownP fDrop args h).sel) :=
 ctX_ok hm noSm_ok (λ ds r post h => by
  unfold fDrop at h
  split at h
  . simp only [sI, Prod.mk.injEq] at h
    obtain ⟨h1, rfl, rfl⟩ := h
    rename_i nA n a0 a1 k
    have h2 := goalDrop_ok
    unfold goalDrop at h2
    exact ⟨annDrop n a0 a1 k, 1000, h2 nA n a0 a1 k h1⟩
  . cases h)
def insF (i : Nat) (f : Nat -> Nat -> AV) (x : AV) (p j : Nat) : AV := selA (yNlt p i) (f p j) (selA (yNeq p i) x (f (yNsub p 1) j))
def delF (i : Nat) (f : Nat -> Nat -> AV) (p j : Nat) : AV := selA (yNlt p i) (f p j) (f (yNadd p 1) j)
def insA (args : List AV) (h : AH) : T (AV × AH) :=
 match args with
 | [.yr _ id z n, ix, .sl vid 0 1 1 false] => match yI ix with
   | some (k, iz) => match h.get id with
     | some (.arr false e z' n' f) => match h.get vid with
       | some (.cells [x] e2 none) => bif eqK k .i64 && Nat.beq z 1 && Nat.beq z' 1 && Nat.beq e 34 && Nat.beq e2 34 && isCell x then
          .must (yNeq n n') (.must (yIn iz (yNadd n 1)) (.must (yNle n 1000000000) (match h.put id none with
           | some h1 => match h1.new (.arr false 34 1 (yNadd n 1) (insF (yNat iz) f x)) with
             | some h' => .ret (.yr false h1.nx 1 (yNadd n 1), h')
             | none => .no
           | none => .no))) else .no
       | _ => .no
     | _ => .no
   | none => .no
 | _ => .no
def dltA (args : List AV) (h : AH) : T (AV × AH) :=
 match args with
 | [.yr _ id z n, ix, iy] => match yI ix, yI iy with
   | some (k, iz), some (k2, iy) => match h.get id with
     | some (.arr false e z' n' f) => bif eqK k .i64 && eqK k2 .i64 && Nat.beq z 1 && Nat.beq z' 1 && Nat.beq e 34 then
        .must (yNeq n n') (.must (yIn iz n) (.must (yEq iy (yAdd iz 1)) (.must (yNle n 1000000000) (match h.put id none with
         | some h1 => match h1.new (.arr false 34 1 (yNsub n 1) (delF (yNat iz) f)) with
           | some h' => .ret (.yr false h1.nx 1 (yNsub n 1), h')
           | none => .no
         | none => .no)))) else .no
     | _ => .no
   | _, _ => .no
 | _ => .no
end Go.Proofs.Ytknfdbilpfblnaa.Ex
end
