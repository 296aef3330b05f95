/- Contract: bound.Greatest is the greatest bound of some configurations. And the law BoundMost, walked. -/
import Derived.Test.YtbjkadagacdniaaGreatDoorCMost
namespace Go.Proofs.YtbjkadagacdniaaGreatDoor.Ex
open Go

-- OPEN gr mGr prGr prLaw
def gr (s t f l p : Nat → Int) (n : Nat) : Int := match n with
  | 0 => 0
  | i + 1 => max (gr s t f l p i) (mostC (s i) (t i) (f i) (l i) (p i))
def mGr (n i : Nat) : Nat := n - i
def prGr (n i : Nat) : Prop := i ≤ n
abbrev cConf : Cs := some (26, [.int .i64, .int .i64, .int .i64, .int .i64, .int .i64])
abbrev gConfs : List Ag := [.cell cConf]
abbrev dConfs (nil : Bool) (n : Nat) (s t f l p : Nat → Int) : List Da := [.cell (.rows nil n [.int .i64 s, .int .i64 t, .int .i64 f, .int .i64 l, .int .i64 p])]
def fGreat (ds : List Da) : Option (Bool × AV) :=
  match ds with
  | [.cell (.rows _ n [.int .i64 s, .int .i64 t, .int .i64 f, .int .i64 l, .int .i64 p])] => some (yNle n 20, .y .i64 (gr s t f l p n))
  | _ => none
def lMost : List (Nat × Sm) := [(5, .ct (ctS gConf fMost)), (6, .ct (ctS gConf fMost))]
def annGreat (n : Nat) (s t f l p : Nat → Int) (b : Nat) : Option (St → LoopA) :=
  match b with
  | 0 => some fun _ => { ι := Nat, tms := [3, 8], tmU := fun i => [.y .i64 (gr s t f l p i), .y .i64 (yInt i)], ids := [], hpU := fun _ => [], del := [], ex := 0, pre := prGr n, ms := mGr n }
  | _ => none
def goalGreat : Prop := ∀ (nil : Bool) (n : Nat) (s t f l p : Nat → Int), yNle n 20 = true → wxF Tryz.prog (smL lMost) (annGreat n s t f l p) 1000 7 (canA gConfs (dConfs nil n s t f l p) []).1 (heapOf (canA gConfs (dConfs nil n s t f l p) []).2) (fun v _ => cmpC (.y .i64 (gr s t f l p n)) v)
def lLaw : List (Nat × Sm) := [(5, .ct (ctS gConf fMost)), (6, .ct (ctS gConf fMost)), (7, .ct (ctS gConfs fGreat)), (4, .call (smB true))]
def annLaw (n : Nat) (s t f l p : Nat → Int) (b : Nat) : Option (St → LoopA) :=
  match b with
  | 0 => some fun _ => { ι := Nat, tms := [3, 4], tmU := fun i => [.y .i64 (gr s t f l p i), .y .i64 (yInt i)], ids := [], hpU := fun _ => [], del := [], ex := 0, pre := prGr n, ms := mGr n }
  | _ => none
def goalBoundMost : Prop := ∀ (nil : Bool) (n : Nat) (s t f l p : Nat → Int), wxF Tryz.prog (smL lLaw) (annLaw n s t f l p) 1000 3 (canA gConfs (dConfs nil n s t f l p) []).1 (heapOf (canA gConfs (dConfs nil n s t f l p) []).2) (fun r _ => cmpC (.yb true) r)
set_option maxRecDepth 100000 in
theorem goalGreat_eq : goalGreat = (∀ (nil : Bool) (n : Nat) (s t f l p : Nat → Int),
  yNle n (nat_lit 20) = true →
    true = true ∧
      (∃ (i0 : Nat), prGr n i0 ∧ true = true ∧ gr s t f l p i0 = (0 : Int) ∧ yInt i0 = (0 : Int) ∧ true = true) ∧
        ∀ (g : Nat → AV) (i : Nat),
          prGr n i →
            (yLt (yInt i) (yInt n) = true →
                (yIn (yInt i) n = true →
                    (yNlt (yNadd (nat_lit 0) (yNat (yInt i))) n = true →
                        (true = true →
                            true = true ∧
                              ∃ (i' : Nat),
                                prGr n i' ∧
                                  Nat.succ (mGr n i') ≤ mGr n i ∧
                                    true = true ∧
                                      gr s t f l p i' =
                                          ySel
                                            (yLt (gr s t f l p i)
                                              (mostC (s (yNadd (nat_lit 0) (yNat (yInt i))))
                                                (t (yNadd (nat_lit 0) (yNat (yInt i))))
                                                (f (yNadd (nat_lit 0) (yNat (yInt i))))
                                                (l (yNadd (nat_lit 0) (yNat (yInt i))))
                                                (p (yNadd (nat_lit 0) (yNat (yInt i))))))
                                            (mostC (s (yNadd (nat_lit 0) (yNat (yInt i))))
                                              (t (yNadd (nat_lit 0) (yNat (yInt i))))
                                              (f (yNadd (nat_lit 0) (yNat (yInt i))))
                                              (l (yNadd (nat_lit 0) (yNat (yInt i))))
                                              (p (yNadd (nat_lit 0) (yNat (yInt i)))))
                                            (gr s t f l p i) ∧
                                        yInt i' = yWrap IntKind.i64 (yAdd (yInt i) (1 : Int)) ∧ true = true) ∧
                          (true = false → False)) ∧
                      (yNlt (yNadd (nat_lit 0) (yNat (yInt i))) n = false → False)) ∧
                  (yIn (yInt i) n = false → False)) ∧
              (yLt (yInt i) (yInt n) = false → gr s t f l p n = gr s t f l p i)) := by kernel_rfl
set_option maxRecDepth 100000 in
theorem goalBoundMost_eq : goalBoundMost = (∀ (nil : Bool) (n : Nat) (s t f l p : Nat → Int),
  (yLt (20 : Int) (yInt n) = true → true = true) ∧
    (yLt (20 : Int) (yInt n) = false →
      true = true ∧
        (∃ (i0 : Nat), prGr n i0 ∧ true = true ∧ gr s t f l p i0 = (0 : Int) ∧ yInt i0 = (0 : Int) ∧ true = true) ∧
          ∀ (g : Nat → AV) (i : Nat),
            prGr n i →
              (yLt (yInt i) (yInt n) = true →
                  (yIn (yInt i) n = true →
                      (yNlt (yNadd (nat_lit 0) (yNat (yInt i))) n = true →
                          (true = true →
                              (yIn (yInt i) n = true →
                                  (yNlt (yNadd (nat_lit 0) (yNat (yInt i))) n = true →
                                      (true = true →
                                          (yNot
                                                  (yEq
                                                    (mostC (s (yNadd (nat_lit 0) (yNat (yInt i))))
                                                      (t (yNadd (nat_lit 0) (yNat (yInt i))))
                                                      (f (yNadd (nat_lit 0) (yNat (yInt i))))
                                                      (l (yNadd (nat_lit 0) (yNat (yInt i))))
                                                      (p (yNadd (nat_lit 0) (yNat (yInt i)))))
                                                    (mostC (s (yNadd (nat_lit 0) (yNat (yInt i))))
                                                      (t (yNadd (nat_lit 0) (yNat (yInt i))))
                                                      (f (yNadd (nat_lit 0) (yNat (yInt i))))
                                                      (l (yNadd (nat_lit 0) (yNat (yInt i))))
                                                      (p (yNadd (nat_lit 0) (yNat (yInt i)))))) =
                                                true →
                                              true = false) ∧
                                            (yNot
                                                  (yEq
                                                    (mostC (s (yNadd (nat_lit 0) (yNat (yInt i))))
                                                      (t (yNadd (nat_lit 0) (yNat (yInt i))))
                                                      (f (yNadd (nat_lit 0) (yNat (yInt i))))
                                                      (l (yNadd (nat_lit 0) (yNat (yInt i))))
                                                      (p (yNadd (nat_lit 0) (yNat (yInt i)))))
                                                    (mostC (s (yNadd (nat_lit 0) (yNat (yInt i))))
                                                      (t (yNadd (nat_lit 0) (yNat (yInt i))))
                                                      (f (yNadd (nat_lit 0) (yNat (yInt i))))
                                                      (l (yNadd (nat_lit 0) (yNat (yInt i))))
                                                      (p (yNadd (nat_lit 0) (yNat (yInt i)))))) =
                                                false →
                                              (yIn (yInt i) n = true →
                                                  (yNlt (yNadd (nat_lit 0) (yNat (yInt i))) n = true →
                                                      (true = true →
                                                          (yLt (gr s t f l p i)
                                                                  (mostC (s (yNadd (nat_lit 0) (yNat (yInt i))))
                                                                    (t (yNadd (nat_lit 0) (yNat (yInt i))))
                                                                    (f (yNadd (nat_lit 0) (yNat (yInt i))))
                                                                    (l (yNadd (nat_lit 0) (yNat (yInt i))))
                                                                    (p (yNadd (nat_lit 0) (yNat (yInt i))))) =
                                                                true →
                                                              (yIn (yInt i) n = true →
                                                                  (yNlt (yNadd (nat_lit 0) (yNat (yInt i))) n = true →
                                                                      (true = true →
                                                                          true = true ∧
                                                                            ∃ (i' : Nat),
                                                                              prGr n i' ∧
                                                                                Nat.succ (mGr n i') ≤ mGr n i ∧
                                                                                  true = true ∧
                                                                                    gr s t f l p i' =
                                                                                        mostC
                                                                                          (s
                                                                                            (yNadd (nat_lit 0)
                                                                                              (yNat (yInt i))))
                                                                                          (t
                                                                                            (yNadd (nat_lit 0)
                                                                                              (yNat (yInt i))))
                                                                                          (f
                                                                                            (yNadd (nat_lit 0)
                                                                                              (yNat (yInt i))))
                                                                                          (l
                                                                                            (yNadd (nat_lit 0)
                                                                                              (yNat (yInt i))))
                                                                                          (p
                                                                                            (yNadd (nat_lit 0)
                                                                                              (yNat (yInt i)))) ∧
                                                                                      yInt i' =
                                                                                          yWrap IntKind.i64
                                                                                            (yAdd (yInt i) (1 : Int)) ∧
                                                                                        true = true) ∧
                                                                        (true = false → False)) ∧
                                                                    (yNlt (yNadd (nat_lit 0) (yNat (yInt i))) n =
                                                                        false →
                                                                      False)) ∧
                                                                (yIn (yInt i) n = false → False)) ∧
                                                            (yLt (gr s t f l p i)
                                                                  (mostC (s (yNadd (nat_lit 0) (yNat (yInt i))))
                                                                    (t (yNadd (nat_lit 0) (yNat (yInt i))))
                                                                    (f (yNadd (nat_lit 0) (yNat (yInt i))))
                                                                    (l (yNadd (nat_lit 0) (yNat (yInt i))))
                                                                    (p (yNadd (nat_lit 0) (yNat (yInt i))))) =
                                                                false →
                                                              true = true ∧
                                                                ∃ (i' : Nat),
                                                                  prGr n i' ∧
                                                                    Nat.succ (mGr n i') ≤ mGr n i ∧
                                                                      true = true ∧
                                                                        gr s t f l p i' = gr s t f l p i ∧
                                                                          yInt i' =
                                                                              yWrap IntKind.i64
                                                                                (yAdd (yInt i) (1 : Int)) ∧
                                                                            true = true)) ∧
                                                        (true = false → False)) ∧
                                                    (yNlt (yNadd (nat_lit 0) (yNat (yInt i))) n = false → False)) ∧
                                                (yIn (yInt i) n = false → False))) ∧
                                        (true = false → False)) ∧
                                    (yNlt (yNadd (nat_lit 0) (yNat (yInt i))) n = false → False)) ∧
                                (yIn (yInt i) n = false → False)) ∧
                            (true = false → False)) ∧
                        (yNlt (yNadd (nat_lit 0) (yNat (yInt i))) n = false → False)) ∧
                    (yIn (yInt i) n = false → False)) ∧
                (yLt (yInt i) (yInt n) = false →
                  (yNle (yNadd (nat_lit 0) n) n = true →
                      ((yCol (CK.int IntKind.i64) n fun (i : Nat) => AV.y IntKind.i64 (s i)) = true →
                          ((yCol (CK.int IntKind.i64) n fun (i : Nat) => AV.y IntKind.i64 (t i)) = true →
                              ((yCol (CK.int IntKind.i64) n fun (i : Nat) => AV.y IntKind.i64 (f i)) = true →
                                  ((yCol (CK.int IntKind.i64) n fun (i : Nat) => AV.y IntKind.i64 (l i)) = true →
                                      ((yCol (CK.int IntKind.i64) n fun (i : Nat) => AV.y IntKind.i64 (p i)) = true →
                                          (yNle n (nat_lit 20) = true →
                                              (yEq
                                                      (gr (fun (i : Nat) => s i) (fun (i : Nat) => t i)
                                                        (fun (i : Nat) => f i) (fun (i : Nat) => l i)
                                                        (fun (i : Nat) => p i) n)
                                                      (gr s t f l p i) =
                                                    true →
                                                  true = true) ∧
                                                (yEq
                                                      (gr (fun (i : Nat) => s i) (fun (i : Nat) => t i)
                                                        (fun (i : Nat) => f i) (fun (i : Nat) => l i)
                                                        (fun (i : Nat) => p i) n)
                                                      (gr s t f l p i) =
                                                    false →
                                                  true = false)) ∧
                                            (yNle n (nat_lit 20) = false → False)) ∧
                                        ((yCol (CK.int IntKind.i64) n fun (i : Nat) => AV.y IntKind.i64 (p i)) = false →
                                          False)) ∧
                                    ((yCol (CK.int IntKind.i64) n fun (i : Nat) => AV.y IntKind.i64 (l i)) = false →
                                      False)) ∧
                                ((yCol (CK.int IntKind.i64) n fun (i : Nat) => AV.y IntKind.i64 (f i)) = false →
                                  False)) ∧
                            ((yCol (CK.int IntKind.i64) n fun (i : Nat) => AV.y IntKind.i64 (t i)) = false → False)) ∧
                        ((yCol (CK.int IntKind.i64) n fun (i : Nat) => AV.y IntKind.i64 (s i)) = false → False)) ∧
                    (yNle (yNadd (nat_lit 0) n) n = false → False)))) := by kernel_rfl
theorem gr_ge {s t f l p : Nat → Int} : ∀ n, 0 ≤ gr s t f l p n ∧ gr s t f l p n ≤ 100000000
  | 0 => by simp [gr]
  | n + 1 => by
    have h1 := gr_ge (s := s) (t := t) (f := f) (l := l) (p := p) n
    have h2 := most_ge (s := s n) (t := t n) (f := f n) (l := l n) (p := p n)
    simp only [gr]; omega
theorem ySel_e (a b : Int) : ySel (yLt a b) b a = max a b := by
  unfold ySel yLt
  by_cases h : a < b
  · rw [decide_eq_true h]; simp only [cond_true]; omega
  · rw [decide_eq_false h]; simp only [cond_false]; omega
set_option maxRecDepth 100000 in
theorem goalGreat_ok : goalGreat := by
  refine kernel_go goalGreat_eq ?_
  intro nil n s t f l p hn
  simp only [ySel_e]
  simp only [yNot_t, yNot_f, yEq_t, yEq_f, yAnd_t, yAnd_f, yOr_t, yOr_f, yIff_t, yIff_f, yLt_t, yLt_f, yLe_t, yLe_f, yIn_t, yIn_f, yNlt_t, yNlt_f, yNle_t, yNle_f, yNeq_t, yNeq_f, yGrow_t, yGrow_f, yInt_e, yNat_e, yNadd_e, yNsub_e, yAdd_e, ySub_e, yMul_e, yCol_int, yCol_bool, true_and, and_true, Nat.zero_add, Nat.add_zero, Nat.le_refl, forall_const, true_implies, Bool.true_eq_false, Bool.false_eq_true, false_implies] at hn ⊢
  refine ⟨⟨0, Nat.zero_le _, rfl, rfl⟩, fun _ i hi => ?_⟩
  have hi : i ≤ n := hi
  refine ⟨fun hlt => ⟨fun _ => ⟨fun _ => ⟨i + 1, ?_, ?_, rfl, ?_⟩, ?_⟩, ?_⟩, fun h => ?_⟩
  · show i + 1 ≤ n; omega
  · unfold mGr; omega
  · rw [wrap64 (by omega) (by omega)]; rfl
  · omega
  · omega
  · have : i = n := by omega
    rw [this]
set_option maxRecDepth 100000 in
theorem smGreat (hm : Tryz.prog.follows .mixedOrders = true) : SmCall Tryz.prog 7 (fun args h => (ctS gConfs fGreat args h).sel) :=
  ctS_ok hm (smL_ok (l := lMost) ⟨smMost hm goalMost1_ok, smMost hm goalMost2_ok, trivial⟩) (by decide) (fun ds a h => by
    unfold fGreat at h
    split at h
    · simp only [Option.some.injEq, Prod.mk.injEq] at h
      obtain ⟨h1, rfl⟩ := h
      exact ⟨_, 1000, goalGreat_ok _ _ _ _ _ _ _ h1⟩
    · cases h)
set_option maxRecDepth 100000 in
theorem goalBoundMost_ok : goalBoundMost := by
  refine kernel_go goalBoundMost_eq ?_
  intro nil n s t f l p
  simp only [yNot_t, yNot_f, yEq_t, yEq_f, yAnd_t, yAnd_f, yOr_t, yOr_f, yIff_t, yIff_f, yLt_t, yLt_f, yLe_t, yLe_f, yIn_t, yIn_f, yNlt_t, yNlt_f, yNle_t, yNle_f, yNeq_t, yNeq_f, yGrow_t, yGrow_f, yInt_e, yNat_e, yNadd_e, yNsub_e, yAdd_e, ySub_e, yMul_e, yCol_int, yCol_bool, true_and, and_true, Nat.zero_add, Nat.add_zero, Nat.le_refl, forall_const, true_implies, Bool.true_eq_false, Bool.false_eq_true, false_implies]
  refine ⟨fun _ => trivial, fun hn => ⟨⟨0, Nat.zero_le _, rfl, rfl⟩, fun _ i hi => ?_⟩⟩
  have hi : i ≤ n := hi
  have hg : gr s t f l p (i + 1) = max (gr s t f l p i) (mostC (s i) (t i) (f i) (l i) (p i)) := rfl
  have hw : i < n → yWrap .i64 ((i : Int) + 1) = ((i + 1 : Nat) : Int) := fun h => by rw [wrap64 (by omega) (by omega)]; rfl
  have hm : i < n → (mGr n (i + 1)).succ ≤ mGr n i := fun h => by unfold mGr; omega
  have hp : i < n → prGr n (i + 1) := fun h => h
  have he : (fun k => s k) = s ∧ (fun k => t k) = t := ⟨rfl, rfl⟩
  refine ⟨fun hlt => ?_, fun hge => ?_⟩
  · have hlt : i < n := by omega
    have hw := hw hlt
    have hm := hm hlt
    have hp := hp hlt
    repeat' (first | apply And.intro | intro _)
    all_goals first
      | exact ⟨i + 1, hp, hm, by rw [hg]; omega, hw.symm⟩
      | omega
      | (rename_i h; exact h rfl)
  · obtain rfl : i = n := by omega
    refine ⟨⟨fun _ => ⟨fun _ => trivial, fun h => h rfl⟩, fun h => by omega⟩, fun h => by omega⟩
end Go.Proofs.YtbjkadagacdniaaGreatDoor.Ex
