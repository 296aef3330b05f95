/- The law ScriptLines, walked; and chapter 28's example. -/
import Derived.Test.YtnlegpofdggbcaaDoorCLines
namespace Go.Proofs.YtnlegpofdggbcaaDoor.Ex
open Go

-- OPEN colsOk prSl mSl
def colsOk (n : Nat) (th key val hi : Nat → Int) : Bool := (List.range n).all fun i => inE (th i) (key i) (val i) (hi i)
def l28 : List (Nat × Sm) := [(11, .ct (ctS [.cell cEnt] fLines))]
set_option maxRecDepth 100000 in
theorem up28 : isY true (callS Tryd.prog (smL l28) 1000 5 []) = true := by kernel_rfl
def lSl : List (Nat × Sm) := [(11, .ct (ctS [.cell cEnt] fLines)), (7, .ct (ctS gLine fLine)), (10, .ct (ctS gLine fLine)), (12, .ct (ctS gOp fOp)), (13, .ct (ctS gOp fOp)), (5, .call (smB true))]
abbrev gSl : List Ag := [.cell cEnt, .agg [none, none, none, none, none]]
abbrev dSl (nil : Bool) (n : Nat) (kd th k key val hi most : Nat → Int) (ok okey oval ohi omost : Int) : List Da := [.cell (.rows nil n [.int .i64 kd, .int .i64 th, .int .i64 k, .int .u64 key, .int .u64 val, .int .u64 hi, .int .i64 most]), .agg [.v (.y .i64 ok), .v (.y .u64 okey), .v (.y .u64 oval), .v (.y .u64 ohi), .v (.y .i64 omost)]]
def mSl (n i : Nat) : Nat := n - i
def prSl (n i : Nat) : Prop := i ≤ n
def annSl (n : Nat) (kd th k key val hi most : Nat → Int) (b : Nat) : Option (St → LoopA) :=
  match b with
  | 0 => some fun _ => { ι := Nat, tms := [5, 6], tmU := fun i => [.ys (linesC kd th k key val hi most i), .y .i64 (yInt i)], ids := [], hpU := fun _ => [], del := [], ex := 0, pre := prSl n, ms := mSl n }
  | _ => none
def goalSl : Prop := ∀ (nil : Bool) (n : Nat) (kd th k key val hi most : Nat → Int) (ok okey oval ohi omost : Int), colsOk n th key val hi = true → inO okey oval ohi = true →
  wxF Tryd.prog (smL lSl) (annSl n kd th k key val hi most) 1000 4 (canA gSl (dSl nil n kd th k key val hi most ok okey oval ohi omost) []).1 (heapOf (canA gSl (dSl nil n kd th k key val hi most ok okey oval ohi omost) []).2) (fun r _ => cmpC (.yb true) r)
set_option maxRecDepth 100000 in
theorem goalSl_eq : goalSl = (∀ (nil : Bool) (n : Nat) (kd th k key val hi most : Nat → Int) (ok okey oval ohi omost : Int), colsOk n th key val hi = true → inO okey oval ohi = true → (yLt (100 : Int) (yInt n) = true → true = true) ∧ (yLt (100 : Int) (yInt n) = false → true = true ∧ (∃ (i0 : Nat), prSl n i0 ∧ true = true ∧ linesC kd th k key val hi most i0 = [] ∧ yInt i0 = (0 : Int) ∧ true = true) ∧ ∀ (g : Nat → AV) (i : Nat), prSl n i → (yLt (yInt i) (yInt n) = true → (yIn (yInt i) n = true → (yNlt (yNadd (nat_lit 0) (yNat (yInt i))) n = true → (yAnd (inI (th (yNadd (nat_lit 0) (yNat (yInt i))))) (inO (key (yNadd (nat_lit 0) (yNat (yInt i)))) (val (yNadd (nat_lit 0) (yNat (yInt i)))) (hi (yNadd (nat_lit 0) (yNat (yInt i))))) = true → (yIn (yInt i) n = true → (yNlt (yNadd (nat_lit 0) (yNat (yInt i))) n = true → (yAnd (inI (th (yNadd (nat_lit 0) (yNat (yInt i))))) (inO (key (yNadd (nat_lit 0) (yNat (yInt i)))) (val (yNadd (nat_lit 0) (yNat (yInt i)))) (hi (yNadd (nat_lit 0) (yNat (yInt i))))) = true → (yNot (ySEq (lineC (kd (yNadd (nat_lit 0) (yNat (yInt i)))) (th (yNadd (nat_lit 0) (yNat (yInt i)))) (k (yNadd (nat_lit 0) (yNat (yInt i)))) (key (yNadd (nat_lit 0) (yNat (yInt i)))) (val (yNadd (nat_lit 0) (yNat (yInt i)))) (hi (yNadd (nat_lit 0) (yNat (yInt i)))) (most (yNadd (nat_lit 0) (yNat (yInt i))))) (lineC (kd (yNadd (nat_lit 0) (yNat (yInt i)))) (th (yNadd (nat_lit 0) (yNat (yInt i)))) (k (yNadd (nat_lit 0) (yNat (yInt i)))) (key (yNadd (nat_lit 0) (yNat (yInt i)))) (val (yNadd (nat_lit 0) (yNat (yInt i)))) (hi (yNadd (nat_lit 0) (yNat (yInt i)))) (most (yNadd (nat_lit 0) (yNat (yInt i)))))) = true → true = false) ∧ (yNot (ySEq (lineC (kd (yNadd (nat_lit 0) (yNat (yInt i)))) (th (yNadd (nat_lit 0) (yNat (yInt i)))) (k (yNadd (nat_lit 0) (yNat (yInt i)))) (key (yNadd (nat_lit 0) (yNat (yInt i)))) (val (yNadd (nat_lit 0) (yNat (yInt i)))) (hi (yNadd (nat_lit 0) (yNat (yInt i)))) (most (yNadd (nat_lit 0) (yNat (yInt i))))) (lineC (kd (yNadd (nat_lit 0) (yNat (yInt i)))) (th (yNadd (nat_lit 0) (yNat (yInt i)))) (k (yNadd (nat_lit 0) (yNat (yInt i)))) (key (yNadd (nat_lit 0) (yNat (yInt i)))) (val (yNadd (nat_lit 0) (yNat (yInt i)))) (hi (yNadd (nat_lit 0) (yNat (yInt i)))) (most (yNadd (nat_lit 0) (yNat (yInt i)))))) = false → (yNot (ySEq (lineC (kd (yNadd (nat_lit 0) (yNat (yInt i)))) (th (yNadd (nat_lit 0) (yNat (yInt i)))) (k (yNadd (nat_lit 0) (yNat (yInt i)))) (key (yNadd (nat_lit 0) (yNat (yInt i)))) (val (yNadd (nat_lit 0) (yNat (yInt i)))) (hi (yNadd (nat_lit 0) (yNat (yInt i)))) (most (yNadd (nat_lit 0) (yNat (yInt i))))) []) = true → (yNle (yNadd (yLen (linesC kd th k key val hi most i)) (yLen (lineC (kd (yNadd (nat_lit 0) (yNat (yInt i)))) (th (yNadd (nat_lit 0) (yNat (yInt i)))) (k (yNadd (nat_lit 0) (yNat (yInt i)))) (key (yNadd (nat_lit 0) (yNat (yInt i)))) (val (yNadd (nat_lit 0) (yNat (yInt i)))) (hi (yNadd (nat_lit 0) (yNat (yInt i)))) (most (yNadd (nat_lit 0) (yNat (yInt i))))))) (nat_lit 9223372036854775807) = true → (yNle (yNadd (yLen (yCat (linesC kd th k key val hi most i) (lineC (kd (yNadd (nat_lit 0) (yNat (yInt i)))) (th (yNadd (nat_lit 0) (yNat (yInt i)))) (k (yNadd (nat_lit 0) (yNat (yInt i)))) (key (yNadd (nat_lit 0) (yNat (yInt i)))) (val (yNadd (nat_lit 0) (yNat (yInt i)))) (hi (yNadd (nat_lit 0) (yNat (yInt i)))) (most (yNadd (nat_lit 0) (yNat (yInt i))))))) (yLen [(10 : UInt8)])) (nat_lit 9223372036854775807) = true → true = true ∧ ∃ (i' : Nat), prSl n i' ∧ Nat.succ (mSl n i') ≤ mSl n i ∧ true = true ∧ linesC kd th k key val hi most i' = yCat (yCat (linesC kd th k key val hi most i) (lineC (kd (yNadd (nat_lit 0) (yNat (yInt i)))) (th (yNadd (nat_lit 0) (yNat (yInt i)))) (k (yNadd (nat_lit 0) (yNat (yInt i)))) (key (yNadd (nat_lit 0) (yNat (yInt i)))) (val (yNadd (nat_lit 0) (yNat (yInt i)))) (hi (yNadd (nat_lit 0) (yNat (yInt i)))) (most (yNadd (nat_lit 0) (yNat (yInt i)))))) [(10 : UInt8)] ∧ yInt i' = yWrap IntKind.i64 (yAdd (yInt i) (1 : Int)) ∧ true = true) ∧ (yNle (yNadd (yLen (yCat (linesC kd th k key val hi most i) (lineC (kd (yNadd (nat_lit 0) (yNat (yInt i)))) (th (yNadd (nat_lit 0) (yNat (yInt i)))) (k (yNadd (nat_lit 0) (yNat (yInt i)))) (key (yNadd (nat_lit 0) (yNat (yInt i)))) (val (yNadd (nat_lit 0) (yNat (yInt i)))) (hi (yNadd (nat_lit 0) (yNat (yInt i)))) (most (yNadd (nat_lit 0) (yNat (yInt i))))))) (yLen [(10 : UInt8)])) (nat_lit 9223372036854775807) = false → False)) ∧ (yNle (yNadd (yLen (linesC kd th k key val hi most i)) (yLen (lineC (kd (yNadd (nat_lit 0) (yNat (yInt i)))) (th (yNadd (nat_lit 0) (yNat (yInt i)))) (k (yNadd (nat_lit 0) (yNat (yInt i)))) (key (yNadd (nat_lit 0) (yNat (yInt i)))) (val (yNadd (nat_lit 0) (yNat (yInt i)))) (hi (yNadd (nat_lit 0) (yNat (yInt i)))) (most (yNadd (nat_lit 0) (yNat (yInt i))))))) (nat_lit 9223372036854775807) = false → False)) ∧ (yNot (ySEq (lineC (kd (yNadd (nat_lit 0) (yNat (yInt i)))) (th (yNadd (nat_lit 0) (yNat (yInt i)))) (k (yNadd (nat_lit 0) (yNat (yInt i)))) (key (yNadd (nat_lit 0) (yNat (yInt i)))) (val (yNadd (nat_lit 0) (yNat (yInt i)))) (hi (yNadd (nat_lit 0) (yNat (yInt i)))) (most (yNadd (nat_lit 0) (yNat (yInt i))))) []) = false → true = true ∧ ∃ (i' : Nat), prSl n i' ∧ Nat.succ (mSl n i') ≤ mSl n i ∧ true = true ∧ linesC kd th k key val hi most i' = linesC kd th k key val hi most i ∧ yInt i' = yWrap IntKind.i64 (yAdd (yInt i) (1 : Int)) ∧ true = true))) ∧ (yAnd (inI (th (yNadd (nat_lit 0) (yNat (yInt i))))) (inO (key (yNadd (nat_lit 0) (yNat (yInt i)))) (val (yNadd (nat_lit 0) (yNat (yInt i)))) (hi (yNadd (nat_lit 0) (yNat (yInt i))))) = false → False)) ∧ (yNlt (yNadd (nat_lit 0) (yNat (yInt i))) n = false → False)) ∧ (yIn (yInt i) n = false → False)) ∧ (yAnd (inI (th (yNadd (nat_lit 0) (yNat (yInt i))))) (inO (key (yNadd (nat_lit 0) (yNat (yInt i)))) (val (yNadd (nat_lit 0) (yNat (yInt i)))) (hi (yNadd (nat_lit 0) (yNat (yInt i))))) = false → False)) ∧ (yNlt (yNadd (nat_lit 0) (yNat (yInt i))) n = false → False)) ∧ (yIn (yInt i) n = false → False)) ∧ (yLt (yInt i) (yInt n) = false → (yNle (yNadd (nat_lit 0) n) n = true → ((yCol (CK.int IntKind.i64) n fun (i : Nat) => AV.y IntKind.i64 (kd i)) = true → ((yCol (CK.int IntKind.i64) n fun (i : Nat) => AV.y IntKind.i64 (th i)) = true → ((yCol (CK.int IntKind.i64) n fun (i : Nat) => AV.y IntKind.i64 (k i)) = true → ((yCol (CK.int IntKind.u64) n fun (i : Nat) => AV.y IntKind.u64 (key i)) = true → ((yCol (CK.int IntKind.u64) n fun (i : Nat) => AV.y IntKind.u64 (val i)) = true → ((yCol (CK.int IntKind.u64) n fun (i : Nat) => AV.y IntKind.u64 (hi i)) = true → ((yCol (CK.int IntKind.i64) n fun (i : Nat) => AV.y IntKind.i64 (most i)) = true → ((linesOk n (fun (i : Nat) => th i) (fun (i : Nat) => key i) (fun (i : Nat) => val i) fun (i : Nat) => hi i) = true → (ySEq (linesC (fun (i : Nat) => kd i) (fun (i : Nat) => th i) (fun (i : Nat) => k i) (fun (i : Nat) => key i) (fun (i : Nat) => val i) (fun (i : Nat) => hi i) (fun (i : Nat) => most i) n) (linesC kd th k key val hi most i) = true → (inO okey oval ohi = true → (inO okey oval ohi = true → (ySEq (opC ok okey oval ohi omost) (opC ok okey oval ohi omost) = true → true = true) ∧ (ySEq (opC ok okey oval ohi omost) (opC ok okey oval ohi omost) = false → true = false)) ∧ (inO okey oval ohi = false → False)) ∧ (inO okey oval ohi = false → False)) ∧ (ySEq (linesC (fun (i : Nat) => kd i) (fun (i : Nat) => th i) (fun (i : Nat) => k i) (fun (i : Nat) => key i) (fun (i : Nat) => val i) (fun (i : Nat) => hi i) (fun (i : Nat) => most i) n) (linesC kd th k key val hi most i) = false → true = false)) ∧ ((linesOk n (fun (i : Nat) => th i) (fun (i : Nat) => key i) (fun (i : Nat) => val i) fun (i : Nat) => hi i) = false → False)) ∧ ((yCol (CK.int IntKind.i64) n fun (i : Nat) => AV.y IntKind.i64 (most i)) = false → False)) ∧ ((yCol (CK.int IntKind.u64) n fun (i : Nat) => AV.y IntKind.u64 (hi i)) = false → False)) ∧ ((yCol (CK.int IntKind.u64) n fun (i : Nat) => AV.y IntKind.u64 (val i)) = false → False)) ∧ ((yCol (CK.int IntKind.u64) n fun (i : Nat) => AV.y IntKind.u64 (key i)) = false → False)) ∧ ((yCol (CK.int IntKind.i64) n fun (i : Nat) => AV.y IntKind.i64 (k i)) = false → False)) ∧ ((yCol (CK.int IntKind.i64) n fun (i : Nat) => AV.y IntKind.i64 (th i)) = false → False)) ∧ ((yCol (CK.int IntKind.i64) n fun (i : Nat) => AV.y IntKind.i64 (kd i)) = false → False)) ∧ (yNle (yNadd (nat_lit 0) n) n = false → False)))) := by kernel_rfl
theorem ySEq_self (l : List UInt8) : ySEq l l = true := by
  show eqS l l = true
  rw [eqS_eq]; simp
theorem colsOk_t {n : Nat} {th key val hi : Nat → Int} (h : colsOk n th key val hi = true) {i : Nat} (hi2 : i < n) : inI (th i) = true ∧ inO (key i) (val i) (hi i) = true := by
  have := List.all_eq_true.1 h i (List.mem_range.2 hi2)
  simpa only [inE, yAnd_t] using this
set_option maxRecDepth 100000 in
theorem goalSl_ok : goalSl := by
  refine kernel_go goalSl_eq ?_
  intro nil n kd th k key val hi most ok okey oval ohi omost hc ho
  simp only [ySEq_self, ho, yLen_cat, yLen_cons, yLen_nil, yNot_t, yNot_f, yEq_t, yEq_f, yAnd_t, yAnd_f, yOr_t, yOr_f, yIff_t, yIff_f, yLt_t, yLt_f, yLe_t, yLe_f, yIn_t, yIn_f, yNlt_t, yNlt_f, yNle_t, yNle_f, yNeq_t, yNeq_f, yGrow_t, yGrow_f, yInt_e, yNat_e, yNadd_e, yNsub_e, yAdd_e, ySub_e, yMul_e, yCol_int, yCol_bool, true_and, and_true, Nat.zero_add, Nat.add_zero, Nat.le_refl, forall_const, true_implies, Bool.true_eq_false, Bool.false_eq_true, false_implies]
  have hall := fun i (h : i < n) => colsOk_t hc h
  refine ⟨fun _ => trivial, fun hle => ⟨⟨0, Nat.zero_le _, rfl, rfl⟩, fun _ i hi0 => ⟨fun hlt => ?_, fun hge => ?_⟩⟩⟩
  · have hi1 : i < n := by omega
    obtain ⟨a1, a2⟩ := hall i hi1
    have b1 := linesC_len kd th k key val hi most i
    have b2 := lineC_len (kd i) (th i) (k i) (key i) (val i) (hi i) (most i)
    have hs : linesC kd th k key val hi most (i + 1) = linesC kd th k key val hi most i ++ (bif ySEq (lineC (kd i) (th i) (k i) (key i) (val i) (hi i) (most i)) [] then [] else lineC (kd i) (th i) (k i) (key i) (val i) (hi i) (most i) ++ [10]) := rfl
    have b3 : yLen (linesC kd th k key val hi most i) ≤ 131 * i := b1
    have b4 : yLen (lineC (kd i) (th i) (k i) (key i) (val i) (hi i) (most i)) ≤ 130 := b2
    have w1 : yWrap .i64 ((i : Int) + 1) = ((i + 1 : Nat) : Int) := by rw [wrap64 (by omega) (by omega)]; omega
    have hp : prSl n (i + 1) := by unfold prSl; omega
    have hm2 : (mSl n (i + 1)).succ ≤ mSl n i := by unfold mSl; omega
    generalize lineC (kd i) (th i) (k i) (key i) (val i) (hi i) (most i) = L at *
    cases hL : ySEq L [] with
    | true =>
      rw [hL, cond_true, List.append_nil] at hs
      simp only [a1, a2, w1, Bool.true_eq_false, false_implies, true_and, true_implies]
      repeat' (first | apply And.intro | intro _)
      all_goals first | omega | exact ⟨i + 1, hp, hm2, hs, rfl⟩ | (simp_all; done) | (trace_state; fail)
    | false =>
      rw [hL, cond_false] at hs
      simp only [a1, a2, w1, Bool.false_eq_true, false_implies, and_true, true_implies]
      repeat' (first | apply And.intro | intro _)
      all_goals first | omega | exact ⟨i + 1, hp, hm2, by rw [hs]; simp [yCat], rfl⟩ | (simp_all; done) | (trace_state; fail)
  · have e : i = n := by unfold prSl at hi0; omega
    subst e
    have hl : linesOk i th key val hi = true := by
      unfold linesOk
      simp only [yAnd_t, yNle_t]
      exact ⟨by omega, hc⟩
    refine ⟨⟨fun _ => ⟨fun _ => trivial, fun h => ?_⟩, fun h => ?_⟩, fun h => absurd h (Nat.lt_irrefl _)⟩
    · exact Bool.noConfusion ((ySEq_self (linesC kd th k key val hi most i)).symm.trans h)
    · exact Bool.noConfusion (hl.symm.trans h)
theorem l28_ok (hm : Tryd.prog.follows .mixedOrders = true) : SmOK Tryd.prog (smL l28) := smL_ok ⟨smLines hm, trivial⟩
theorem awake28 (hm : Tryd.prog.follows .mixedOrders = true) : SmCall Tryd.prog 5 (smB true) :=
  smBool_ok Tryd.func5 (by kernel_rfl) (by kernel_rfl) fun w hw => callY_calls hm (l28_ok hm) up28 (us := []) rfl w hw
theorem lSl_ok (hm : Tryd.prog.follows .mixedOrders = true) : SmOK Tryd.prog (smL lSl) := smL_ok ⟨smLines hm, smLine hm, smLineR hm, smOp hm, smOpRef hm, awake28 hm, trivial⟩
end Go.Proofs.YtnlegpofdggbcaaDoor.Ex
