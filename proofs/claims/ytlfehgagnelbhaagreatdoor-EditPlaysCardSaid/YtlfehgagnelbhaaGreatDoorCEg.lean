/- A change of a leaf, told an access: what was defined in CEd is what the program and the document do. -/
import Derived.Test.YtlfehgagnelbhaaGreatDoorPkEc
namespace Go.Proofs.YtlfehgagnelbhaaGreatDoor.Ex
open Go

theorem tk1 {cs ct cf : Int} {E : EdS} {got : Int} (h : E.at_ = 1) (hg : got = 1) : tkE cs ct cf E got = rdE cs ct cf (nmE E) := by unfold tkE; rw [if_pos h, if_pos hg]
theorem tk1n {cs ct cf : Int} {E : EdS} {got : Int} (h : E.at_ = 1) (hg : ¬ got = 1) : tkE cs ct cf E got = { E with at_ := 0 } := by unfold tkE; rw [if_pos h, if_neg hg]
theorem tk2 {cs ct cf : Int} {E : EdS} {got : Int} (h : E.at_ = 2) : tkE cs ct cf E got = rdE cs ct cf (nmE { E with kn := false, nk := E.nk + 1, k := snocI E.nk E.k got }) := by unfold tkE; rw [if_neg (by omega), if_pos h]
theorem tk3 {cs ct cf : Int} {E : EdS} {got : Int} (h : E.at_ = 3) : tkE cs ct cf E got = rdE cs ct cf (nmE { E with vn := false, nv := E.nv + 1, w := snocI E.nv E.w got }) := by unfold tkE; rw [if_neg (by omega), if_neg (by omega), if_pos h]
theorem tk4 {cs ct cf : Int} {E : EdS} {got : Int} (h : E.at_ = 4) : tkE cs ct cf E got = { E with nw := E.nw - 1, wa := fun j => E.wa (1 + j), wb := fun j => E.wb (1 + j), at_ := if E.nw = 1 then 0 else 4 } := by unfold tkE; rw [if_neg (by omega), if_neg (by omega), if_neg (by omega), if_pos h]
theorem tk5 {cs ct cf : Int} {E : EdS} {got : Int} (h : E.at_ = 5) : tkE cs ct cf E got = { E with at_ := 0 } := by unfold tkE; rw [if_neg (by omega), if_neg (by omega), if_neg (by omega), if_neg (by omega), if_pos h]
theorem tk0 {cs ct cf : Int} {E : EdS} {got : Int} (h : E.at_ ≠ 1 ∧ E.at_ ≠ 2 ∧ E.at_ ≠ 3 ∧ E.at_ ≠ 4 ∧ E.at_ ≠ 5) : tkE cs ct cf E got = E := by unfold tkE; rw [if_neg h.1, if_neg h.2.1, if_neg h.2.2.1, if_neg h.2.2.2.1, if_neg h.2.2.2.2]
theorem ou1 {E : EdS} {po got : Int} (h : E.at_ = 1) (hg : got = 1) : outE E po got = po ∧ mkE E got = 0 ∧ maE E got = 0 := by unfold outE mkE maE; simp only [h, hg, if_true, and_self]
theorem ou1n {E : EdS} {po got : Int} (h : E.at_ = 1) (hg : ¬ got = 1) : outE E po got = 3 ∧ mkE E got = 3 ∧ maE E got = E.h := by unfold outE mkE maE; simp only [h, hg, if_true, if_false, and_self]
theorem ou4 {E : EdS} {po got : Int} (h : E.at_ = 4) : outE E po got = (if E.nw = 1 then 1 else po) ∧ mkE E got = (if E.nw = 1 then 12 else 0) ∧ maE E got = 0 := by
  unfold outE mkE maE; simp [h]
theorem ou5 {E : EdS} {po got : Int} (h : E.at_ = 5) : outE E po got = 3 ∧ mkE E got = 0 ∧ maE E got = 0 := by unfold outE mkE maE; simp [h]
theorem ou0 {E : EdS} {po got : Int} (h1 : E.at_ ≠ 1) (h4 : E.at_ ≠ 4) (h5 : E.at_ ≠ 5) : outE E po got = po ∧ mkE E got = 0 ∧ maE E got = 0 := by unfold outE mkE maE; simp [h1, h4, h5]
theorem sn_P {n : Nat} {k : Nat → Int} {x : Int} : ∀ j, j < n + 1 → snocI n k x j = (fun i : Nat => ySel (yNlt i n) (k i) x) j := fun j _ => by
  unfold snocI; simp only [ySel, yNlt]; by_cases h : j < n <;> simp [h]
theorem sn_0 {k : Nat → Int} {x : Int} : ∀ j, j < 0 + 1 → snocI 0 k x j = litI 1 [AV.y .u64 x] 0 j := fun j h => by
  obtain rfl : j = 0 := by omega
  rfl
theorem invE_pre {cs ct cf cl cp : Int} {E : EdS} (h : invE cs ct cf cl cp E = true) (h0 : E.at_ ≠ 0) (h4 : E.at_ ≠ 4) (h5 : E.at_ ≠ 5) :
    ∀ X : EdS, X.h = E.h → X.v = E.v → (X.nk : Int) ≤ E.nk + 1 → (X.nv : Int) ≤ E.nv + 1 → prePl cs ct cf cl cp X = true := fun X e1 e2 e3 e4 => by
  unfold invE at h
  rw [decide_eq_true_iff] at h
  obtain ⟨hh, h⟩ := h
  rcases h with h | ⟨hr, hv, _, _, _, hn, hst⟩
  · exact absurd h h0
  · have hc := rightC_iff.1 hr
    unfold prePl
    simp only [yAnd_t, yNle_t, hr, true_and]
    refine ⟨by show inU X.h = true; rw [e1]; exact hh, by show inU X.v = true; rw [e2]; exact hv, ?_, ?_⟩
    · show X.nk ≤ 80; omega
    · show X.nv ≤ 80; omega
theorem invE_len {cs ct cf cl cp : Int} {E : EdS} (h : invE cs ct cf cl cp E = true) (h0 : E.at_ ≠ 0) (h4 : E.at_ ≠ 4) (h5 : E.at_ ≠ 5) : qNk E ≤ 64 ∧ qNv E ≤ 64 := by
  unfold invE at h
  rw [decide_eq_true_iff] at h
  obtain ⟨hh, h⟩ := h
  rcases h with h | ⟨hr, hv, _, _, _, hn, hst⟩
  · exact absurd h h0
  · have hc := rightC_iff.1 hr
    unfold qNk qNv
    omega
def goalTkP_0 (ls : Int) (lt : Int) (lf : Int) (E : EdS) (got : Int) := rdE ls lt lf (nmE { h := qH E, v := qV E, n := qN E, kd := qKd E, ix := qIx E, key := qKey E, val := qVal E, at_ := qAt E, nb := qNb E, kn := false, nk := yNadd (yNat (yInt (qNk E))) (nat_lit 1), k := fun (i : Nat) => ySel (yNlt i (yNat (yInt (qNk E)))) (qK E i) got, vn := qVn E, nv := qNv E, w := fun (i : Nat) => qW E i, lk := qLk E, wn := qWn E, nw := qNw E, wa := fun (i : Nat) => qWa E i, wb := fun (i : Nat) => qWb E i })
def goalTkP_1 (ls : Int) (lt : Int) (lf : Int) (E : EdS) (got : Int) := rdE ls lt lf (nmE { h := qH E, v := qV E, n := qN E, kd := qKd E, ix := qIx E, key := qKey E, val := qVal E, at_ := qAt E, nb := qNb E, kn := qKn E, nk := qNk E, k := fun (i : Nat) => qK E i, vn := false, nv := yNadd (yNat (yInt (qNv E))) (nat_lit 1), w := fun (i : Nat) => ySel (yNlt i (yNat (yInt (qNv E)))) (qW E i) got, lk := qLk E, wn := qWn E, nw := qNw E, wa := fun (i : Nat) => qWa E i, wb := fun (i : Nat) => qWb E i })
def goalTkP_2 (ls : Int) (lt : Int) (lf : Int) (E : EdS) := rdE ls lt lf (nmE { h := qH E, v := qV E, n := qN E, kd := qKd E, ix := qIx E, key := qKey E, val := qVal E, at_ := qAt E, nb := qNb E, kn := qKn E, nk := yNat (yInt (qNk E)), k := fun (i : Nat) => qK E i, vn := qVn E, nv := qNv E, w := fun (i : Nat) => qW E i, lk := qLk E, wn := qWn E, nw := qNw E, wa := fun (i : Nat) => qWa E i, wb := fun (i : Nat) => qWb E i })
def goalTkP_3 (ls : Int) (lt : Int) (lf : Int) (E : EdS) := rdE ls lt lf (nmE { h := qH E, v := qV E, n := qN E, kd := qKd E, ix := qIx E, key := qKey E, val := qVal E, at_ := qAt E, nb := qNb E, kn := qKn E, nk := qNk E, k := fun (i : Nat) => qK E i, vn := qVn E, nv := yNat (yInt (qNv E)), w := fun (i : Nat) => qW E i, lk := qLk E, wn := qWn E, nw := qNw E, wa := fun (i : Nat) => qWa E i, wb := fun (i : Nat) => qWb E i })
def goalTkP_4 (ls : Int) (lt : Int) (lf : Int) (E : EdS) := rdE ls lt lf (nmE { h := qH E, v := qV E, n := qN E, kd := qKd E, ix := qIx E, key := qKey E, val := qVal E, at_ := qAt E, nb := qNb E, kn := qKn E, nk := qNk E, k := fun (i : Nat) => qK E i, vn := qVn E, nv := qNv E, w := fun (i : Nat) => qW E i, lk := qLk E, wn := qWn E, nw := qNw E, wa := fun (i : Nat) => qWa E i, wb := fun (i : Nat) => qWb E i })
def goalTkP_5 (E : EdS) := yCol (CK.int IntKind.i64) (qNw E) fun (i : Nat) => AV.y IntKind.i64 (qWa E i)
def goalTkP_6 (E : EdS) := yCol (CK.int IntKind.u64) (qNw E) fun (i : Nat) => AV.y IntKind.u64 (qWb E i)
def goalTkP_7 (ls : Int) (lt : Int) (lf : Int) (E : EdS) (got : Int) := qKn (tkE ls lt lf E got) = qKn E ∧ qNk (tkE ls lt lf E got) = qNk E ∧ ∀ (i : Nat), Nat.succ i ≤ qNk (tkE ls lt lf E got) → qK (tkE ls lt lf E got) i = qK E i ∧ True
def goalTkP_8 (ls : Int) (lt : Int) (lf : Int) (E : EdS) (got : Int) := qVn (tkE ls lt lf E got) = qVn E ∧ qNv (tkE ls lt lf E got) = qNv E ∧ ∀ (i : Nat), Nat.succ i ≤ qNv (tkE ls lt lf E got) → qW (tkE ls lt lf E got) i = qW E i ∧ True
def goalTkP_9 (E : EdS) := yCol (CK.int IntKind.u64) (qNk E) fun (i : Nat) => AV.y IntKind.u64 (qK E i)
def goalTkP_10 (E : EdS) := yCol (CK.int IntKind.u64) (qNv E) fun (i : Nat) => AV.y IntKind.u64 (qW E i)
def goalTkP_11 (ls : Int) (lt : Int) (lf : Int) (E : EdS) (got : Int) := qWn (tkE ls lt lf E got) = qWn E ∧ qNw (tkE ls lt lf E got) = qNw E ∧ ∀ (i : Nat), Nat.succ i ≤ qNw (tkE ls lt lf E got) → qWa (tkE ls lt lf E got) i = qWa E i ∧ qWb (tkE ls lt lf E got) i = qWb E i ∧ True
def goalTkPV : Prop := (∀ (sp sv sn si : Int) (inr : Bool) (dp ls lt lf ll lp : Int) (E : EdS) (po _mk _ma _mb got : Int), invE ls lt lf ll lp E = true → (yEq (qAt E) (1 : Int) = true → (yNot (yEq got (1 : Int)) = true → sp = sp ∧ sv = sv ∧ sn = sn ∧ si = si ∧ qH (tkE ls lt lf E got) = qH E ∧ qV (tkE ls lt lf E got) = qV E ∧ qN (tkE ls lt lf E got) = qN E ∧ inr = inr ∧ dp = dp ∧ ls = ls ∧ lt = lt ∧ lf = lf ∧ ll = ll ∧ lp = lp ∧ qKd (tkE ls lt lf E got) = qKd E ∧ qIx (tkE ls lt lf E got) = qIx E ∧ qKey (tkE ls lt lf E got) = qKey E ∧ qVal (tkE ls lt lf E got) = qVal E ∧ qAt (tkE ls lt lf E got) = (0 : Int) ∧ outE E po got = (3 : Int) ∧ qNb (tkE ls lt lf E got) = qNb E ∧ (goalTkP_7 ls lt lf E got) ∧ (goalTkP_8 ls lt lf E got) ∧ qLk (tkE ls lt lf E got) = qLk E ∧ (goalTkP_11 ls lt lf E got) ∧ mkE E got = (3 : Int) ∧ maE E got = qH E ∧ (0 : Int) = (0 : Int) ∧ true = true) ∧ (yNot (yEq got (1 : Int)) = false → ((goalTkP_9 E) = true → ((goalTkP_10 E) = true → ((goalTkP_5 E) = true → ((goalTkP_6 E) = true → (prePl ls lt lf ll lp { h := qH E, v := qV E, n := qN E, kd := qKd E, ix := qIx E, key := qKey E, val := qVal E, at_ := qAt E, nb := qNb E, kn := qKn E, nk := qNk E, k := fun (i : Nat) => qK E i, vn := qVn E, nv := qNv E, w := fun (i : Nat) => qW E i, lk := qLk E, wn := qWn E, nw := qNw E, wa := fun (i : Nat) => qWa E i, wb := fun (i : Nat) => qWb E i } = true → sp = sp ∧ sv = sv ∧ sn = sn ∧ si = si ∧ qH (tkE ls lt lf E got) = qH (goalTkP_4 ls lt lf E) ∧ qV (tkE ls lt lf E got) = qV (goalTkP_4 ls lt lf E) ∧ qN (tkE ls lt lf E got) = qN (goalTkP_4 ls lt lf E) ∧ inr = inr ∧ dp = dp ∧ ls = ls ∧ lt = lt ∧ lf = lf ∧ ll = ll ∧ lp = lp ∧ qKd (tkE ls lt lf E got) = qKd (goalTkP_4 ls lt lf E) ∧ qIx (tkE ls lt lf E got) = qIx (goalTkP_4 ls lt lf E) ∧ qKey (tkE ls lt lf E got) = qKey (goalTkP_4 ls lt lf E) ∧ qVal (tkE ls lt lf E got) = qVal (goalTkP_4 ls lt lf E) ∧ qAt (tkE ls lt lf E got) = qAt (goalTkP_4 ls lt lf E) ∧ outE E po got = po ∧ qNb (tkE ls lt lf E got) = qNb (goalTkP_4 ls lt lf E) ∧ (qKn (tkE ls lt lf E got) = qKn (goalTkP_4 ls lt lf E) ∧ qNk (tkE ls lt lf E got) = qNk (goalTkP_4 ls lt lf E) ∧ ∀ (i : Nat), Nat.succ i ≤ qNk (tkE ls lt lf E got) → qK (tkE ls lt lf E got) i = qK (goalTkP_4 ls lt lf E) i ∧ True) ∧ (qVn (tkE ls lt lf E got) = qVn (goalTkP_4 ls lt lf E) ∧ qNv (tkE ls lt lf E got) = qNv (goalTkP_4 ls lt lf E) ∧ ∀ (i : Nat), Nat.succ i ≤ qNv (tkE ls lt lf E got) → qW (tkE ls lt lf E got) i = qW (goalTkP_4 ls lt lf E) i ∧ True) ∧ qLk (tkE ls lt lf E got) = qLk (goalTkP_4 ls lt lf E) ∧ (qWn (tkE ls lt lf E got) = qWn (goalTkP_4 ls lt lf E) ∧ qNw (tkE ls lt lf E got) = qNw (goalTkP_4 ls lt lf E) ∧ ∀ (i : Nat), Nat.succ i ≤ qNw (tkE ls lt lf E got) → qWa (tkE ls lt lf E got) i = qWa (goalTkP_4 ls lt lf E) i ∧ qWb (tkE ls lt lf E got) i = qWb (goalTkP_4 ls lt lf E) i ∧ True) ∧ mkE E got = (0 : Int) ∧ maE E got = (0 : Int) ∧ (0 : Int) = (0 : Int) ∧ true = true) ∧ (prePl ls lt lf ll lp { h := qH E, v := qV E, n := qN E, kd := qKd E, ix := qIx E, key := qKey E, val := qVal E, at_ := qAt E, nb := qNb E, kn := qKn E, nk := qNk E, k := fun (i : Nat) => qK E i, vn := qVn E, nv := qNv E, w := fun (i : Nat) => qW E i, lk := qLk E, wn := qWn E, nw := qNw E, wa := fun (i : Nat) => qWa E i, wb := fun (i : Nat) => qWb E i } = false → False)) ∧ ((goalTkP_6 E) = false → False)) ∧ ((goalTkP_5 E) = false → False)) ∧ ((goalTkP_10 E) = false → False)) ∧ ((goalTkP_9 E) = false → False))) ∧ (yEq (qAt E) (1 : Int) = false → (yEq (qAt E) (2 : Int) = true → (yIn (yInt (qNk E)) (Nat.succ (qNk E)) = true → (yNeq (yNat (yInt (qNk E))) (yNat (yInt (qNk E))) = true → (yIn (yInt (qNk E)) (Nat.succ (qNk E)) = true → (yNeq (nat_lit 1) (nat_lit 0) = true → ((yCol (CK.int IntKind.u64) (yNat (yInt (qNk E))) fun (i : Nat) => AV.y IntKind.u64 (qK E i)) = true → ((goalTkP_10 E) = true → ((goalTkP_5 E) = true → ((goalTkP_6 E) = true → (prePl ls lt lf ll lp { h := qH E, v := qV E, n := qN E, kd := qKd E, ix := qIx E, key := qKey E, val := qVal E, at_ := qAt E, nb := qNb E, kn := qKn E, nk := yNat (yInt (qNk E)), k := fun (i : Nat) => qK E i, vn := qVn E, nv := qNv E, w := fun (i : Nat) => qW E i, lk := qLk E, wn := qWn E, nw := qNw E, wa := fun (i : Nat) => qWa E i, wb := fun (i : Nat) => qWb E i } = true → sp = sp ∧ sv = sv ∧ sn = sn ∧ si = si ∧ qH (tkE ls lt lf E got) = qH (goalTkP_2 ls lt lf E) ∧ qV (tkE ls lt lf E got) = qV (goalTkP_2 ls lt lf E) ∧ qN (tkE ls lt lf E got) = qN (goalTkP_2 ls lt lf E) ∧ inr = inr ∧ dp = dp ∧ ls = ls ∧ lt = lt ∧ lf = lf ∧ ll = ll ∧ lp = lp ∧ qKd (tkE ls lt lf E got) = qKd (goalTkP_2 ls lt lf E) ∧ qIx (tkE ls lt lf E got) = qIx (goalTkP_2 ls lt lf E) ∧ qKey (tkE ls lt lf E got) = qKey (goalTkP_2 ls lt lf E) ∧ qVal (tkE ls lt lf E got) = qVal (goalTkP_2 ls lt lf E) ∧ qAt (tkE ls lt lf E got) = qAt (goalTkP_2 ls lt lf E) ∧ outE E po got = po ∧ qNb (tkE ls lt lf E got) = qNb (goalTkP_2 ls lt lf E) ∧ (qKn (tkE ls lt lf E got) = qKn (goalTkP_2 ls lt lf E) ∧ qNk (tkE ls lt lf E got) = qNk (goalTkP_2 ls lt lf E) ∧ ∀ (i : Nat), Nat.succ i ≤ qNk (tkE ls lt lf E got) → qK (tkE ls lt lf E got) i = qK (goalTkP_2 ls lt lf E) i ∧ True) ∧ (qVn (tkE ls lt lf E got) = qVn (goalTkP_2 ls lt lf E) ∧ qNv (tkE ls lt lf E got) = qNv (goalTkP_2 ls lt lf E) ∧ ∀ (i : Nat), Nat.succ i ≤ qNv (tkE ls lt lf E got) → qW (tkE ls lt lf E got) i = qW (goalTkP_2 ls lt lf E) i ∧ True) ∧ qLk (tkE ls lt lf E got) = qLk (goalTkP_2 ls lt lf E) ∧ (qWn (tkE ls lt lf E got) = qWn (goalTkP_2 ls lt lf E) ∧ qNw (tkE ls lt lf E got) = qNw (goalTkP_2 ls lt lf E) ∧ ∀ (i : Nat), Nat.succ i ≤ qNw (tkE ls lt lf E got) → qWa (tkE ls lt lf E got) i = qWa (goalTkP_2 ls lt lf E) i ∧ qWb (tkE ls lt lf E got) i = qWb (goalTkP_2 ls lt lf E) i ∧ True) ∧ mkE E got = (0 : Int) ∧ maE E got = (0 : Int) ∧ (0 : Int) = (0 : Int) ∧ true = true) ∧ (prePl ls lt lf ll lp { h := qH E, v := qV E, n := qN E, kd := qKd E, ix := qIx E, key := qKey E, val := qVal E, at_ := qAt E, nb := qNb E, kn := qKn E, nk := yNat (yInt (qNk E)), k := fun (i : Nat) => qK E i, vn := qVn E, nv := qNv E, w := fun (i : Nat) => qW E i, lk := qLk E, wn := qWn E, nw := qNw E, wa := fun (i : Nat) => qWa E i, wb := fun (i : Nat) => qWb E i } = false → False)) ∧ ((goalTkP_6 E) = false → False)) ∧ ((goalTkP_5 E) = false → False)) ∧ ((goalTkP_10 E) = false → False)) ∧ ((yCol (CK.int IntKind.u64) (yNat (yInt (qNk E))) fun (i : Nat) => AV.y IntKind.u64 (qK E i)) = false → False)) ∧ (yNeq (nat_lit 1) (nat_lit 0) = false → (yGrow (yNadd (yNat (yInt (qNk E))) (nat_lit 1)) (nat_lit 8) = true → (yNle (yNadd (nat_lit 0) (yNadd (yNat (yInt (qNk E))) (nat_lit 1))) (yNadd (yNat (yInt (qNk E))) (nat_lit 1)) = true → ((yCol (CK.int IntKind.u64) (yNadd (yNat (yInt (qNk E))) (nat_lit 1)) fun (i : Nat) => AV.y IntKind.u64 (ySel (yNlt i (yNat (yInt (qNk E)))) (qK E i) got)) = true → ((goalTkP_10 E) = true → ((goalTkP_5 E) = true → ((goalTkP_6 E) = true → (prePl ls lt lf ll lp { h := qH E, v := qV E, n := qN E, kd := qKd E, ix := qIx E, key := qKey E, val := qVal E, at_ := qAt E, nb := qNb E, kn := false, nk := yNadd (yNat (yInt (qNk E))) (nat_lit 1), k := fun (i : Nat) => ySel (yNlt i (yNat (yInt (qNk E)))) (qK E i) got, vn := qVn E, nv := qNv E, w := fun (i : Nat) => qW E i, lk := qLk E, wn := qWn E, nw := qNw E, wa := fun (i : Nat) => qWa E i, wb := fun (i : Nat) => qWb E i } = true → sp = sp ∧ sv = sv ∧ sn = sn ∧ si = si ∧ qH (tkE ls lt lf E got) = qH (goalTkP_0 ls lt lf E got) ∧ qV (tkE ls lt lf E got) = qV (goalTkP_0 ls lt lf E got) ∧ qN (tkE ls lt lf E got) = qN (goalTkP_0 ls lt lf E got) ∧ inr = inr ∧ dp = dp ∧ ls = ls ∧ lt = lt ∧ lf = lf ∧ ll = ll ∧ lp = lp ∧ qKd (tkE ls lt lf E got) = qKd (goalTkP_0 ls lt lf E got) ∧ qIx (tkE ls lt lf E got) = qIx (goalTkP_0 ls lt lf E got) ∧ qKey (tkE ls lt lf E got) = qKey (goalTkP_0 ls lt lf E got) ∧ qVal (tkE ls lt lf E got) = qVal (goalTkP_0 ls lt lf E got) ∧ qAt (tkE ls lt lf E got) = qAt (goalTkP_0 ls lt lf E got) ∧ outE E po got = po ∧ qNb (tkE ls lt lf E got) = qNb (goalTkP_0 ls lt lf E got) ∧ (qKn (tkE ls lt lf E got) = qKn (goalTkP_0 ls lt lf E got) ∧ qNk (tkE ls lt lf E got) = qNk (goalTkP_0 ls lt lf E got) ∧ ∀ (i : Nat), Nat.succ i ≤ qNk (tkE ls lt lf E got) → qK (tkE ls lt lf E got) i = qK (goalTkP_0 ls lt lf E got) i ∧ True) ∧ (qVn (tkE ls lt lf E got) = qVn (goalTkP_0 ls lt lf E got) ∧ qNv (tkE ls lt lf E got) = qNv (goalTkP_0 ls lt lf E got) ∧ ∀ (i : Nat), Nat.succ i ≤ qNv (tkE ls lt lf E got) → qW (tkE ls lt lf E got) i = qW (goalTkP_0 ls lt lf E got) i ∧ True) ∧ qLk (tkE ls lt lf E got) = qLk (goalTkP_0 ls lt lf E got) ∧ (qWn (tkE ls lt lf E got) = qWn (goalTkP_0 ls lt lf E got) ∧ qNw (tkE ls lt lf E got) = qNw (goalTkP_0 ls lt lf E got) ∧ ∀ (i : Nat), Nat.succ i ≤ qNw (tkE ls lt lf E got) → qWa (tkE ls lt lf E got) i = qWa (goalTkP_0 ls lt lf E got) i ∧ qWb (tkE ls lt lf E got) i = qWb (goalTkP_0 ls lt lf E got) i ∧ True) ∧ mkE E got = (0 : Int) ∧ maE E got = (0 : Int) ∧ (0 : Int) = (0 : Int) ∧ true = true) ∧ (prePl ls lt lf ll lp { h := qH E, v := qV E, n := qN E, kd := qKd E, ix := qIx E, key := qKey E, val := qVal E, at_ := qAt E, nb := qNb E, kn := false, nk := yNadd (yNat (yInt (qNk E))) (nat_lit 1), k := fun (i : Nat) => ySel (yNlt i (yNat (yInt (qNk E)))) (qK E i) got, vn := qVn E, nv := qNv E, w := fun (i : Nat) => qW E i, lk := qLk E, wn := qWn E, nw := qNw E, wa := fun (i : Nat) => qWa E i, wb := fun (i : Nat) => qWb E i } = false → False)) ∧ ((goalTkP_6 E) = false → False)) ∧ ((goalTkP_5 E) = false → False)) ∧ ((goalTkP_10 E) = false → False)) ∧ ((yCol (CK.int IntKind.u64) (yNadd (yNat (yInt (qNk E))) (nat_lit 1)) fun (i : Nat) => AV.y IntKind.u64 (ySel (yNlt i (yNat (yInt (qNk E)))) (qK E i) got)) = false → False)) ∧ (yNle (yNadd (nat_lit 0) (yNadd (yNat (yInt (qNk E))) (nat_lit 1))) (yNadd (yNat (yInt (qNk E))) (nat_lit 1)) = false → False)) ∧ (yGrow (yNadd (yNat (yInt (qNk E))) (nat_lit 1)) (nat_lit 8) = false → False))) ∧ (yIn (yInt (qNk E)) (Nat.succ (qNk E)) = false → False)) ∧ (yNeq (yNat (yInt (qNk E))) (yNat (yInt (qNk E))) = false → False)) ∧ (yIn (yInt (qNk E)) (Nat.succ (qNk E)) = false → False)) ∧ (yEq (qAt E) (2 : Int) = false → (yEq (qAt E) (3 : Int) = true → (yIn (yInt (qNv E)) (Nat.succ (qNv E)) = true → (yNeq (yNat (yInt (qNv E))) (yNat (yInt (qNv E))) = true → (yIn (yInt (qNv E)) (Nat.succ (qNv E)) = true → (yNeq (nat_lit 1) (nat_lit 0) = true → ((goalTkP_9 E) = true → ((yCol (CK.int IntKind.u64) (yNat (yInt (qNv E))) fun (i : Nat) => AV.y IntKind.u64 (qW E i)) = true → ((goalTkP_5 E) = true → ((goalTkP_6 E) = true → (prePl ls lt lf ll lp { h := qH E, v := qV E, n := qN E, kd := qKd E, ix := qIx E, key := qKey E, val := qVal E, at_ := qAt E, nb := qNb E, kn := qKn E, nk := qNk E, k := fun (i : Nat) => qK E i, vn := qVn E, nv := yNat (yInt (qNv E)), w := fun (i : Nat) => qW E i, lk := qLk E, wn := qWn E, nw := qNw E, wa := fun (i : Nat) => qWa E i, wb := fun (i : Nat) => qWb E i } = true → sp = sp ∧ sv = sv ∧ sn = sn ∧ si = si ∧ qH (tkE ls lt lf E got) = qH (goalTkP_3 ls lt lf E) ∧ qV (tkE ls lt lf E got) = qV (goalTkP_3 ls lt lf E) ∧ qN (tkE ls lt lf E got) = qN (goalTkP_3 ls lt lf E) ∧ inr = inr ∧ dp = dp ∧ ls = ls ∧ lt = lt ∧ lf = lf ∧ ll = ll ∧ lp = lp ∧ qKd (tkE ls lt lf E got) = qKd (goalTkP_3 ls lt lf E) ∧ qIx (tkE ls lt lf E got) = qIx (goalTkP_3 ls lt lf E) ∧ qKey (tkE ls lt lf E got) = qKey (goalTkP_3 ls lt lf E) ∧ qVal (tkE ls lt lf E got) = qVal (goalTkP_3 ls lt lf E) ∧ qAt (tkE ls lt lf E got) = qAt (goalTkP_3 ls lt lf E) ∧ outE E po got = po ∧ qNb (tkE ls lt lf E got) = qNb (goalTkP_3 ls lt lf E) ∧ (qKn (tkE ls lt lf E got) = qKn (goalTkP_3 ls lt lf E) ∧ qNk (tkE ls lt lf E got) = qNk (goalTkP_3 ls lt lf E) ∧ ∀ (i : Nat), Nat.succ i ≤ qNk (tkE ls lt lf E got) → qK (tkE ls lt lf E got) i = qK (goalTkP_3 ls lt lf E) i ∧ True) ∧ (qVn (tkE ls lt lf E got) = qVn (goalTkP_3 ls lt lf E) ∧ qNv (tkE ls lt lf E got) = qNv (goalTkP_3 ls lt lf E) ∧ ∀ (i : Nat), Nat.succ i ≤ qNv (tkE ls lt lf E got) → qW (tkE ls lt lf E got) i = qW (goalTkP_3 ls lt lf E) i ∧ True) ∧ qLk (tkE ls lt lf E got) = qLk (goalTkP_3 ls lt lf E) ∧ (qWn (tkE ls lt lf E got) = qWn (goalTkP_3 ls lt lf E) ∧ qNw (tkE ls lt lf E got) = qNw (goalTkP_3 ls lt lf E) ∧ ∀ (i : Nat), Nat.succ i ≤ qNw (tkE ls lt lf E got) → qWa (tkE ls lt lf E got) i = qWa (goalTkP_3 ls lt lf E) i ∧ qWb (tkE ls lt lf E got) i = qWb (goalTkP_3 ls lt lf E) i ∧ True) ∧ mkE E got = (0 : Int) ∧ maE E got = (0 : Int) ∧ (0 : Int) = (0 : Int) ∧ true = true) ∧ (prePl ls lt lf ll lp { h := qH E, v := qV E, n := qN E, kd := qKd E, ix := qIx E, key := qKey E, val := qVal E, at_ := qAt E, nb := qNb E, kn := qKn E, nk := qNk E, k := fun (i : Nat) => qK E i, vn := qVn E, nv := yNat (yInt (qNv E)), w := fun (i : Nat) => qW E i, lk := qLk E, wn := qWn E, nw := qNw E, wa := fun (i : Nat) => qWa E i, wb := fun (i : Nat) => qWb E i } = false → False)) ∧ ((goalTkP_6 E) = false → False)) ∧ ((goalTkP_5 E) = false → False)) ∧ ((yCol (CK.int IntKind.u64) (yNat (yInt (qNv E))) fun (i : Nat) => AV.y IntKind.u64 (qW E i)) = false → False)) ∧ ((goalTkP_9 E) = false → False)) ∧ (yNeq (nat_lit 1) (nat_lit 0) = false → (yGrow (yNadd (yNat (yInt (qNv E))) (nat_lit 1)) (nat_lit 8) = true → ((goalTkP_9 E) = true → (yNle (yNadd (nat_lit 0) (yNadd (yNat (yInt (qNv E))) (nat_lit 1))) (yNadd (yNat (yInt (qNv E))) (nat_lit 1)) = true → ((yCol (CK.int IntKind.u64) (yNadd (yNat (yInt (qNv E))) (nat_lit 1)) fun (i : Nat) => AV.y IntKind.u64 (ySel (yNlt i (yNat (yInt (qNv E)))) (qW E i) got)) = true → ((goalTkP_5 E) = true → ((goalTkP_6 E) = true → (prePl ls lt lf ll lp { h := qH E, v := qV E, n := qN E, kd := qKd E, ix := qIx E, key := qKey E, val := qVal E, at_ := qAt E, nb := qNb E, kn := qKn E, nk := qNk E, k := fun (i : Nat) => qK E i, vn := false, nv := yNadd (yNat (yInt (qNv E))) (nat_lit 1), w := fun (i : Nat) => ySel (yNlt i (yNat (yInt (qNv E)))) (qW E i) got, lk := qLk E, wn := qWn E, nw := qNw E, wa := fun (i : Nat) => qWa E i, wb := fun (i : Nat) => qWb E i } = true → sp = sp ∧ sv = sv ∧ sn = sn ∧ si = si ∧ qH (tkE ls lt lf E got) = qH (goalTkP_1 ls lt lf E got) ∧ qV (tkE ls lt lf E got) = qV (goalTkP_1 ls lt lf E got) ∧ qN (tkE ls lt lf E got) = qN (goalTkP_1 ls lt lf E got) ∧ inr = inr ∧ dp = dp ∧ ls = ls ∧ lt = lt ∧ lf = lf ∧ ll = ll ∧ lp = lp ∧ qKd (tkE ls lt lf E got) = qKd (goalTkP_1 ls lt lf E got) ∧ qIx (tkE ls lt lf E got) = qIx (goalTkP_1 ls lt lf E got) ∧ qKey (tkE ls lt lf E got) = qKey (goalTkP_1 ls lt lf E got) ∧ qVal (tkE ls lt lf E got) = qVal (goalTkP_1 ls lt lf E got) ∧ qAt (tkE ls lt lf E got) = qAt (goalTkP_1 ls lt lf E got) ∧ outE E po got = po ∧ qNb (tkE ls lt lf E got) = qNb (goalTkP_1 ls lt lf E got) ∧ (qKn (tkE ls lt lf E got) = qKn (goalTkP_1 ls lt lf E got) ∧ qNk (tkE ls lt lf E got) = qNk (goalTkP_1 ls lt lf E got) ∧ ∀ (i : Nat), Nat.succ i ≤ qNk (tkE ls lt lf E got) → qK (tkE ls lt lf E got) i = qK (goalTkP_1 ls lt lf E got) i ∧ True) ∧ (qVn (tkE ls lt lf E got) = qVn (goalTkP_1 ls lt lf E got) ∧ qNv (tkE ls lt lf E got) = qNv (goalTkP_1 ls lt lf E got) ∧ ∀ (i : Nat), Nat.succ i ≤ qNv (tkE ls lt lf E got) → qW (tkE ls lt lf E got) i = qW (goalTkP_1 ls lt lf E got) i ∧ True) ∧ qLk (tkE ls lt lf E got) = qLk (goalTkP_1 ls lt lf E got) ∧ (qWn (tkE ls lt lf E got) = qWn (goalTkP_1 ls lt lf E got) ∧ qNw (tkE ls lt lf E got) = qNw (goalTkP_1 ls lt lf E got) ∧ ∀ (i : Nat), Nat.succ i ≤ qNw (tkE ls lt lf E got) → qWa (tkE ls lt lf E got) i = qWa (goalTkP_1 ls lt lf E got) i ∧ qWb (tkE ls lt lf E got) i = qWb (goalTkP_1 ls lt lf E got) i ∧ True) ∧ mkE E got = (0 : Int) ∧ maE E got = (0 : Int) ∧ (0 : Int) = (0 : Int) ∧ true = true) ∧ (prePl ls lt lf ll lp { h := qH E, v := qV E, n := qN E, kd := qKd E, ix := qIx E, key := qKey E, val := qVal E, at_ := qAt E, nb := qNb E, kn := qKn E, nk := qNk E, k := fun (i : Nat) => qK E i, vn := false, nv := yNadd (yNat (yInt (qNv E))) (nat_lit 1), w := fun (i : Nat) => ySel (yNlt i (yNat (yInt (qNv E)))) (qW E i) got, lk := qLk E, wn := qWn E, nw := qNw E, wa := fun (i : Nat) => qWa E i, wb := fun (i : Nat) => qWb E i } = false → False)) ∧ ((goalTkP_6 E) = false → False)) ∧ ((goalTkP_5 E) = false → False)) ∧ ((yCol (CK.int IntKind.u64) (yNadd (yNat (yInt (qNv E))) (nat_lit 1)) fun (i : Nat) => AV.y IntKind.u64 (ySel (yNlt i (yNat (yInt (qNv E)))) (qW E i) got)) = false → False)) ∧ (yNle (yNadd (nat_lit 0) (yNadd (yNat (yInt (qNv E))) (nat_lit 1))) (yNadd (yNat (yInt (qNv E))) (nat_lit 1)) = false → False)) ∧ ((goalTkP_9 E) = false → False)) ∧ (yGrow (yNadd (yNat (yInt (qNv E))) (nat_lit 1)) (nat_lit 8) = false → False))) ∧ (yIn (yInt (qNv E)) (Nat.succ (qNv E)) = false → False)) ∧ (yNeq (yNat (yInt (qNv E))) (yNat (yInt (qNv E))) = false → False)) ∧ (yIn (yInt (qNv E)) (Nat.succ (qNv E)) = false → False)) ∧ (yEq (qAt E) (3 : Int) = false → (yEq (qAt E) (4 : Int) = true → (yIn (1 : Int) (Nat.succ (qNw E)) = true → (yEq (yInt (yNsub (qNw E) (nat_lit 1))) (0 : Int) = true → sp = sp ∧ sv = sv ∧ sn = sn ∧ si = si ∧ qH (tkE ls lt lf E got) = qH E ∧ qV (tkE ls lt lf E got) = qV E ∧ qN (tkE ls lt lf E got) = qN E ∧ inr = inr ∧ dp = dp ∧ ls = ls ∧ lt = lt ∧ lf = lf ∧ ll = ll ∧ lp = lp ∧ qKd (tkE ls lt lf E got) = qKd E ∧ qIx (tkE ls lt lf E got) = qIx E ∧ qKey (tkE ls lt lf E got) = qKey E ∧ qVal (tkE ls lt lf E got) = qVal E ∧ qAt (tkE ls lt lf E got) = (0 : Int) ∧ outE E po got = (1 : Int) ∧ qNb (tkE ls lt lf E got) = qNb E ∧ (goalTkP_7 ls lt lf E got) ∧ (goalTkP_8 ls lt lf E got) ∧ qLk (tkE ls lt lf E got) = qLk E ∧ (qWn (tkE ls lt lf E got) = qWn E ∧ qNw (tkE ls lt lf E got) = yNsub (qNw E) (nat_lit 1) ∧ ∀ (i : Nat), Nat.succ i ≤ qNw (tkE ls lt lf E got) → qWa (tkE ls lt lf E got) i = qWa E (yNadd (nat_lit 1) i) ∧ qWb (tkE ls lt lf E got) i = qWb E (yNadd (nat_lit 1) i) ∧ True) ∧ mkE E got = (12 : Int) ∧ maE E got = (0 : Int) ∧ (0 : Int) = (0 : Int) ∧ true = true) ∧ (yEq (yInt (yNsub (qNw E) (nat_lit 1))) (0 : Int) = false → sp = sp ∧ sv = sv ∧ sn = sn ∧ si = si ∧ qH (tkE ls lt lf E got) = qH E ∧ qV (tkE ls lt lf E got) = qV E ∧ qN (tkE ls lt lf E got) = qN E ∧ inr = inr ∧ dp = dp ∧ ls = ls ∧ lt = lt ∧ lf = lf ∧ ll = ll ∧ lp = lp ∧ qKd (tkE ls lt lf E got) = qKd E ∧ qIx (tkE ls lt lf E got) = qIx E ∧ qKey (tkE ls lt lf E got) = qKey E ∧ qVal (tkE ls lt lf E got) = qVal E ∧ qAt (tkE ls lt lf E got) = qAt E ∧ outE E po got = po ∧ qNb (tkE ls lt lf E got) = qNb E ∧ (goalTkP_7 ls lt lf E got) ∧ (goalTkP_8 ls lt lf E got) ∧ qLk (tkE ls lt lf E got) = qLk E ∧ (qWn (tkE ls lt lf E got) = qWn E ∧ qNw (tkE ls lt lf E got) = yNsub (qNw E) (nat_lit 1) ∧ ∀ (i : Nat), Nat.succ i ≤ qNw (tkE ls lt lf E got) → qWa (tkE ls lt lf E got) i = qWa E (yNadd (nat_lit 1) i) ∧ qWb (tkE ls lt lf E got) i = qWb E (yNadd (nat_lit 1) i) ∧ True) ∧ mkE E got = (0 : Int) ∧ maE E got = (0 : Int) ∧ (0 : Int) = (0 : Int) ∧ true = true)) ∧ (yIn (1 : Int) (Nat.succ (qNw E)) = false → False)) ∧ (yEq (qAt E) (4 : Int) = false → (yEq (qAt E) (5 : Int) = true → sp = sp ∧ sv = sv ∧ sn = sn ∧ si = si ∧ qH (tkE ls lt lf E got) = qH E ∧ qV (tkE ls lt lf E got) = qV E ∧ qN (tkE ls lt lf E got) = qN E ∧ inr = inr ∧ dp = dp ∧ ls = ls ∧ lt = lt ∧ lf = lf ∧ ll = ll ∧ lp = lp ∧ qKd (tkE ls lt lf E got) = qKd E ∧ qIx (tkE ls lt lf E got) = qIx E ∧ qKey (tkE ls lt lf E got) = qKey E ∧ qVal (tkE ls lt lf E got) = qVal E ∧ qAt (tkE ls lt lf E got) = (0 : Int) ∧ outE E po got = (3 : Int) ∧ qNb (tkE ls lt lf E got) = qNb E ∧ (goalTkP_7 ls lt lf E got) ∧ (goalTkP_8 ls lt lf E got) ∧ qLk (tkE ls lt lf E got) = qLk E ∧ (goalTkP_11 ls lt lf E got) ∧ mkE E got = (0 : Int) ∧ maE E got = (0 : Int) ∧ (0 : Int) = (0 : Int) ∧ true = true) ∧ (yEq (qAt E) (5 : Int) = false → sp = sp ∧ sv = sv ∧ sn = sn ∧ si = si ∧ qH (tkE ls lt lf E got) = qH E ∧ qV (tkE ls lt lf E got) = qV E ∧ qN (tkE ls lt lf E got) = qN E ∧ inr = inr ∧ dp = dp ∧ ls = ls ∧ lt = lt ∧ lf = lf ∧ ll = ll ∧ lp = lp ∧ qKd (tkE ls lt lf E got) = qKd E ∧ qIx (tkE ls lt lf E got) = qIx E ∧ qKey (tkE ls lt lf E got) = qKey E ∧ qVal (tkE ls lt lf E got) = qVal E ∧ qAt (tkE ls lt lf E got) = qAt E ∧ outE E po got = po ∧ qNb (tkE ls lt lf E got) = qNb E ∧ (goalTkP_7 ls lt lf E got) ∧ (goalTkP_8 ls lt lf E got) ∧ qLk (tkE ls lt lf E got) = qLk E ∧ (goalTkP_11 ls lt lf E got) ∧ mkE E got = (0 : Int) ∧ maE E got = (0 : Int) ∧ (0 : Int) = (0 : Int) ∧ true = true))))))
set_option maxRecDepth 100000 in
theorem goalTkP_eq : goalTkP = goalTkPV := by kernel_rfl
set_option maxRecDepth 100000 in
set_option maxHeartbeats 8000000 in
theorem goalTkP_vc : goalTkPV := by
  unfold goalTkPV goalTkP_11 goalTkP_10 goalTkP_9 goalTkP_8 goalTkP_7 goalTkP_6 goalTkP_5 goalTkP_4 goalTkP_3 goalTkP_2 goalTkP_1 goalTkP_0
  intro sp sv sn si inr dp ls lt lf ll lp E po mk ma mb got hE
  have hH : E.at_ ≠ 0 → E.at_ ≠ 4 → E.at_ ≠ 5 → ∀ X : EdS, X.h = E.h → X.v = E.v → (X.nk : Int) ≤ E.nk + 1 → (X.nv : Int) ≤ E.nv + 1 → prePl ls lt lf ll lp X = true := invE_pre hE
  have hq : E.at_ = qAt E := rfl
  by_cases a1 : E.at_ = 1
  · have hH := hH (by omega) (by omega) (by omega)
    have hB := invE_len hE (by omega) (by omega) (by omega)
    have e1 : qAt E = 1 := by omega
    by_cases g : got = 1
    · obtain ⟨o1, o2, o3⟩ := ou1 (po := po) a1 g
      simp only [yNot_t, yNot_f, yEq_t, yEq_f, yIn_t, yIn_f, yNle_t, yNle_f, yNeq_t, yNeq_f, yGrow_t, yGrow_f, yInt_e, yNat_e, yNadd_e, yNsub_e, yCol_int, true_and, and_true, Nat.zero_add, Nat.le_refl, forall_const, Bool.true_eq_false, false_implies, tk1 a1 g, o1, o2, o3, eq_true e1, eq_true g]
      repeat' (first | apply And.intro | intro _)
      all_goals first
        | rfl
        | trivial
        | omega
        | exact hH _ rfl rfl (by simp only [qNk, yNat_e, yInt_e]; omega) (by simp only [qNv, yNat_e, yInt_e]; omega)
        | (rename_i h; refine absurd (h.symm.trans (hH _ rfl rfl ?_ ?_)) Bool.false_ne_true <;> first | omega | (simp only [qNk, qNv]; omega))
        | (trace_state; fail)
    · obtain ⟨o1, o2, o3⟩ := ou1n (po := po) a1 g
      simp only [yNot_t, yNot_f, yEq_t, yEq_f, yIn_t, yIn_f, yNle_t, yNle_f, yNeq_t, yNeq_f, yGrow_t, yGrow_f, yInt_e, yNat_e, yNadd_e, yNsub_e, yCol_int, true_and, and_true, Nat.zero_add, Nat.le_refl, forall_const, Bool.true_eq_false, false_implies, tk1n a1 g, o1, o2, o3, eq_true e1, eq_false g]
      repeat' (first | apply And.intro | intro _)
      all_goals first
        | rfl
        | trivial
        | omega
        | exact hH _ rfl rfl (by simp only [qNk, yNat_e, yInt_e]; omega) (by simp only [qNv, yNat_e, yInt_e]; omega)
        | (rename_i h; refine absurd (h.symm.trans (hH _ rfl rfl ?_ ?_)) Bool.false_ne_true <;> first | omega | (simp only [qNk, qNv]; omega))
        | (trace_state; fail)
  by_cases a2 : E.at_ = 2
  · have hH := hH (by omega) (by omega) (by omega)
    have hB := invE_len hE (by omega) (by omega) (by omega)
    have e1 : ¬ qAt E = 1 := by omega
    have e2 : qAt E = 2 := by omega
    obtain ⟨o1, o2, o3⟩ := ou0 (po := po) (got := got) a1 (by omega) (by omega)
    have hT : tkE ls lt lf E got = rdE ls lt lf (nmE { E with kn := false, nk := E.nk + 1, k := fun i : Nat => ySel (yNlt i E.nk) (E.k i) got }) := by rw [tk2 a2, nm_k sn_P]
    simp only [yNot_t, yNot_f, yEq_t, yEq_f, yIn_t, yIn_f, yNle_t, yNle_f, yNeq_t, yNeq_f, yGrow_t, yGrow_f, yInt_e, yNat_e, yNadd_e, yNsub_e, yCol_int, true_and, and_true, Nat.zero_add, Nat.le_refl, forall_const, Bool.true_eq_false, false_implies, hT, o1, o2, o3, eq_false e1, eq_true e2]
    repeat' (first | apply And.intro | intro _)
    all_goals first
      | rfl
      | trivial
      | omega
      | exact hH _ rfl rfl (by simp only [qNk, yNat_e, yInt_e]; omega) (by simp only [qNv, yNat_e, yInt_e]; omega)
      | (rename_i h; refine absurd (h.symm.trans (hH _ rfl rfl ?_ ?_)) Bool.false_ne_true <;> first | omega | (simp only [qNk, qNv]; omega))
      | (trace_state; fail)
  by_cases a3 : E.at_ = 3
  · have hH := hH (by omega) (by omega) (by omega)
    have hB := invE_len hE (by omega) (by omega) (by omega)
    have e1 : ¬ qAt E = 1 := by omega
    have e2 : ¬ qAt E = 2 := by omega
    have e3 : qAt E = 3 := by omega
    obtain ⟨o1, o2, o3⟩ := ou0 (po := po) (got := got) a1 (by omega) (by omega)
    have hT : tkE ls lt lf E got = rdE ls lt lf (nmE { E with vn := false, nv := E.nv + 1, w := fun i : Nat => ySel (yNlt i E.nv) (E.w i) got }) := by rw [tk3 a3, nm_w sn_P]
    simp only [yNot_t, yNot_f, yEq_t, yEq_f, yIn_t, yIn_f, yNle_t, yNle_f, yNeq_t, yNeq_f, yGrow_t, yGrow_f, yInt_e, yNat_e, yNadd_e, yNsub_e, yCol_int, true_and, and_true, Nat.zero_add, Nat.le_refl, forall_const, Bool.true_eq_false, false_implies, hT, o1, o2, o3, eq_false e1, eq_false e2, eq_true e3]
    repeat' (first | apply And.intro | intro _)
    all_goals first
      | rfl
      | trivial
      | omega
      | exact hH _ rfl rfl (by simp only [qNk, yNat_e, yInt_e]; omega) (by simp only [qNv, yNat_e, yInt_e]; omega)
      | (rename_i h; refine absurd (h.symm.trans (hH _ rfl rfl ?_ ?_)) Bool.false_ne_true <;> first | omega | (simp only [qNk, qNv]; omega))
      | (trace_state; fail)
  clear hH
  have hw : E.at_ = 4 → 0 < E.nw ∧ E.nw ≤ 1000000 := fun a => by
    unfold invE at hE
    rw [decide_eq_true_iff] at hE
    rcases hE.2 with h | ⟨_, _, _, _, _, _, hst⟩
    · omega
    · omega
  by_cases a4 : E.at_ = 4
  · have hw := hw a4
    have e1 : ¬ qAt E = 1 := by omega
    have e2 : ¬ qAt E = 2 := by omega
    have e3 : ¬ qAt E = 3 := by omega
    have e4 : qAt E = 4 := by omega
    obtain ⟨o1, o2, o3⟩ := ou4 (po := po) (got := got) a4
    simp only [yNot_t, yNot_f, yEq_t, yEq_f, yIn_t, yIn_f, yNle_t, yNle_f, yNeq_t, yNeq_f, yGrow_t, yGrow_f, yInt_e, yNat_e, yNadd_e, yNsub_e, yCol_int, true_and, and_true, Nat.zero_add, Nat.le_refl, forall_const, Bool.true_eq_false, false_implies, tk4 a4, o1, o2, o3, eq_false e1, eq_false e2, eq_false e3, eq_true e4]
    repeat' (first | apply And.intro | intro _)
    all_goals first
      | rfl
      | trivial
      | omega
      | (simp only [qNw] at *; omega)
      | exact if_pos (by simp only [qNw] at *; omega)
      | exact if_neg (by simp only [qNw] at *; omega)
      | exact (if_neg (by simp only [qNw] at *; omega)).trans (Eq.symm ‹qAt E = 4›)
      | (trace_state; fail)
  clear hw
  by_cases a5 : E.at_ = 5
  · have e1 : ¬ qAt E = 1 := by omega
    have e2 : ¬ qAt E = 2 := by omega
    have e3 : ¬ qAt E = 3 := by omega
    have e4 : ¬ qAt E = 4 := by omega
    have e5 : qAt E = 5 := by omega
    obtain ⟨o1, o2, o3⟩ := ou5 (po := po) (got := got) a5
    simp only [yNot_t, yNot_f, yEq_t, yEq_f, yIn_t, yIn_f, yNle_t, yNle_f, yNeq_t, yNeq_f, yGrow_t, yGrow_f, yInt_e, yNat_e, yNadd_e, yNsub_e, yCol_int, true_and, and_true, Nat.zero_add, Nat.le_refl, forall_const, Bool.true_eq_false, false_implies, tk5 a5, o1, o2, o3, eq_false e1, eq_false e2, eq_false e3, eq_false e4, eq_true e5]
    repeat' (first | apply And.intro | intro _)
    all_goals first
      | rfl
      | trivial
      | omega
      | (simp only [qNw] at *; omega)
      | exact if_pos (by simp only [qNw] at *; omega)
      | exact if_neg (by simp only [qNw] at *; omega)
      | exact (if_neg (by simp only [qNw] at *; omega)).trans (Eq.symm ‹qAt E = 4›)
      | (trace_state; fail)
  · have e1 : ¬ qAt E = 1 := by omega
    have e2 : ¬ qAt E = 2 := by omega
    have e3 : ¬ qAt E = 3 := by omega
    have e4 : ¬ qAt E = 4 := by omega
    have e5 : ¬ qAt E = 5 := by omega
    obtain ⟨o1, o2, o3⟩ := ou0 (po := po) (got := got) a1 a4 a5
    simp only [yNot_t, yNot_f, yEq_t, yEq_f, yIn_t, yIn_f, yNle_t, yNle_f, yNeq_t, yNeq_f, yGrow_t, yGrow_f, yInt_e, yNat_e, yNadd_e, yNsub_e, yCol_int, true_and, and_true, Nat.zero_add, Nat.le_refl, forall_const, Bool.true_eq_false, false_implies, tk0 ⟨a1, a2, a3, a4, a5⟩, o1, o2, o3, eq_false e1, eq_false e2, eq_false e3, eq_false e4, eq_false e5]
    repeat' (first | apply And.intro | intro _)
    all_goals first
      | rfl
      | trivial
      | omega
      | (simp only [qNw] at *; omega)
      | exact if_pos (by simp only [qNw] at *; omega)
      | exact if_neg (by simp only [qNw] at *; omega)
      | exact (if_neg (by simp only [qNw] at *; omega)).trans (Eq.symm ‹qAt E = 4›)
      | (trace_state; fail)
set_option maxRecDepth 100000 in
theorem goalTkP_tt : (goalTkP) = True := goalTkP_eq.trans (eq_true goalTkP_vc)
theorem goalTkP_ok : goalTkP := @ft' goalTkP goalTkP_tt
def goalTkR_0 (cs : Int) (ct : Int) (cf : Int) (E : EdS) (got : Int) := rdE cs ct cf (nmE { h := qH E, v := qV E, n := qN E, kd := qKd E, ix := qIx E, key := qKey E, val := qVal E, at_ := qAt E, nb := qNb E, kn := yAnd false (yNeq (nat_lit 1) (nat_lit 0)), nk := yNadd (yNadd (nat_lit 0) (qNk E)) (nat_lit 1), k := fun (i : Nat) => ySel (yNlt i (yNadd (nat_lit 0) (qNk E))) (qK E (yNadd (nat_lit 0) i)) got, vn := qVn E, nv := qNv E, w := fun (i : Nat) => qW E i, lk := qLk E, wn := qWn E, nw := qNw E, wa := fun (i : Nat) => qWa E i, wb := fun (i : Nat) => qWb E i })
def goalTkR_1 (cs : Int) (ct : Int) (cf : Int) (E : EdS) (got : Int) := rdE cs ct cf (nmE { h := qH E, v := qV E, n := qN E, kd := qKd E, ix := qIx E, key := qKey E, val := qVal E, at_ := qAt E, nb := qNb E, kn := qKn E, nk := qNk E, k := fun (i : Nat) => qK E i, vn := yAnd false (yNeq (nat_lit 1) (nat_lit 0)), nv := yNadd (yNadd (nat_lit 0) (qNv E)) (nat_lit 1), w := fun (i : Nat) => ySel (yNlt i (yNadd (nat_lit 0) (qNv E))) (qW E (yNadd (nat_lit 0) i)) got, lk := qLk E, wn := qWn E, nw := qNw E, wa := fun (i : Nat) => qWa E i, wb := fun (i : Nat) => qWb E i })
def goalTkR_2 (cs : Int) (ct : Int) (cf : Int) (E : EdS) (got : Int) := rdE cs ct cf (nmE { h := qH E, v := qV E, n := qN E, kd := qKd E, ix := qIx E, key := qKey E, val := qVal E, at_ := qAt E, nb := qNb E, kn := false, nk := nat_lit 1, k := litI (nat_lit 1) [AV.y IntKind.u64 got] (nat_lit 0), vn := qVn E, nv := qNv E, w := fun (i : Nat) => qW E i, lk := qLk E, wn := qWn E, nw := qNw E, wa := fun (i : Nat) => qWa E i, wb := fun (i : Nat) => qWb E i })
def goalTkR_3 (cs : Int) (ct : Int) (cf : Int) (E : EdS) (got : Int) := rdE cs ct cf (nmE { h := qH E, v := qV E, n := qN E, kd := qKd E, ix := qIx E, key := qKey E, val := qVal E, at_ := qAt E, nb := qNb E, kn := qKn E, nk := qNk E, k := fun (i : Nat) => qK E i, vn := false, nv := nat_lit 1, w := litI (nat_lit 1) [AV.y IntKind.u64 got] (nat_lit 0), lk := qLk E, wn := qWn E, nw := qNw E, wa := fun (i : Nat) => qWa E i, wb := fun (i : Nat) => qWb E i })
def goalTkR_4 (cs : Int) (ct : Int) (cf : Int) (E : EdS) := rdE cs ct cf (nmE { h := qH E, v := qV E, n := qN E, kd := qKd E, ix := qIx E, key := qKey E, val := qVal E, at_ := qAt E, nb := qNb E, kn := qKn E, nk := qNk E, k := fun (i : Nat) => qK E i, vn := qVn E, nv := qNv E, w := fun (i : Nat) => qW E i, lk := qLk E, wn := qWn E, nw := qNw E, wa := fun (i : Nat) => qWa E i, wb := fun (i : Nat) => qWb E i })
def goalTkR_5  := yCol (CK.int IntKind.u64) (nat_lit 0) fun (i : Nat) => AV.np
def goalTkR_6 (E : EdS) (got : Int) := mkNil (mkE E got) = true ∧ mkN (mkE E got) = nat_lit 0 ∧ ∀ (i : Nat), Nat.succ i ≤ mkN (mkE E got) → mkE E got = (0 : Int) ∧ maE E got = (0 : Int) ∧ (0 : Int) = (0 : Int) ∧ True
def goalTkR_7 (E : EdS) := yCol (CK.int IntKind.i64) (qNw E) fun (i : Nat) => AV.y IntKind.i64 (qWa E i)
def goalTkR_8 (E : EdS) := yCol (CK.int IntKind.u64) (qNw E) fun (i : Nat) => AV.y IntKind.u64 (qWb E i)
def goalTkR_9 (cs : Int) (ct : Int) (cf : Int) (E : EdS) (got : Int) := qKn (tkE cs ct cf E got) = qKn E ∧ qNk (tkE cs ct cf E got) = qNk E ∧ ∀ (i : Nat), Nat.succ i ≤ qNk (tkE cs ct cf E got) → qK (tkE cs ct cf E got) i = qK E i ∧ True
def goalTkR_10 (cs : Int) (ct : Int) (cf : Int) (E : EdS) (got : Int) := qVn (tkE cs ct cf E got) = qVn E ∧ qNv (tkE cs ct cf E got) = qNv E ∧ ∀ (i : Nat), Nat.succ i ≤ qNv (tkE cs ct cf E got) → qW (tkE cs ct cf E got) i = qW E i ∧ True
def goalTkR_11  := yCol (CK.int IntKind.i64) (nat_lit 0) fun (i : Nat) => AV.np
def goalTkR_12 (E : EdS) := yCol (CK.int IntKind.u64) (qNk E) fun (i : Nat) => AV.y IntKind.u64 (qK E i)
def goalTkR_13 (E : EdS) := yCol (CK.int IntKind.u64) (qNv E) fun (i : Nat) => AV.y IntKind.u64 (qW E i)
def goalTkR_14 (cs : Int) (ct : Int) (cf : Int) (E : EdS) (got : Int) := qWn (tkE cs ct cf E got) = qWn E ∧ qNw (tkE cs ct cf E got) = qNw E ∧ ∀ (i : Nat), Nat.succ i ≤ qNw (tkE cs ct cf E got) → qWa (tkE cs ct cf E got) i = qWa E i ∧ qWb (tkE cs ct cf E got) i = qWb E i ∧ True
def goalTkRV : Prop := (∀ (cs ct cf cl cp : Int) (E : EdS) (po : Int) (_mn : Bool) (_ml : Nat) (_m1 _m2 _m3 : Nat → Int) (got : Int), invE cs ct cf cl cp E = true → (yEq (qAt E) (1 : Int) = true → (yEq got (1 : Int) = true → ((goalTkR_12 E) = true → ((goalTkR_13 E) = true → ((goalTkR_7 E) = true → ((goalTkR_8 E) = true → ((goalTkR_11) = true → ((goalTkR_5) = true → ((goalTkR_5) = true → (prePl cs ct cf cl cp { h := qH E, v := qV E, n := qN E, kd := qKd E, ix := qIx E, key := qKey E, val := qVal E, at_ := qAt E, nb := qNb E, kn := qKn E, nk := qNk E, k := fun (i : Nat) => qK E i, vn := qVn E, nv := qNv E, w := fun (i : Nat) => qW E i, lk := qLk E, wn := qWn E, nw := qNw E, wa := fun (i : Nat) => qWa E i, wb := fun (i : Nat) => qWb E i } = true → qH (tkE cs ct cf E got) = qH (goalTkR_4 cs ct cf E) ∧ qV (tkE cs ct cf E got) = qV (goalTkR_4 cs ct cf E) ∧ qN (tkE cs ct cf E got) = qN (goalTkR_4 cs ct cf E) ∧ qKd (tkE cs ct cf E got) = qKd (goalTkR_4 cs ct cf E) ∧ qIx (tkE cs ct cf E got) = qIx (goalTkR_4 cs ct cf E) ∧ qKey (tkE cs ct cf E got) = qKey (goalTkR_4 cs ct cf E) ∧ qVal (tkE cs ct cf E got) = qVal (goalTkR_4 cs ct cf E) ∧ qAt (tkE cs ct cf E got) = qAt (goalTkR_4 cs ct cf E) ∧ outE E po got = po ∧ qNb (tkE cs ct cf E got) = qNb (goalTkR_4 cs ct cf E) ∧ (qKn (tkE cs ct cf E got) = qKn (goalTkR_4 cs ct cf E) ∧ qNk (tkE cs ct cf E got) = qNk (goalTkR_4 cs ct cf E) ∧ ∀ (i : Nat), Nat.succ i ≤ qNk (tkE cs ct cf E got) → qK (tkE cs ct cf E got) i = qK (goalTkR_4 cs ct cf E) i ∧ True) ∧ (qVn (tkE cs ct cf E got) = qVn (goalTkR_4 cs ct cf E) ∧ qNv (tkE cs ct cf E got) = qNv (goalTkR_4 cs ct cf E) ∧ ∀ (i : Nat), Nat.succ i ≤ qNv (tkE cs ct cf E got) → qW (tkE cs ct cf E got) i = qW (goalTkR_4 cs ct cf E) i ∧ True) ∧ qLk (tkE cs ct cf E got) = qLk (goalTkR_4 cs ct cf E) ∧ (qWn (tkE cs ct cf E got) = qWn (goalTkR_4 cs ct cf E) ∧ qNw (tkE cs ct cf E got) = qNw (goalTkR_4 cs ct cf E) ∧ ∀ (i : Nat), Nat.succ i ≤ qNw (tkE cs ct cf E got) → qWa (tkE cs ct cf E got) i = qWa (goalTkR_4 cs ct cf E) i ∧ qWb (tkE cs ct cf E got) i = qWb (goalTkR_4 cs ct cf E) i ∧ True) ∧ (goalTkR_6 E got) ∧ true = true) ∧ (prePl cs ct cf cl cp { h := qH E, v := qV E, n := qN E, kd := qKd E, ix := qIx E, key := qKey E, val := qVal E, at_ := qAt E, nb := qNb E, kn := qKn E, nk := qNk E, k := fun (i : Nat) => qK E i, vn := qVn E, nv := qNv E, w := fun (i : Nat) => qW E i, lk := qLk E, wn := qWn E, nw := qNw E, wa := fun (i : Nat) => qWa E i, wb := fun (i : Nat) => qWb E i } = false → False)) ∧ ((goalTkR_5) = false → False)) ∧ ((goalTkR_5) = false → False)) ∧ ((goalTkR_11) = false → False)) ∧ ((goalTkR_8 E) = false → False)) ∧ ((goalTkR_7 E) = false → False)) ∧ ((goalTkR_13 E) = false → False)) ∧ ((goalTkR_12 E) = false → False)) ∧ (yEq got (1 : Int) = false → qH (tkE cs ct cf E got) = qH E ∧ qV (tkE cs ct cf E got) = qV E ∧ qN (tkE cs ct cf E got) = qN E ∧ qKd (tkE cs ct cf E got) = qKd E ∧ qIx (tkE cs ct cf E got) = qIx E ∧ qKey (tkE cs ct cf E got) = qKey E ∧ qVal (tkE cs ct cf E got) = qVal E ∧ qAt (tkE cs ct cf E got) = (0 : Int) ∧ outE E po got = (3 : Int) ∧ qNb (tkE cs ct cf E got) = qNb E ∧ (goalTkR_9 cs ct cf E got) ∧ (goalTkR_10 cs ct cf E got) ∧ qLk (tkE cs ct cf E got) = qLk E ∧ (goalTkR_14 cs ct cf E got) ∧ mkNil (mkE E got) = false ∧ mkN (mkE E got) = nat_lit 1 ∧ ((mkE E got = (3 : Int) ∧ maE E got = qH E ∧ (0 : Int) = (0 : Int) ∧ True) ∧ True) ∧ true = true)) ∧ (yEq (qAt E) (1 : Int) = false → (yEq (qAt E) (2 : Int) = true → (yNeq (qNk E) (nat_lit 0) = true → ((goalTkR_13 E) = true → ((goalTkR_7 E) = true → ((goalTkR_8 E) = true → ((goalTkR_11) = true → ((goalTkR_5) = true → ((goalTkR_5) = true → (prePl cs ct cf cl cp { h := qH E, v := qV E, n := qN E, kd := qKd E, ix := qIx E, key := qKey E, val := qVal E, at_ := qAt E, nb := qNb E, kn := false, nk := nat_lit 1, k := litI (nat_lit 1) [AV.y IntKind.u64 got] (nat_lit 0), vn := qVn E, nv := qNv E, w := fun (i : Nat) => qW E i, lk := qLk E, wn := qWn E, nw := qNw E, wa := fun (i : Nat) => qWa E i, wb := fun (i : Nat) => qWb E i } = true → qH (tkE cs ct cf E got) = qH (goalTkR_2 cs ct cf E got) ∧ qV (tkE cs ct cf E got) = qV (goalTkR_2 cs ct cf E got) ∧ qN (tkE cs ct cf E got) = qN (goalTkR_2 cs ct cf E got) ∧ qKd (tkE cs ct cf E got) = qKd (goalTkR_2 cs ct cf E got) ∧ qIx (tkE cs ct cf E got) = qIx (goalTkR_2 cs ct cf E got) ∧ qKey (tkE cs ct cf E got) = qKey (goalTkR_2 cs ct cf E got) ∧ qVal (tkE cs ct cf E got) = qVal (goalTkR_2 cs ct cf E got) ∧ qAt (tkE cs ct cf E got) = qAt (goalTkR_2 cs ct cf E got) ∧ outE E po got = po ∧ qNb (tkE cs ct cf E got) = qNb (goalTkR_2 cs ct cf E got) ∧ (qKn (tkE cs ct cf E got) = qKn (goalTkR_2 cs ct cf E got) ∧ qNk (tkE cs ct cf E got) = qNk (goalTkR_2 cs ct cf E got) ∧ ∀ (i : Nat), Nat.succ i ≤ qNk (tkE cs ct cf E got) → qK (tkE cs ct cf E got) i = qK (goalTkR_2 cs ct cf E got) i ∧ True) ∧ (qVn (tkE cs ct cf E got) = qVn (goalTkR_2 cs ct cf E got) ∧ qNv (tkE cs ct cf E got) = qNv (goalTkR_2 cs ct cf E got) ∧ ∀ (i : Nat), Nat.succ i ≤ qNv (tkE cs ct cf E got) → qW (tkE cs ct cf E got) i = qW (goalTkR_2 cs ct cf E got) i ∧ True) ∧ qLk (tkE cs ct cf E got) = qLk (goalTkR_2 cs ct cf E got) ∧ (qWn (tkE cs ct cf E got) = qWn (goalTkR_2 cs ct cf E got) ∧ qNw (tkE cs ct cf E got) = qNw (goalTkR_2 cs ct cf E got) ∧ ∀ (i : Nat), Nat.succ i ≤ qNw (tkE cs ct cf E got) → qWa (tkE cs ct cf E got) i = qWa (goalTkR_2 cs ct cf E got) i ∧ qWb (tkE cs ct cf E got) i = qWb (goalTkR_2 cs ct cf E got) i ∧ True) ∧ (goalTkR_6 E got) ∧ true = true) ∧ (prePl cs ct cf cl cp { h := qH E, v := qV E, n := qN E, kd := qKd E, ix := qIx E, key := qKey E, val := qVal E, at_ := qAt E, nb := qNb E, kn := false, nk := nat_lit 1, k := litI (nat_lit 1) [AV.y IntKind.u64 got] (nat_lit 0), vn := qVn E, nv := qNv E, w := fun (i : Nat) => qW E i, lk := qLk E, wn := qWn E, nw := qNw E, wa := fun (i : Nat) => qWa E i, wb := fun (i : Nat) => qWb E i } = false → False)) ∧ ((goalTkR_5) = false → False)) ∧ ((goalTkR_5) = false → False)) ∧ ((goalTkR_11) = false → False)) ∧ ((goalTkR_8 E) = false → False)) ∧ ((goalTkR_7 E) = false → False)) ∧ ((goalTkR_13 E) = false → False)) ∧ (yNeq (qNk E) (nat_lit 0) = false → (yGrow (yNadd (nat_lit 0) (qNk E)) (nat_lit 8) = true → (yNeq (yNadd (nat_lit 0) (qNk E)) (yNadd (nat_lit 0) (qNk E)) = true → (yGrow (yNadd (yNadd (nat_lit 0) (qNk E)) (nat_lit 1)) (nat_lit 8) = true → (yNle (yNadd (nat_lit 0) (yNadd (yNadd (nat_lit 0) (qNk E)) (nat_lit 1))) (yNadd (yNadd (nat_lit 0) (qNk E)) (nat_lit 1)) = true → ((yCol (CK.int IntKind.u64) (yNadd (yNadd (nat_lit 0) (qNk E)) (nat_lit 1)) fun (i : Nat) => AV.y IntKind.u64 (ySel (yNlt i (yNadd (nat_lit 0) (qNk E))) (qK E (yNadd (nat_lit 0) i)) got)) = true → ((goalTkR_13 E) = true → ((goalTkR_7 E) = true → ((goalTkR_8 E) = true → ((goalTkR_11) = true → ((goalTkR_5) = true → ((goalTkR_5) = true → (prePl cs ct cf cl cp { h := qH E, v := qV E, n := qN E, kd := qKd E, ix := qIx E, key := qKey E, val := qVal E, at_ := qAt E, nb := qNb E, kn := yAnd false (yNeq (nat_lit 1) (nat_lit 0)), nk := yNadd (yNadd (nat_lit 0) (qNk E)) (nat_lit 1), k := fun (i : Nat) => ySel (yNlt i (yNadd (nat_lit 0) (qNk E))) (qK E (yNadd (nat_lit 0) i)) got, vn := qVn E, nv := qNv E, w := fun (i : Nat) => qW E i, lk := qLk E, wn := qWn E, nw := qNw E, wa := fun (i : Nat) => qWa E i, wb := fun (i : Nat) => qWb E i } = true → qH (tkE cs ct cf E got) = qH (goalTkR_0 cs ct cf E got) ∧ qV (tkE cs ct cf E got) = qV (goalTkR_0 cs ct cf E got) ∧ qN (tkE cs ct cf E got) = qN (goalTkR_0 cs ct cf E got) ∧ qKd (tkE cs ct cf E got) = qKd (goalTkR_0 cs ct cf E got) ∧ qIx (tkE cs ct cf E got) = qIx (goalTkR_0 cs ct cf E got) ∧ qKey (tkE cs ct cf E got) = qKey (goalTkR_0 cs ct cf E got) ∧ qVal (tkE cs ct cf E got) = qVal (goalTkR_0 cs ct cf E got) ∧ qAt (tkE cs ct cf E got) = qAt (goalTkR_0 cs ct cf E got) ∧ outE E po got = po ∧ qNb (tkE cs ct cf E got) = qNb (goalTkR_0 cs ct cf E got) ∧ (qKn (tkE cs ct cf E got) = qKn (goalTkR_0 cs ct cf E got) ∧ qNk (tkE cs ct cf E got) = qNk (goalTkR_0 cs ct cf E got) ∧ ∀ (i : Nat), Nat.succ i ≤ qNk (tkE cs ct cf E got) → qK (tkE cs ct cf E got) i = qK (goalTkR_0 cs ct cf E got) i ∧ True) ∧ (qVn (tkE cs ct cf E got) = qVn (goalTkR_0 cs ct cf E got) ∧ qNv (tkE cs ct cf E got) = qNv (goalTkR_0 cs ct cf E got) ∧ ∀ (i : Nat), Nat.succ i ≤ qNv (tkE cs ct cf E got) → qW (tkE cs ct cf E got) i = qW (goalTkR_0 cs ct cf E got) i ∧ True) ∧ qLk (tkE cs ct cf E got) = qLk (goalTkR_0 cs ct cf E got) ∧ (qWn (tkE cs ct cf E got) = qWn (goalTkR_0 cs ct cf E got) ∧ qNw (tkE cs ct cf E got) = qNw (goalTkR_0 cs ct cf E got) ∧ ∀ (i : Nat), Nat.succ i ≤ qNw (tkE cs ct cf E got) → qWa (tkE cs ct cf E got) i = qWa (goalTkR_0 cs ct cf E got) i ∧ qWb (tkE cs ct cf E got) i = qWb (goalTkR_0 cs ct cf E got) i ∧ True) ∧ (goalTkR_6 E got) ∧ true = true) ∧ (prePl cs ct cf cl cp { h := qH E, v := qV E, n := qN E, kd := qKd E, ix := qIx E, key := qKey E, val := qVal E, at_ := qAt E, nb := qNb E, kn := yAnd false (yNeq (nat_lit 1) (nat_lit 0)), nk := yNadd (yNadd (nat_lit 0) (qNk E)) (nat_lit 1), k := fun (i : Nat) => ySel (yNlt i (yNadd (nat_lit 0) (qNk E))) (qK E (yNadd (nat_lit 0) i)) got, vn := qVn E, nv := qNv E, w := fun (i : Nat) => qW E i, lk := qLk E, wn := qWn E, nw := qNw E, wa := fun (i : Nat) => qWa E i, wb := fun (i : Nat) => qWb E i } = false → False)) ∧ ((goalTkR_5) = false → False)) ∧ ((goalTkR_5) = false → False)) ∧ ((goalTkR_11) = false → False)) ∧ ((goalTkR_8 E) = false → False)) ∧ ((goalTkR_7 E) = false → False)) ∧ ((goalTkR_13 E) = false → False)) ∧ ((yCol (CK.int IntKind.u64) (yNadd (yNadd (nat_lit 0) (qNk E)) (nat_lit 1)) fun (i : Nat) => AV.y IntKind.u64 (ySel (yNlt i (yNadd (nat_lit 0) (qNk E))) (qK E (yNadd (nat_lit 0) i)) got)) = false → False)) ∧ (yNle (yNadd (nat_lit 0) (yNadd (yNadd (nat_lit 0) (qNk E)) (nat_lit 1))) (yNadd (yNadd (nat_lit 0) (qNk E)) (nat_lit 1)) = false → False)) ∧ (yGrow (yNadd (yNadd (nat_lit 0) (qNk E)) (nat_lit 1)) (nat_lit 8) = false → False)) ∧ (yNeq (yNadd (nat_lit 0) (qNk E)) (yNadd (nat_lit 0) (qNk E)) = false → False)) ∧ (yGrow (yNadd (nat_lit 0) (qNk E)) (nat_lit 8) = false → False))) ∧ (yEq (qAt E) (2 : Int) = false → (yEq (qAt E) (3 : Int) = true → (yNeq (qNv E) (nat_lit 0) = true → ((goalTkR_12 E) = true → ((goalTkR_7 E) = true → ((goalTkR_8 E) = true → ((goalTkR_11) = true → ((goalTkR_5) = true → ((goalTkR_5) = true → (prePl cs ct cf cl cp { h := qH E, v := qV E, n := qN E, kd := qKd E, ix := qIx E, key := qKey E, val := qVal E, at_ := qAt E, nb := qNb E, kn := qKn E, nk := qNk E, k := fun (i : Nat) => qK E i, vn := false, nv := nat_lit 1, w := litI (nat_lit 1) [AV.y IntKind.u64 got] (nat_lit 0), lk := qLk E, wn := qWn E, nw := qNw E, wa := fun (i : Nat) => qWa E i, wb := fun (i : Nat) => qWb E i } = true → qH (tkE cs ct cf E got) = qH (goalTkR_3 cs ct cf E got) ∧ qV (tkE cs ct cf E got) = qV (goalTkR_3 cs ct cf E got) ∧ qN (tkE cs ct cf E got) = qN (goalTkR_3 cs ct cf E got) ∧ qKd (tkE cs ct cf E got) = qKd (goalTkR_3 cs ct cf E got) ∧ qIx (tkE cs ct cf E got) = qIx (goalTkR_3 cs ct cf E got) ∧ qKey (tkE cs ct cf E got) = qKey (goalTkR_3 cs ct cf E got) ∧ qVal (tkE cs ct cf E got) = qVal (goalTkR_3 cs ct cf E got) ∧ qAt (tkE cs ct cf E got) = qAt (goalTkR_3 cs ct cf E got) ∧ outE E po got = po ∧ qNb (tkE cs ct cf E got) = qNb (goalTkR_3 cs ct cf E got) ∧ (qKn (tkE cs ct cf E got) = qKn (goalTkR_3 cs ct cf E got) ∧ qNk (tkE cs ct cf E got) = qNk (goalTkR_3 cs ct cf E got) ∧ ∀ (i : Nat), Nat.succ i ≤ qNk (tkE cs ct cf E got) → qK (tkE cs ct cf E got) i = qK (goalTkR_3 cs ct cf E got) i ∧ True) ∧ (qVn (tkE cs ct cf E got) = qVn (goalTkR_3 cs ct cf E got) ∧ qNv (tkE cs ct cf E got) = qNv (goalTkR_3 cs ct cf E got) ∧ ∀ (i : Nat), Nat.succ i ≤ qNv (tkE cs ct cf E got) → qW (tkE cs ct cf E got) i = qW (goalTkR_3 cs ct cf E got) i ∧ True) ∧ qLk (tkE cs ct cf E got) = qLk (goalTkR_3 cs ct cf E got) ∧ (qWn (tkE cs ct cf E got) = qWn (goalTkR_3 cs ct cf E got) ∧ qNw (tkE cs ct cf E got) = qNw (goalTkR_3 cs ct cf E got) ∧ ∀ (i : Nat), Nat.succ i ≤ qNw (tkE cs ct cf E got) → qWa (tkE cs ct cf E got) i = qWa (goalTkR_3 cs ct cf E got) i ∧ qWb (tkE cs ct cf E got) i = qWb (goalTkR_3 cs ct cf E got) i ∧ True) ∧ (goalTkR_6 E got) ∧ true = true) ∧ (prePl cs ct cf cl cp { h := qH E, v := qV E, n := qN E, kd := qKd E, ix := qIx E, key := qKey E, val := qVal E, at_ := qAt E, nb := qNb E, kn := qKn E, nk := qNk E, k := fun (i : Nat) => qK E i, vn := false, nv := nat_lit 1, w := litI (nat_lit 1) [AV.y IntKind.u64 got] (nat_lit 0), lk := qLk E, wn := qWn E, nw := qNw E, wa := fun (i : Nat) => qWa E i, wb := fun (i : Nat) => qWb E i } = false → False)) ∧ ((goalTkR_5) = false → False)) ∧ ((goalTkR_5) = false → False)) ∧ ((goalTkR_11) = false → False)) ∧ ((goalTkR_8 E) = false → False)) ∧ ((goalTkR_7 E) = false → False)) ∧ ((goalTkR_12 E) = false → False)) ∧ (yNeq (qNv E) (nat_lit 0) = false → (yGrow (yNadd (nat_lit 0) (qNv E)) (nat_lit 8) = true → (yNeq (yNadd (nat_lit 0) (qNv E)) (yNadd (nat_lit 0) (qNv E)) = true → (yGrow (yNadd (yNadd (nat_lit 0) (qNv E)) (nat_lit 1)) (nat_lit 8) = true → ((goalTkR_12 E) = true → (yNle (yNadd (nat_lit 0) (yNadd (yNadd (nat_lit 0) (qNv E)) (nat_lit 1))) (yNadd (yNadd (nat_lit 0) (qNv E)) (nat_lit 1)) = true → ((yCol (CK.int IntKind.u64) (yNadd (yNadd (nat_lit 0) (qNv E)) (nat_lit 1)) fun (i : Nat) => AV.y IntKind.u64 (ySel (yNlt i (yNadd (nat_lit 0) (qNv E))) (qW E (yNadd (nat_lit 0) i)) got)) = true → ((goalTkR_7 E) = true → ((goalTkR_8 E) = true → ((goalTkR_11) = true → ((goalTkR_5) = true → ((goalTkR_5) = true → (prePl cs ct cf cl cp { h := qH E, v := qV E, n := qN E, kd := qKd E, ix := qIx E, key := qKey E, val := qVal E, at_ := qAt E, nb := qNb E, kn := qKn E, nk := qNk E, k := fun (i : Nat) => qK E i, vn := yAnd false (yNeq (nat_lit 1) (nat_lit 0)), nv := yNadd (yNadd (nat_lit 0) (qNv E)) (nat_lit 1), w := fun (i : Nat) => ySel (yNlt i (yNadd (nat_lit 0) (qNv E))) (qW E (yNadd (nat_lit 0) i)) got, lk := qLk E, wn := qWn E, nw := qNw E, wa := fun (i : Nat) => qWa E i, wb := fun (i : Nat) => qWb E i } = true → qH (tkE cs ct cf E got) = qH (goalTkR_1 cs ct cf E got) ∧ qV (tkE cs ct cf E got) = qV (goalTkR_1 cs ct cf E got) ∧ qN (tkE cs ct cf E got) = qN (goalTkR_1 cs ct cf E got) ∧ qKd (tkE cs ct cf E got) = qKd (goalTkR_1 cs ct cf E got) ∧ qIx (tkE cs ct cf E got) = qIx (goalTkR_1 cs ct cf E got) ∧ qKey (tkE cs ct cf E got) = qKey (goalTkR_1 cs ct cf E got) ∧ qVal (tkE cs ct cf E got) = qVal (goalTkR_1 cs ct cf E got) ∧ qAt (tkE cs ct cf E got) = qAt (goalTkR_1 cs ct cf E got) ∧ outE E po got = po ∧ qNb (tkE cs ct cf E got) = qNb (goalTkR_1 cs ct cf E got) ∧ (qKn (tkE cs ct cf E got) = qKn (goalTkR_1 cs ct cf E got) ∧ qNk (tkE cs ct cf E got) = qNk (goalTkR_1 cs ct cf E got) ∧ ∀ (i : Nat), Nat.succ i ≤ qNk (tkE cs ct cf E got) → qK (tkE cs ct cf E got) i = qK (goalTkR_1 cs ct cf E got) i ∧ True) ∧ (qVn (tkE cs ct cf E got) = qVn (goalTkR_1 cs ct cf E got) ∧ qNv (tkE cs ct cf E got) = qNv (goalTkR_1 cs ct cf E got) ∧ ∀ (i : Nat), Nat.succ i ≤ qNv (tkE cs ct cf E got) → qW (tkE cs ct cf E got) i = qW (goalTkR_1 cs ct cf E got) i ∧ True) ∧ qLk (tkE cs ct cf E got) = qLk (goalTkR_1 cs ct cf E got) ∧ (qWn (tkE cs ct cf E got) = qWn (goalTkR_1 cs ct cf E got) ∧ qNw (tkE cs ct cf E got) = qNw (goalTkR_1 cs ct cf E got) ∧ ∀ (i : Nat), Nat.succ i ≤ qNw (tkE cs ct cf E got) → qWa (tkE cs ct cf E got) i = qWa (goalTkR_1 cs ct cf E got) i ∧ qWb (tkE cs ct cf E got) i = qWb (goalTkR_1 cs ct cf E got) i ∧ True) ∧ (goalTkR_6 E got) ∧ true = true) ∧ (prePl cs ct cf cl cp { h := qH E, v := qV E, n := qN E, kd := qKd E, ix := qIx E, key := qKey E, val := qVal E, at_ := qAt E, nb := qNb E, kn := qKn E, nk := qNk E, k := fun (i : Nat) => qK E i, vn := yAnd false (yNeq (nat_lit 1) (nat_lit 0)), nv := yNadd (yNadd (nat_lit 0) (qNv E)) (nat_lit 1), w := fun (i : Nat) => ySel (yNlt i (yNadd (nat_lit 0) (qNv E))) (qW E (yNadd (nat_lit 0) i)) got, lk := qLk E, wn := qWn E, nw := qNw E, wa := fun (i : Nat) => qWa E i, wb := fun (i : Nat) => qWb E i } = false → False)) ∧ ((goalTkR_5) = false → False)) ∧ ((goalTkR_5) = false → False)) ∧ ((goalTkR_11) = false → False)) ∧ ((goalTkR_8 E) = false → False)) ∧ ((goalTkR_7 E) = false → False)) ∧ ((yCol (CK.int IntKind.u64) (yNadd (yNadd (nat_lit 0) (qNv E)) (nat_lit 1)) fun (i : Nat) => AV.y IntKind.u64 (ySel (yNlt i (yNadd (nat_lit 0) (qNv E))) (qW E (yNadd (nat_lit 0) i)) got)) = false → False)) ∧ (yNle (yNadd (nat_lit 0) (yNadd (yNadd (nat_lit 0) (qNv E)) (nat_lit 1))) (yNadd (yNadd (nat_lit 0) (qNv E)) (nat_lit 1)) = false → False)) ∧ ((goalTkR_12 E) = false → False)) ∧ (yGrow (yNadd (yNadd (nat_lit 0) (qNv E)) (nat_lit 1)) (nat_lit 8) = false → False)) ∧ (yNeq (yNadd (nat_lit 0) (qNv E)) (yNadd (nat_lit 0) (qNv E)) = false → False)) ∧ (yGrow (yNadd (nat_lit 0) (qNv E)) (nat_lit 8) = false → False))) ∧ (yEq (qAt E) (3 : Int) = false → (yEq (qAt E) (4 : Int) = true → (yIn (1 : Int) (Nat.succ (qNw E)) = true → (yEq (yInt (yNsub (qNw E) (nat_lit 1))) (0 : Int) = true → qH (tkE cs ct cf E got) = qH E ∧ qV (tkE cs ct cf E got) = qV E ∧ qN (tkE cs ct cf E got) = qN E ∧ qKd (tkE cs ct cf E got) = qKd E ∧ qIx (tkE cs ct cf E got) = qIx E ∧ qKey (tkE cs ct cf E got) = qKey E ∧ qVal (tkE cs ct cf E got) = qVal E ∧ qAt (tkE cs ct cf E got) = (0 : Int) ∧ outE E po got = (1 : Int) ∧ qNb (tkE cs ct cf E got) = qNb E ∧ (goalTkR_9 cs ct cf E got) ∧ (goalTkR_10 cs ct cf E got) ∧ qLk (tkE cs ct cf E got) = qLk E ∧ (qWn (tkE cs ct cf E got) = qWn E ∧ qNw (tkE cs ct cf E got) = yNsub (qNw E) (nat_lit 1) ∧ ∀ (i : Nat), Nat.succ i ≤ qNw (tkE cs ct cf E got) → qWa (tkE cs ct cf E got) i = qWa E (yNadd (nat_lit 1) i) ∧ qWb (tkE cs ct cf E got) i = qWb E (yNadd (nat_lit 1) i) ∧ True) ∧ mkNil (mkE E got) = false ∧ mkN (mkE E got) = nat_lit 1 ∧ ((mkE E got = (12 : Int) ∧ maE E got = (0 : Int) ∧ (0 : Int) = (0 : Int) ∧ True) ∧ True) ∧ true = true) ∧ (yEq (yInt (yNsub (qNw E) (nat_lit 1))) (0 : Int) = false → qH (tkE cs ct cf E got) = qH E ∧ qV (tkE cs ct cf E got) = qV E ∧ qN (tkE cs ct cf E got) = qN E ∧ qKd (tkE cs ct cf E got) = qKd E ∧ qIx (tkE cs ct cf E got) = qIx E ∧ qKey (tkE cs ct cf E got) = qKey E ∧ qVal (tkE cs ct cf E got) = qVal E ∧ qAt (tkE cs ct cf E got) = qAt E ∧ outE E po got = po ∧ qNb (tkE cs ct cf E got) = qNb E ∧ (goalTkR_9 cs ct cf E got) ∧ (goalTkR_10 cs ct cf E got) ∧ qLk (tkE cs ct cf E got) = qLk E ∧ (qWn (tkE cs ct cf E got) = qWn E ∧ qNw (tkE cs ct cf E got) = yNsub (qNw E) (nat_lit 1) ∧ ∀ (i : Nat), Nat.succ i ≤ qNw (tkE cs ct cf E got) → qWa (tkE cs ct cf E got) i = qWa E (yNadd (nat_lit 1) i) ∧ qWb (tkE cs ct cf E got) i = qWb E (yNadd (nat_lit 1) i) ∧ True) ∧ mkNil (mkE E got) = true ∧ mkN (mkE E got) = nat_lit 0 ∧ true = true)) ∧ (yIn (1 : Int) (Nat.succ (qNw E)) = false → False)) ∧ (yEq (qAt E) (4 : Int) = false → (yEq (qAt E) (5 : Int) = true → qH (tkE cs ct cf E got) = qH E ∧ qV (tkE cs ct cf E got) = qV E ∧ qN (tkE cs ct cf E got) = qN E ∧ qKd (tkE cs ct cf E got) = qKd E ∧ qIx (tkE cs ct cf E got) = qIx E ∧ qKey (tkE cs ct cf E got) = qKey E ∧ qVal (tkE cs ct cf E got) = qVal E ∧ qAt (tkE cs ct cf E got) = (0 : Int) ∧ outE E po got = (3 : Int) ∧ qNb (tkE cs ct cf E got) = qNb E ∧ (goalTkR_9 cs ct cf E got) ∧ (goalTkR_10 cs ct cf E got) ∧ qLk (tkE cs ct cf E got) = qLk E ∧ (goalTkR_14 cs ct cf E got) ∧ mkNil (mkE E got) = true ∧ mkN (mkE E got) = nat_lit 0 ∧ true = true) ∧ (yEq (qAt E) (5 : Int) = false → qH (tkE cs ct cf E got) = qH E ∧ qV (tkE cs ct cf E got) = qV E ∧ qN (tkE cs ct cf E got) = qN E ∧ qKd (tkE cs ct cf E got) = qKd E ∧ qIx (tkE cs ct cf E got) = qIx E ∧ qKey (tkE cs ct cf E got) = qKey E ∧ qVal (tkE cs ct cf E got) = qVal E ∧ qAt (tkE cs ct cf E got) = qAt E ∧ outE E po got = po ∧ qNb (tkE cs ct cf E got) = qNb E ∧ (goalTkR_9 cs ct cf E got) ∧ (goalTkR_10 cs ct cf E got) ∧ qLk (tkE cs ct cf E got) = qLk E ∧ (goalTkR_14 cs ct cf E got) ∧ mkNil (mkE E got) = true ∧ mkN (mkE E got) = nat_lit 0 ∧ true = true))))))
set_option maxRecDepth 100000 in
theorem goalTkR_eq : goalTkR = goalTkRV := by kernel_rfl
set_option maxRecDepth 100000 in
set_option maxHeartbeats 8000000 in
theorem goalTkR_vc : goalTkRV := by
  unfold goalTkRV goalTkR_14 goalTkR_13 goalTkR_12 goalTkR_11 goalTkR_10 goalTkR_9 goalTkR_8 goalTkR_7 goalTkR_6 goalTkR_5 goalTkR_4 goalTkR_3 goalTkR_2 goalTkR_1 goalTkR_0
  intro cs ct cf cl cp E po mn ml m1 m2 m3 got hE
  have hH : E.at_ ≠ 0 → E.at_ ≠ 4 → E.at_ ≠ 5 → ∀ X : EdS, X.h = E.h → X.v = E.v → (X.nk : Int) ≤ E.nk + 1 → (X.nv : Int) ≤ E.nv + 1 → prePl cs ct cf cl cp X = true := invE_pre hE
  have hq : E.at_ = qAt E := rfl
  by_cases a1 : E.at_ = 1
  · have hH := hH (by omega) (by omega) (by omega)
    have hB := invE_len hE (by omega) (by omega) (by omega)
    have e1 : qAt E = 1 := by omega
    by_cases g : got = 1
    · obtain ⟨o1, o2, o3⟩ := ou1 (po := po) a1 g
      simp only [yEq_t, yEq_f, yIn_t, yIn_f, yNle_t, yNle_f, yNeq_t, yNeq_f, yGrow_t, yGrow_f, yInt_e, yNadd_e, yNsub_e, yCol_int, true_and, and_true, Nat.zero_add, Nat.le_refl, forall_const, Bool.true_eq_false, false_implies, tk1 a1 g, o1, o2, o3, eq_true e1, eq_true g]
      repeat' (first | apply And.intro | intro _)
      all_goals first
        | rfl
        | trivial
        | omega
        | exact hH _ rfl rfl (by simp only [qNk, yNat_e, yInt_e]; omega) (by simp only [qNv, yNat_e, yInt_e]; omega)
        | (rename_i h; refine absurd (h.symm.trans (hH _ rfl rfl ?_ ?_)) Bool.false_ne_true <;> first | omega | (simp only [qNk, qNv]; omega))
        | (trace_state; fail)
    · obtain ⟨o1, o2, o3⟩ := ou1n (po := po) a1 g
      simp only [yEq_t, yEq_f, yIn_t, yIn_f, yNle_t, yNle_f, yNeq_t, yNeq_f, yGrow_t, yGrow_f, yInt_e, yNadd_e, yNsub_e, yCol_int, true_and, and_true, Nat.zero_add, Nat.le_refl, forall_const, Bool.true_eq_false, false_implies, tk1n a1 g, o1, o2, o3, eq_true e1, eq_false g]
      repeat' (first | apply And.intro | intro _)
      all_goals first
        | rfl
        | trivial
        | omega
        | exact hH _ rfl rfl (by simp only [qNk, yNat_e, yInt_e]; omega) (by simp only [qNv, yNat_e, yInt_e]; omega)
        | (rename_i h; refine absurd (h.symm.trans (hH _ rfl rfl ?_ ?_)) Bool.false_ne_true <;> first | omega | (simp only [qNk, qNv]; omega))
        | (trace_state; fail)
  by_cases a2 : E.at_ = 2
  · have hH := hH (by omega) (by omega) (by omega)
    have hB := invE_len hE (by omega) (by omega) (by omega)
    have e1 : ¬ qAt E = 1 := by omega
    have e2 : qAt E = 2 := by omega
    obtain ⟨o1, o2, o3⟩ := ou0 (po := po) (got := got) a1 (by omega) (by omega)
    by_cases z : E.nk = 0
    · have hT : tkE cs ct cf E got = rdE cs ct cf (nmE { E with kn := false, nk := 1, k := litI 1 [AV.y .u64 got] 0 }) := by rw [tk2 a2, z, nm_k sn_0]
      have z2 : qNk E = 0 := z
      simp only [yEq_t, yEq_f, yIn_t, yIn_f, yNle_t, yNle_f, yNeq_t, yNeq_f, yGrow_t, yGrow_f, yInt_e, yNadd_e, yNsub_e, yCol_int, true_and, and_true, Nat.zero_add, Nat.le_refl, forall_const, Bool.true_eq_false, false_implies, hT, o1, o2, o3, eq_false e1, eq_true e2, eq_true z2]
      repeat' (first | apply And.intro | intro _)
      all_goals first
        | rfl
        | trivial
        | omega
        | exact hH _ rfl rfl (by simp only [qNk, yNat_e, yInt_e]; omega) (by simp only [qNv, yNat_e, yInt_e]; omega)
        | (rename_i h; refine absurd (h.symm.trans (hH _ rfl rfl ?_ ?_)) Bool.false_ne_true <;> first | omega | (simp only [qNv]; omega))
        | (trace_state; fail)
    · have hT : tkE cs ct cf E got = rdE cs ct cf (nmE { E with kn := false, nk := E.nk + 1, k := fun i : Nat => ySel (yNlt i E.nk) (E.k i) got }) := by rw [tk2 a2, nm_k sn_P]
      have z2 : ¬ qNk E = 0 := z
      simp only [yEq_t, yEq_f, yIn_t, yIn_f, yNle_t, yNle_f, yNeq_t, yNeq_f, yGrow_t, yGrow_f, yInt_e, yNadd_e, yNsub_e, yCol_int, true_and, and_true, Nat.zero_add, Nat.le_refl, forall_const, Bool.true_eq_false, false_implies, hT, o1, o2, o3, eq_false e1, eq_true e2, eq_false z2]
      repeat' (first | apply And.intro | intro _)
      all_goals first
        | rfl
        | trivial
        | omega
        | exact hH _ rfl rfl (by simp only [qNk, yNat_e, yInt_e]; omega) (by simp only [qNv, yNat_e, yInt_e]; omega)
        | (rename_i h; refine absurd (h.symm.trans (hH _ rfl rfl ?_ ?_)) Bool.false_ne_true <;> first | omega | (simp only [qNk, qNv]; omega))
        | (trace_state; fail)
  by_cases a3 : E.at_ = 3
  · have hH := hH (by omega) (by omega) (by omega)
    have hB := invE_len hE (by omega) (by omega) (by omega)
    have e1 : ¬ qAt E = 1 := by omega
    have e2 : ¬ qAt E = 2 := by omega
    have e3 : qAt E = 3 := by omega
    obtain ⟨o1, o2, o3⟩ := ou0 (po := po) (got := got) a1 (by omega) (by omega)
    by_cases z : E.nv = 0
    · have hT : tkE cs ct cf E got = rdE cs ct cf (nmE { E with vn := false, nv := 1, w := litI 1 [AV.y .u64 got] 0 }) := by rw [tk3 a3, z, nm_w sn_0]
      have z2 : qNv E = 0 := z
      simp only [yEq_t, yEq_f, yIn_t, yIn_f, yNle_t, yNle_f, yNeq_t, yNeq_f, yGrow_t, yGrow_f, yInt_e, yNadd_e, yNsub_e, yCol_int, true_and, and_true, Nat.zero_add, Nat.le_refl, forall_const, Bool.true_eq_false, false_implies, hT, o1, o2, o3, eq_false e1, eq_false e2, eq_true e3, eq_true z2]
      repeat' (first | apply And.intro | intro _)
      all_goals first
        | rfl
        | trivial
        | omega
        | exact hH _ rfl rfl (by simp only [qNk, yNat_e, yInt_e]; omega) (by simp only [qNv, yNat_e, yInt_e]; omega)
        | (rename_i h; refine absurd (h.symm.trans (hH _ rfl rfl ?_ ?_)) Bool.false_ne_true <;> first | omega | (simp only [qNk]; omega))
        | (trace_state; fail)
    · have hT : tkE cs ct cf E got = rdE cs ct cf (nmE { E with vn := false, nv := E.nv + 1, w := fun i : Nat => ySel (yNlt i E.nv) (E.w i) got }) := by rw [tk3 a3, nm_w sn_P]
      have z2 : ¬ qNv E = 0 := z
      simp only [yEq_t, yEq_f, yIn_t, yIn_f, yNle_t, yNle_f, yNeq_t, yNeq_f, yGrow_t, yGrow_f, yInt_e, yNadd_e, yNsub_e, yCol_int, true_and, and_true, Nat.zero_add, Nat.le_refl, forall_const, Bool.true_eq_false, false_implies, hT, o1, o2, o3, eq_false e1, eq_false e2, eq_true e3, eq_false z2]
      repeat' (first | apply And.intro | intro _)
      all_goals first
        | rfl
        | trivial
        | omega
        | exact hH _ rfl rfl (by simp only [qNk, yNat_e, yInt_e]; omega) (by simp only [qNv, yNat_e, yInt_e]; omega)
        | (rename_i h; refine absurd (h.symm.trans (hH _ rfl rfl ?_ ?_)) Bool.false_ne_true <;> first | omega | (simp only [qNk, qNv]; omega))
        | (trace_state; fail)
  clear hH
  have hw : E.at_ = 4 → 0 < E.nw ∧ E.nw ≤ 1000000 := fun a => by
    unfold invE at hE
    rw [decide_eq_true_iff] at hE
    rcases hE.2 with h | ⟨_, _, _, _, _, _, hst⟩
    · omega
    · omega
  by_cases a4 : E.at_ = 4
  · have hw := hw a4
    have e1 : ¬ qAt E = 1 := by omega
    have e2 : ¬ qAt E = 2 := by omega
    have e3 : ¬ qAt E = 3 := by omega
    have e4 : qAt E = 4 := by omega
    obtain ⟨o1, o2, o3⟩ := ou4 (po := po) (got := got) a4
    simp only [yEq_t, yEq_f, yIn_t, yIn_f, yNle_t, yNle_f, yNeq_t, yNeq_f, yGrow_t, yGrow_f, yInt_e, yNadd_e, yNsub_e, yCol_int, true_and, and_true, Nat.zero_add, Nat.le_refl, forall_const, Bool.true_eq_false, false_implies, tk4 a4, o1, o2, o3, eq_false e1, eq_false e2, eq_false e3, eq_true e4]
    repeat' (first | apply And.intro | intro _)
    all_goals first
      | rfl
      | trivial
      | omega
      | (simp only [qNw] at *; omega)
      | exact if_pos (by simp only [qNw] at *; omega)
      | exact if_neg (by simp only [qNw] at *; omega)
      | exact (if_neg (by simp only [qNw] at *; omega)).trans (Eq.symm ‹qAt E = 4›)
      | (trace_state; fail)
  clear hw
  by_cases a5 : E.at_ = 5
  · have e1 : ¬ qAt E = 1 := by omega
    have e2 : ¬ qAt E = 2 := by omega
    have e3 : ¬ qAt E = 3 := by omega
    have e4 : ¬ qAt E = 4 := by omega
    have e5 : qAt E = 5 := by omega
    obtain ⟨o1, o2, o3⟩ := ou5 (po := po) (got := got) a5
    simp only [yEq_t, yEq_f, yIn_t, yIn_f, yNle_t, yNle_f, yNeq_t, yNeq_f, yGrow_t, yGrow_f, yInt_e, yNadd_e, yNsub_e, yCol_int, true_and, and_true, Nat.zero_add, Nat.le_refl, forall_const, Bool.true_eq_false, false_implies, tk5 a5, o1, o2, o3, eq_false e1, eq_false e2, eq_false e3, eq_false e4, eq_true e5]
    repeat' (first | apply And.intro | intro _)
    all_goals first
      | rfl
      | trivial
      | omega
      | (simp only [qNw] at *; omega)
      | exact if_pos (by simp only [qNw] at *; omega)
      | exact if_neg (by simp only [qNw] at *; omega)
      | exact (if_neg (by simp only [qNw] at *; omega)).trans (Eq.symm ‹qAt E = 4›)
      | (trace_state; fail)
  · have e1 : ¬ qAt E = 1 := by omega
    have e2 : ¬ qAt E = 2 := by omega
    have e3 : ¬ qAt E = 3 := by omega
    have e4 : ¬ qAt E = 4 := by omega
    have e5 : ¬ qAt E = 5 := by omega
    obtain ⟨o1, o2, o3⟩ := ou0 (po := po) (got := got) a1 a4 a5
    simp only [yEq_t, yEq_f, yIn_t, yIn_f, yNle_t, yNle_f, yNeq_t, yNeq_f, yGrow_t, yGrow_f, yInt_e, yNadd_e, yNsub_e, yCol_int, true_and, and_true, Nat.zero_add, Nat.le_refl, forall_const, Bool.true_eq_false, false_implies, tk0 ⟨a1, a2, a3, a4, a5⟩, o1, o2, o3, eq_false e1, eq_false e2, eq_false e3, eq_false e4, eq_false e5]
    repeat' (first | apply And.intro | intro _)
    all_goals first
      | rfl
      | trivial
      | omega
      | (simp only [qNw] at *; omega)
      | exact if_pos (by simp only [qNw] at *; omega)
      | exact if_neg (by simp only [qNw] at *; omega)
      | exact (if_neg (by simp only [qNw] at *; omega)).trans (Eq.symm ‹qAt E = 4›)
      | (trace_state; fail)
set_option maxRecDepth 100000 in
theorem goalTkR_tt : (goalTkR) = True := goalTkR_eq.trans (eq_true goalTkR_vc)
theorem goalTkR_ok : goalTkR := @ft' goalTkR goalTkR_tt
end Go.Proofs.YtlfehgagnelbhaaGreatDoor.Ex
