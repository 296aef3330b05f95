/- The steps of a change of a leaf, as contracts; gleaningref20.SameMarks and gleaningref10.Ints. -/
import Derived.Test.YtlfehgagnelbhaaGreatDoorCEg
namespace Go.Proofs.YtlfehgagnelbhaaGreatDoor.Ex
open Go

set_option maxRecDepth 100000 in
theorem lPl_ok (hm : Tryz.prog.follows .mixedOrders = true) : SmAll Tryz.prog lPl :=
  ⟨smSl16 hm @goalSl16_ok, smSl16 hm @goalSl16R_ok, smSetP hm @goalSetP_ok, smSetP hm @goalSetR_ok, smInsP hm @goalInsP_ok, smInsP hm @goalInsR_ok, smRemP hm @goalRemP_ok, smRemP hm @goalRemR_ok, trivial⟩
set_option maxRecDepth 100000 in
theorem smPlP (hm : Tryz.prog.follows .mixedOrders = true) : SmCall Tryz.prog 69 (fun args h => (ctX [sEdP] ownW fPlP args h).sel) :=
  ctX_ok hm (smL_ok (lPl_ok hm)) (fun ds r post h => by
    unfold fPlP at h
    split at h
    · rename_i sp sv sn si h v n inr dp ls lt lf ll lp kd ix key val at_ po nb kn nk k vn nv w lk wn nw wa wb mk ma mb
      simp only [Option.some.injEq, Prod.mk.injEq] at h
      obtain ⟨h1, rfl, rfl⟩ := h
      refine ⟨fun _ => none, 1000, ?_⟩
      have h2 := @goalPlP_ok
      unfold goalPlP at h2
      revert h1
      exact @h2 sp sv sn si inr dp ls lt lf ll lp ⟨h, v, n, kd, ix, key, val, at_, nb, kn, nk, k, vn, nv, w, lk, wn, nw, wa, wb⟩ po mk ma mb
    · cases h)
set_option maxRecDepth 100000 in
theorem smPlR (hm : Tryz.prog.follows .mixedOrders = true) : SmCall Tryz.prog 70 (fun args h => (ctX [sConf, sEdR] ownW fPlR args h).sel) :=
  ctX_ok hm (smL_ok (lPl_ok hm)) (fun ds r post h => by
    unfold fPlR at h
    split at h
    · rename_i cs ct cf cl cp h v n kd ix key val at_ po nb kn nk k vn nv w lk wn nw wa wb mn ml m1 m2 m3
      simp only [Option.some.injEq, Prod.mk.injEq] at h
      obtain ⟨h1, rfl, rfl⟩ := h
      refine ⟨fun _ => none, 1000, ?_⟩
      have h2 := @goalPlR_ok
      unfold goalPlR at h2
      revert h1
      exact @h2 cs ct cf cl cp ⟨h, v, n, kd, ix, key, val, at_, nb, kn, nk, k, vn, nv, w, lk, wn, nw, wa, wb⟩ po mn ml m1 m2 m3
    · cases h)
theorem lRd_ok (hm : Tryz.prog.follows .mixedOrders = true) : SmAll Tryz.prog lRd := ⟨smPlP hm, smPlR hm, trivial⟩
set_option maxRecDepth 100000 in
theorem smRdP (hm : Tryz.prog.follows .mixedOrders = true) : SmCall Tryz.prog 51 (fun args h => (ctX [sEdP] sEdP fRdP args h).sel) :=
  ctX_ok hm (smL_ok (lRd_ok hm)) (fun ds r post h => by
    unfold fRdP at h
    split at h
    · rename_i sp sv sn si h v n inr dp ls lt lf ll lp kd ix key val at_ po nb kn nk k vn nv w lk wn nw wa wb mk ma mb
      simp only [Option.some.injEq, Prod.mk.injEq] at h
      obtain ⟨h1, rfl, rfl⟩ := h
      refine ⟨fun _ => none, 1000, ?_⟩
      have h2 := @goalRdP_ok
      unfold goalRdP at h2
      revert h1
      exact @h2 sp sv sn si inr dp ls lt lf ll lp ⟨h, v, n, kd, ix, key, val, at_, nb, kn, nk, k, vn, nv, w, lk, wn, nw, wa, wb⟩ po mk ma mb
    · cases h)
set_option maxRecDepth 100000 in
theorem smRdR (hm : Tryz.prog.follows .mixedOrders = true) : SmCall Tryz.prog 54 (fun args h => (ctX [sConf, sEdR] sEdR fRdR args h).sel) :=
  ctX_ok hm (smL_ok (lRd_ok hm)) (fun ds r post h => by
    unfold fRdR at h
    split at h
    · rename_i cs ct cf cl cp h v n kd ix key val at_ po nb kn nk k vn nv w lk wn nw wa wb mn ml m1 m2 m3
      simp only [Option.some.injEq, Prod.mk.injEq] at h
      obtain ⟨h1, rfl, rfl⟩ := h
      refine ⟨fun _ => none, 1000, ?_⟩
      have h2 := @goalRdR_ok
      unfold goalRdR at h2
      revert h1
      exact @h2 cs ct cf cl cp ⟨h, v, n, kd, ix, key, val, at_, nb, kn, nk, k, vn, nv, w, lk, wn, nw, wa, wb⟩ po mn ml m1 m2 m3
    · cases h)
set_option maxRecDepth 100000 in
theorem smLockE (hm : Tryz.prog.follows .mixedOrders = true) : SmCall Tryz.prog 46 (fun args h => (ctS gW (fW lockC) args h).sel) := smW (f := 46) (F := lockC) hm @goalLock_ok
set_option maxRecDepth 100000 in
theorem smLockER (hm : Tryz.prog.follows .mixedOrders = true) : SmCall Tryz.prog 49 (fun args h => (ctS gW (fW lockC) args h).sel) := smW (f := 49) (F := lockC) hm @goalLockR_ok
set_option maxRecDepth 100000 in
theorem lEd_ok (hm : Tryz.prog.follows .mixedOrders = true) : SmAll Tryz.prog lEd :=
  ⟨smSl16 hm @goalSl16_ok, smSl16 hm @goalSl16R_ok, smLockE hm, smLockER hm, smVer hm, smL2 (f := 47) (F := keyC) hm @goalKey_ok, smVal hm, smVerR hm, smR2 (f := 50) (F := keyC) hm @goalKeyR_ok, smValR hm, smRdP hm, smRdR hm, smHr hm @goalHr_ok, smHr hm @goalHrR_ok, smRight hm, trivial⟩
set_option maxRecDepth 100000 in
theorem smTkP (hm : Tryz.prog.follows .mixedOrders = true) : SmCall Tryz.prog 20 (fun args h => (ctX [sEdP, .sc] sEdP fTkP args h).sel) :=
  ctX_ok hm (smL_ok (lEd_ok hm)) (fun ds r post h => by
    unfold fTkP at h
    split at h
    · rename_i sp sv sn si h v n inr dp ls lt lf ll lp kd ix key val at_ po nb kn nk k vn nv w lk wn nw wa wb mk ma mb got
      simp only [Option.some.injEq, Prod.mk.injEq] at h
      obtain ⟨h1, rfl, rfl⟩ := h
      refine ⟨fun _ => none, 1000, ?_⟩
      have h2 := @goalTkP_ok
      unfold goalTkP at h2
      revert h1
      exact @h2 sp sv sn si inr dp ls lt lf ll lp ⟨h, v, n, kd, ix, key, val, at_, nb, kn, nk, k, vn, nv, w, lk, wn, nw, wa, wb⟩ po mk ma mb got
    · cases h)
set_option maxRecDepth 100000 in
theorem smTkR (hm : Tryz.prog.follows .mixedOrders = true) : SmCall Tryz.prog 21 (fun args h => (ctX [sConf, sEdR, .sc] sEdR fTkR args h).sel) :=
  ctX_ok hm (smL_ok (lEd_ok hm)) (fun ds r post h => by
    unfold fTkR at h
    split at h
    · rename_i cs ct cf cl cp h v n kd ix key val at_ po nb kn nk k vn nv w lk wn nw wa wb mn ml m1 m2 m3 got
      simp only [Option.some.injEq, Prod.mk.injEq] at h
      obtain ⟨h1, rfl, rfl⟩ := h
      refine ⟨fun _ => none, 1000, ?_⟩
      have h2 := @goalTkR_ok
      unfold goalTkR at h2
      revert h1
      exact @h2 cs ct cf cl cp ⟨h, v, n, kd, ix, key, val, at_, nb, kn, nk, k, vn, nv, w, lk, wn, nw, wa, wb⟩ po mn ml m1 m2 m3 got
    · cases h)
set_option maxRecDepth 100000 in
theorem smWtP (hm : Tryz.prog.follows .mixedOrders = true) : SmCall Tryz.prog 13 (fun args h => (ctX [sEdP] rW4 fWtP args h).sel) :=
  ctX_ok hm (smL_ok (lEd_ok hm)) (fun ds r post h => by
    unfold fWtP at h
    split at h
    · rename_i sp sv sn si h v n inr dp ls lt lf ll lp kd ix key val at_ po nb kn nk k vn nv w lk wn nw wa wb mk ma mb
      simp only [Option.some.injEq, Prod.mk.injEq] at h
      obtain ⟨h1, rfl, rfl⟩ := h
      refine ⟨fun _ => none, 1000, ?_⟩
      have h2 := @goalWtP_ok
      unfold goalWtP at h2
      revert h1
      exact @h2 sp sv sn si inr dp ls lt lf ll lp ⟨h, v, n, kd, ix, key, val, at_, nb, kn, nk, k, vn, nv, w, lk, wn, nw, wa, wb⟩ po mk ma mb
    · cases h)
set_option maxRecDepth 100000 in
theorem smWtR (hm : Tryz.prog.follows .mixedOrders = true) : SmCall Tryz.prog 14 (fun args h => (ctX [sConf, sEdR] rW4 fWtR args h).sel) :=
  ctX_ok hm (smL_ok (lEd_ok hm)) (fun ds r post h => by
    unfold fWtR at h
    split at h
    · rename_i cs ct cf cl cp h v n kd ix key val at_ po nb kn nk k vn nv w lk wn nw wa wb mn ml m1 m2 m3
      simp only [Option.some.injEq, Prod.mk.injEq] at h
      obtain ⟨h1, rfl, rfl⟩ := h
      refine ⟨fun _ => none, 1000, ?_⟩
      have h2 := @goalWtR_ok
      unfold goalWtR at h2
      revert h1
      exact @h2 cs ct cf cl cp ⟨h, v, n, kd, ix, key, val, at_, nb, kn, nk, k, vn, nv, w, lk, wn, nw, wa, wb⟩ po mn ml m1 m2 m3
    · cases h)
set_option maxRecDepth 100000 in
theorem smDnP (hm : Tryz.prog.follows .mixedOrders = true) : SmCall Tryz.prog 11 (fun args h => (ctX [sEdP] (.tup [.sc, .sc]) fDnP args h).sel) :=
  ctX_ok hm noSm_ok (fun ds r post h => by
    unfold fDnP at h
    split at h
    · rename_i sp sv sn si h v n inr dp ls lt lf ll lp kd ix key val at_ po nb kn nk k vn nv w lk wn nw wa wb mk ma mb
      simp only [Option.some.injEq, Prod.mk.injEq] at h
      obtain ⟨h1, rfl, rfl⟩ := h
      refine ⟨fun _ => none, 1000, ?_⟩
      have h2 := @goalDnP_ok
      unfold goalDnP at h2
      revert h1
      exact @h2 sp sv sn si inr dp ls lt lf ll lp ⟨h, v, n, kd, ix, key, val, at_, nb, kn, nk, k, vn, nv, w, lk, wn, nw, wa, wb⟩ po mk ma mb
    · cases h)
set_option maxRecDepth 100000 in
theorem smOlR (hm : Tryz.prog.follows .mixedOrders = true) : SmCall Tryz.prog 15 (fun args h => (ctX [sEdR] .sc fOlR args h).sel) :=
  ctX_ok hm noSm_ok (fun ds r post h => by
    unfold fOlR at h
    split at h
    · rename_i h v n kd ix key val at_ po nb kn nk k vn nv w lk wn nw wa wb mn ml m1 m2 m3
      simp only [Option.some.injEq, Prod.mk.injEq] at h
      obtain ⟨h1, rfl, rfl⟩ := h
      refine ⟨fun _ => none, 1000, ?_⟩
      have h2 := @goalOlR_ok
      unfold goalOlR at h2
      revert h1
      exact @h2 ⟨h, v, n, kd, ix, key, val, at_, nb, kn, nk, k, vn, nv, w, lk, wn, nw, wa, wb⟩ po mn ml m1 m2 m3
    · cases h)
set_option maxRecDepth 100000 in
theorem smNwP (hm : Tryz.prog.follows .mixedOrders = true) : SmCall Tryz.prog 6 (fun args h => (ctX [sConf, sSpot, rW4] sEdP fNwP args h).sel) :=
  ctX_ok hm (smL_ok (lEd_ok hm)) (fun ds r post h => by
    unfold fNwP at h
    split at h
    · rename_i ls lt lf ll lp sp sv sn si h v n inr dp kd ix key val
      simp only [Option.some.injEq, Prod.mk.injEq] at h
      obtain ⟨h1, rfl, rfl⟩ := h
      refine ⟨fun _ => none, 1000, ?_⟩
      have h2 := @goalNwP_ok
      unfold goalNwP at h2
      revert h1
      exact @h2 sp sv sn si h v n inr dp ls lt lf ll lp kd ix key val
    · cases h)
set_option maxRecDepth 100000 in
theorem smNwR (hm : Tryz.prog.follows .mixedOrders = true) : SmCall Tryz.prog 8 (fun args h => (ctX [sConf, sWk20, .sc, .sc, .sc, .sc] sEdR fNwR args h).sel) :=
  ctX_ok hm (smL_ok (lEd_ok hm)) (fun ds r post h => by
    unfold fNwR at h
    split at h
    · rename_i cs ct cf cl cp sp sv sn si h v n inr dp th mo wkey slow chain at_ out sk sl sh skey child mn ml m1 m2 m3 kd ix key val
      simp only [Option.some.injEq, Prod.mk.injEq] at h
      obtain ⟨h1, rfl, rfl⟩ := h
      refine ⟨fun _ => none, 1000, ?_⟩
      have h2 := @goalNwR_ok
      unfold goalNwR at h2
      revert h1
      exact @h2 sp sv sn si h v n inr dp th mo wkey slow chain at_ out sk sl sh skey child mn ml m1 m2 m3 cs ct cf cl cp kd ix key val
    · cases h)
set_option maxRecDepth 100000 in
theorem smLn (hm : Tryz.prog.follows .mixedOrders = true) : SmCall Tryz.prog 7 (fun args h => (ctX [sConf] sConf fLn args h).sel) :=
  ctX_ok hm (smL_ok (lEd_ok hm)) (fun ds r post h => by
    unfold fLn at h
    split at h
    · rename_i s t f l p
      simp only [Option.some.injEq, Prod.mk.injEq] at h
      obtain ⟨h1, rfl, rfl⟩ := h
      refine ⟨fun _ => none, 1000, ?_⟩
      have h2 := @goalLn_ok
      unfold goalLn at h2
      exact @h2 s t f l p
    · cases h)

/-! Marks, and numbers, that are the same. -/
-- OPEN sameM sameI prSM prSI msSI
def sameM (n m : Nat) (a b c a' b' c' : Nat → Int) : Bool := decide (n = m ∧ ∀ k, k < n → a k = a' k ∧ b k = b' k ∧ c k = c' k)
def sameI (n m : Nat) (a a' : Nat → Int) : Bool := decide (n = m ∧ ∀ k, k < n → a k = a' k)
theorem sameM_iff {n m : Nat} {a b c a' b' c' : Nat → Int} : sameM n m a b c a' b' c' = true ↔ (n = m ∧ ∀ k, k < n → a k = a' k ∧ b k = b' k ∧ c k = c' k) := decide_eq_true_iff
theorem sameM_off {n m : Nat} {a b c a' b' c' : Nat → Int} : sameM n m a b c a' b' c' = false ↔ ¬ (n = m ∧ ∀ k, k < n → a k = a' k ∧ b k = b' k ∧ c k = c' k) := decide_eq_false_iff_not
theorem sameI_iff {n m : Nat} {a a' : Nat → Int} : sameI n m a a' = true ↔ (n = m ∧ ∀ k, k < n → a k = a' k) := decide_eq_true_iff
theorem sameI_off {n m : Nat} {a a' : Nat → Int} : sameI n m a a' = false ↔ ¬ (n = m ∧ ∀ k, k < n → a k = a' k) := decide_eq_false_iff_not
def prSM (n : Nat) (a b c a' b' c' : Nat → Int) (i : Nat) : Prop := i ≤ n ∧ ∀ k, k < i → a k = a' k ∧ b k = b' k ∧ c k = c' k
def prSI (n : Nat) (a a' : Nat → Int) (i : Nat) : Prop := i ≤ n ∧ ∀ k, k < i → a k = a' k
def msSI (n i : Nat) : Nat := n - i
abbrev cMk : Cs := some (37, [.int .i64, .int .u64, .int .u64])
abbrev cInt : Cs := some (3, [.int .i64])
abbrev gSM : List Ag := [.cell cMk, .cell cMk]
abbrev gSI : List Ag := [.cell cInt, .cell cInt]
def fSM (ds : List Da) : Option (Bool × AV) :=
  match ds with
  | [.cell (.rows _ n [.int .i64 a, .int .u64 b, .int .u64 c]), .cell (.rows _ m [.int .i64 a', .int .u64 b', .int .u64 c'])] => some (yNle n 1000000, .yb (sameM n m a b c a' b' c'))
  | _ => none
def fSI (ds : List Da) : Option (Bool × AV) :=
  match ds with
  | [.cell (.rows _ n [.int .i64 a]), .cell (.rows _ m [.int .i64 a'])] => some (yNle n 1000000, .yb (sameI n m a a'))
  | _ => none
def annSM (n : Nat) (a b c a' b' c' : Nat → Int) (x : Nat) : Option (St → LoopA) :=
  match x with
  | 0 => some fun _ => { ι := Nat, tms := [5], tmU := fun i => [.y .i64 (yInt i)], ids := [], hpU := fun _ => [], del := [], ex := 0, pre := prSM n a b c a' b' c', ms := msSI n }
  | _ => none
def annSI (n : Nat) (a a' : Nat → Int) (x : Nat) : Option (St → LoopA) :=
  match x with
  | 0 => some fun _ => { ι := Nat, tms := [5], tmU := fun i => [.y .i64 (yInt i)], ids := [], hpU := fun _ => [], del := [], ex := 0, pre := prSI n a a', ms := msSI n }
  | _ => none
def goalSM : Prop := ∀ (nil : Bool) (n : Nat) (a b c : Nat → Int) (nil2 : Bool) (m : Nat) (a' b' c' : Nat → Int), yNle n 1000000 = true →
  wxF Tryz.prog noSm (annSM n a b c a' b' c') 1000 16 (canA gSM [.cell (.rows nil n [.int .i64 a, .int .u64 b, .int .u64 c]), .cell (.rows nil2 m [.int .i64 a', .int .u64 b', .int .u64 c'])] []).1 (heapOf (canA gSM [.cell (.rows nil n [.int .i64 a, .int .u64 b, .int .u64 c]), .cell (.rows nil2 m [.int .i64 a', .int .u64 b', .int .u64 c'])] []).2) (fun v _ => cmpC (.yb (sameM n m a b c a' b' c')) v)
def goalSI : Prop := ∀ (nil : Bool) (n : Nat) (a : Nat → Int) (nil2 : Bool) (m : Nat) (a' : Nat → Int), yNle n 1000000 = true →
  wxF Tryz.prog noSm (annSI n a a') 1000 18 (canA gSI [.cell (.rows nil n [.int .i64 a]), .cell (.rows nil2 m [.int .i64 a'])] []).1 (heapOf (canA gSI [.cell (.rows nil n [.int .i64 a]), .cell (.rows nil2 m [.int .i64 a'])] []).2) (fun v _ => cmpC (.yb (sameI n m a a')) v)
theorem goalSM_eq : goalSM = (∀ (nil : Bool) (n : Nat) (a b c : Nat → Int) (nil2 : Bool) (m : Nat) (a' b' c' : Nat → Int), yNle n (nat_lit 1000000) = true → (yNot (yEq (yInt n) (yInt m)) = true → sameM n m a b c a' b' c' = false) ∧ (yNot (yEq (yInt n) (yInt m)) = false → true = true ∧ (∃ (i0 : Nat), prSM n a b c a' b' c' i0 ∧ true = true ∧ yInt i0 = (0 : Int) ∧ true = true) ∧ ∀ (g : Nat → AV) (i : Nat), prSM n a b c a' b' c' i → (yLt (yInt i) (yInt n) = true → (yIn (yInt i) n = true → (yNlt (yNadd (nat_lit 0) (yNat (yInt i))) n = true → (yIn (yInt i) m = true → (yNlt (yNadd (nat_lit 0) (yNat (yInt i))) m = true → (yNot (yAnd (yEq (a (yNadd (nat_lit 0) (yNat (yInt i)))) (a' (yNadd (nat_lit 0) (yNat (yInt i))))) (yAnd (yEq (b (yNadd (nat_lit 0) (yNat (yInt i)))) (b' (yNadd (nat_lit 0) (yNat (yInt i))))) (yAnd (yEq (c (yNadd (nat_lit 0) (yNat (yInt i)))) (c' (yNadd (nat_lit 0) (yNat (yInt i))))) true))) = true → sameM n m a b c a' b' c' = false) ∧ (yNot (yAnd (yEq (a (yNadd (nat_lit 0) (yNat (yInt i)))) (a' (yNadd (nat_lit 0) (yNat (yInt i))))) (yAnd (yEq (b (yNadd (nat_lit 0) (yNat (yInt i)))) (b' (yNadd (nat_lit 0) (yNat (yInt i))))) (yAnd (yEq (c (yNadd (nat_lit 0) (yNat (yInt i)))) (c' (yNadd (nat_lit 0) (yNat (yInt i))))) true))) = false → true = true ∧ ∃ (i' : Nat), prSM n a b c a' b' c' i' ∧ Nat.succ (msSI n i') ≤ msSI n i ∧ true = true ∧ yInt i' = yWrap IntKind.i64 (yAdd (yInt i) (1 : Int)) ∧ true = true)) ∧ (yNlt (yNadd (nat_lit 0) (yNat (yInt i))) m = false → False)) ∧ (yIn (yInt i) m = false → False)) ∧ (yNlt (yNadd (nat_lit 0) (yNat (yInt i))) n = false → False)) ∧ (yIn (yInt i) n = false → False)) ∧ (yLt (yInt i) (yInt n) = false → sameM n m a b c a' b' c' = true))) := by kernel_rfl
set_option maxRecDepth 100000 in
theorem goalSM_ok : goalSM := by
  refine @kernel_go _ _ goalSM_eq ?_
  intro nil n a b c nil2 m a' b' c' hn
  simp only [yNot_t, yNot_f, yEq_t, yEq_f, yAnd_t, yAnd_f, yOr_t, yOr_f, yIff_t, yIff_f, yLt_t, yLt_f, yLe_t, yLe_f, yIn_t, yIn_f, yNlt_t, yNlt_f, yNle_t, yNle_f, yNeq_t, yNeq_f, yGrow_t, yGrow_f, yInt_e, yNat_e, yNadd_e, yNsub_e, yAdd_e, ySub_e, yMul_e, yCol_int, yCol_bool, true_and, and_true, Nat.zero_add, Nat.add_zero, Nat.le_refl, forall_const, true_implies, Bool.true_eq_false, Bool.false_eq_true, false_implies, sameM_iff, sameM_off, prSM, msSI, or_false] at hn ⊢
  repeat' (first | apply And.intro | intro (_ : Nat → AV) i hi | intro _)
  all_goals (try simp (disch := omega) only [wrap64] at *)
  all_goals first
    | omega
    | exact ⟨0, ⟨Nat.zero_le _, fun k hk => by omega⟩, rfl⟩
    | (refine ⟨i + 1, ⟨by omega, fun k hk => ?_⟩, by omega, by omega⟩
       by_cases e : k = i
       · subst e; refine ⟨?_, ?_, ?_⟩ <;> omega
       · exact hi.2 k (by omega))
    | exact (hi.2 _ (by omega)).1
    | exact (hi.2 _ (by omega)).2.1
    | exact (hi.2 _ (by omega)).2.2
    | (exfalso; have hc := (‹n = m ∧ ∀ k, k < n → a k = a' k ∧ b k = b' k ∧ c k = c' k›).2 i (by omega); omega)
    | (trace_state; fail)
theorem goalSI_eq : goalSI = (∀ (nil : Bool) (n : Nat) (a : Nat → Int) (nil2 : Bool) (m : Nat) (a' : Nat → Int), yNle n (nat_lit 1000000) = true → (yNot (yEq (yInt n) (yInt m)) = true → sameI n m a a' = false) ∧ (yNot (yEq (yInt n) (yInt m)) = false → true = true ∧ (∃ (i0 : Nat), prSI n a a' i0 ∧ true = true ∧ yInt i0 = (0 : Int) ∧ true = true) ∧ ∀ (g : Nat → AV) (i : Nat), prSI n a a' i → (yLt (yInt i) (yInt n) = true → (yIn (yInt i) n = true → (yNlt (yNadd (nat_lit 0) (yNat (yInt i))) n = true → (yIn (yInt i) m = true → (yNlt (yNadd (nat_lit 0) (yNat (yInt i))) m = true → (yNot (yEq (a (yNadd (nat_lit 0) (yNat (yInt i)))) (a' (yNadd (nat_lit 0) (yNat (yInt i))))) = true → sameI n m a a' = false) ∧ (yNot (yEq (a (yNadd (nat_lit 0) (yNat (yInt i)))) (a' (yNadd (nat_lit 0) (yNat (yInt i))))) = false → true = true ∧ ∃ (i' : Nat), prSI n a a' i' ∧ Nat.succ (msSI n i') ≤ msSI n i ∧ true = true ∧ yInt i' = yWrap IntKind.i64 (yAdd (yInt i) (1 : Int)) ∧ true = true)) ∧ (yNlt (yNadd (nat_lit 0) (yNat (yInt i))) m = false → False)) ∧ (yIn (yInt i) m = false → False)) ∧ (yNlt (yNadd (nat_lit 0) (yNat (yInt i))) n = false → False)) ∧ (yIn (yInt i) n = false → False)) ∧ (yLt (yInt i) (yInt n) = false → sameI n m a a' = true))) := by kernel_rfl
set_option maxRecDepth 100000 in
theorem goalSI_ok : goalSI := by
  refine @kernel_go _ _ goalSI_eq ?_
  intro nil n a nil2 m a' hn
  simp only [yNot_t, yNot_f, yEq_t, yEq_f, yAnd_t, yAnd_f, yOr_t, yOr_f, yIff_t, yIff_f, yLt_t, yLt_f, yLe_t, yLe_f, yIn_t, yIn_f, yNlt_t, yNlt_f, yNle_t, yNle_f, yNeq_t, yNeq_f, yGrow_t, yGrow_f, yInt_e, yNat_e, yNadd_e, yNsub_e, yAdd_e, ySub_e, yMul_e, yCol_int, yCol_bool, true_and, and_true, Nat.zero_add, Nat.add_zero, Nat.le_refl, forall_const, true_implies, Bool.true_eq_false, Bool.false_eq_true, false_implies, sameI_iff, sameI_off, prSI, msSI, or_false] at hn ⊢
  repeat' (first | apply And.intro | intro (_ : Nat → AV) i hi | intro _)
  all_goals (try simp (disch := omega) only [wrap64] at *)
  all_goals first
    | omega
    | exact ⟨0, ⟨Nat.zero_le _, fun k hk => by omega⟩, rfl⟩
    | (refine ⟨i + 1, ⟨by omega, fun k hk => ?_⟩, by omega, by omega⟩
       by_cases e : k = i
       · subst e; omega
       · exact hi.2 k (by omega))
    | exact hi.2 _ (by omega)
    | (exfalso; have hc := (‹n = m ∧ ∀ k, k < n → a k = a' k›).2 i (by omega); omega)
    | (trace_state; fail)
set_option maxRecDepth 100000 in
theorem smSM (hm : Tryz.prog.follows .mixedOrders = true) : SmCall Tryz.prog 16 (fun args h => (ctS gSM fSM args h).sel) :=
  ctS_ok hm noSm_ok (by decide) (fun ds a hd => by
    unfold fSM at hd
    split at hd
    · rename_i nil n a b c nil2 m a' b' c'
      simp only [Option.some.injEq, Prod.mk.injEq] at hd
      obtain ⟨h1, rfl⟩ := hd
      have h2 := @goalSM_ok
      unfold goalSM at h2
      exact ⟨annSM n a b c a' b' c', 1000, @h2 nil n a b c nil2 m a' b' c' h1⟩
    · cases hd)
set_option maxRecDepth 100000 in
theorem smSI (hm : Tryz.prog.follows .mixedOrders = true) : SmCall Tryz.prog 18 (fun args h => (ctS gSI fSI args h).sel) :=
  ctS_ok hm noSm_ok (by decide) (fun ds a hd => by
    unfold fSI at hd
    split at hd
    · rename_i nil n a nil2 m a'
      simp only [Option.some.injEq, Prod.mk.injEq] at hd
      obtain ⟨h1, rfl⟩ := hd
      have h2 := @goalSI_ok
      unfold goalSI at h2
      exact ⟨annSI n a a', 1000, @h2 nil n a nil2 m a' h1⟩
    · cases hd)
end Go.Proofs.YtlfehgagnelbhaaGreatDoor.Ex
