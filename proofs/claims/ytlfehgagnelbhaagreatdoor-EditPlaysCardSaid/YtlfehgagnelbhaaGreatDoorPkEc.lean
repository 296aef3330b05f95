/- Contracts: the slot of a handle, whether a handle is right, a word locked. The state of a change of a leaf, as the program and the document hold it; what each does with it (definitions). The steps of a change of a leaf: what was defined in CEd is what the program and the document do. The steps of a change of a leaf, told an access: what was defined in CEd is what the program and the document do. -/
import Derived.Test.YtlfehgagnelbhaaGreatDoorPkEa
import Derived.Test.YtlfehgagnelbhaaGreatDoorPkEb
import Derived.Test.YtlfehgagnelbhaaGreatDoorCP3
import Derived.Test.YtlfehgagnelbhaaGreatDoorWi
import Derived.Test.YtlfehgagnelbhaaGreatDoorSb
namespace Go.Proofs.YtlfehgagnelbhaaGreatDoor.Ex
open Go

-- OPEN slotC hrC lockC
def slotC (h : Int) : Int := h % 65536
def hrC (h s : Int) : Bool := decide (1 ≤ h % 65536 ∧ h % 65536 ≤ s ∧ h < 1099511627776)
def lockC (v : Int) : Int := v / 2 * 2 + 1
def fSl16 (ds : List Da) : Option (Bool × AV) :=
  match ds with
  | [.cell (.v (.y .u64 w))] => some (inU w, .y .i64 (slotC w))
  | _ => none
def gSlgoal (P : Program) (f : FuncId) : Prop := ∀ (w : Int), inU w = true → wxF P noSm (fun _ => none) 1000 f (canA gW (dW w) []).1 (heapOf (canA gW (dW w) []).2) (fun v _ => cmpC (.y .i64 (slotC w)) v)
abbrev gHr : List Ag := [.cell none, .cell none]
abbrev dHr (w s : Int) : List Da := [.cell (.v (.y .u64 w)), .cell (.v (.y .i64 s))]
def fHr (ds : List Da) : Option (Bool × AV) :=
  match ds with
  | [.cell (.v (.y .u64 w)), .cell (.v (.y .i64 s))] => some (inU w, .yb (hrC w s))
  | _ => none
def lSl16 : List (Nat × Sm) := [(65, .ct (ctS gW fSl16)), (12, .ct (ctS gW fSl16))]
def gHrgoal (P : Program) (f : FuncId) : Prop := ∀ (w s : Int), inU w = true → wxF P (smL lSl16) (fun _ => none) 1000 f (canA gHr (dHr w s) []).1 (heapOf (canA gHr (dHr w s) []).2) (fun v _ => cmpC (.yb (hrC w s)) v)
def goalSl16 : Prop := gSlgoal Tryz.prog 65
def goalSl16R : Prop := gSlgoal Tryz.prog 12
def goalHr : Prop := gHrgoal Tryz.prog 40
def goalHrR : Prop := gHrgoal Tryz.prog 42
def goalLock : Prop := gWgoal Tryz.prog 46 lockC
def goalLockR : Prop := gWgoal Tryz.prog 49 lockC
def goalSl16V : Prop := (∀ (w : Int), yAnd (yLe (0 : Int) w) (yLt w (18446744073709551616 : Int)) = true → (yLe (0 : Int) (0 : Int) = true → slotC w = yWrap IntKind.i64 (yBits BinOp.and IntKind.u64 (yShr IntKind.u64 w (0 : Int)) (65535 : Int))) ∧ (yLe (0 : Int) (0 : Int) = false → False))
set_option maxRecDepth 100000 in
theorem goalSl16_eq : goalSl16 = goalSl16V := by kernel_rfl
set_option maxRecDepth 100000 in
theorem goalSl16_vc : goalSl16V := by
  unfold goalSl16V
  intro w h
  obtain ⟨n, rfl, hn⟩ := inU_nat h
  have e : yBits .and .u64 (yShr .u64 (n : Int) 0) 65535 = ((n / 2 ^ 0 % 2 ^ 16 : Nat) : Int) := field_get (at_ := 0) (n := 16) hn (by omega) (by omega) rfl
  rw [e]
  refine ⟨fun _ => ?_, fun h => by cases h⟩
  rw [wrap64 (by omega) (by omega)]
  unfold slotC; omega
set_option maxRecDepth 100000 in
theorem goalSl16_tt : (goalSl16) = True := goalSl16_eq.trans (eq_true goalSl16_vc)
theorem goalSl16_ok : goalSl16 := @ft' goalSl16 goalSl16_tt
def goalSl16RV : Prop := (∀ (w : Int), yAnd (yLe (0 : Int) w) (yLt w (18446744073709551616 : Int)) = true → (yEq (65536 : Int) (0 : Int) = true → False) ∧ (yEq (65536 : Int) (0 : Int) = false → slotC w = yWrap IntKind.i64 (yRem w (65536 : Int))))
set_option maxRecDepth 100000 in
theorem goalSl16R_eq : goalSl16R = goalSl16RV := by kernel_rfl
set_option maxRecDepth 100000 in
theorem goalSl16R_vc : goalSl16RV := by
  unfold goalSl16RV
  intro w h
  obtain ⟨n, rfl, hn⟩ := inU_nat h
  have e : yRem (n : Int) 65536 = ((n % 65536 : Nat) : Int) := rem_u (c := 65536)
  rw [e]
  refine ⟨fun h => by rw [yEq_t] at h; omega, fun _ => ?_⟩
  rw [wrap64 (by omega) (by omega)]
  unfold slotC; omega
set_option maxRecDepth 100000 in
theorem goalSl16R_tt : (goalSl16R) = True := goalSl16R_eq.trans (eq_true goalSl16R_vc)
theorem goalSl16R_ok : goalSl16R := @ft' goalSl16R goalSl16R_tt
theorem shr40 {w : Nat} : yShr .u64 (w : Int) 40 = ((w / 1099511627776 : Nat) : Int) := by
  have h : (2 : Int) ^ (min (40 : Int).toNat (IntKind.bits .u64)) = 1099511627776 := by decide
  unfold yShr
  rw [h, Int.fdiv_eq_ediv_of_nonneg _ (by omega)]
  omega
theorem hrC_t {w s : Int} : hrC w s = true ↔ (1 ≤ w % 65536 ∧ w % 65536 ≤ s ∧ w < 1099511627776) := decide_eq_true_iff
theorem hrC_f {w s : Int} : hrC w s = false ↔ ¬ (1 ≤ w % 65536 ∧ w % 65536 ≤ s ∧ w < 1099511627776) := decide_eq_false_iff_not
def goalHrV : Prop := (∀ (w s : Int), yAnd (yLe (0 : Int) w) (yLt w (18446744073709551616 : Int)) = true → (yAnd (yLe (0 : Int) w) (yLt w (18446744073709551616 : Int)) = true → (yLe (1 : Int) (slotC w) = true → (yAnd (yLe (0 : Int) w) (yLt w (18446744073709551616 : Int)) = true → (yLe (slotC w) s = true → (yLe (0 : Int) (40 : Int) = true → hrC w s = yEq (yShr IntKind.u64 w (40 : Int)) (0 : Int)) ∧ (yLe (0 : Int) (40 : Int) = false → False)) ∧ (yLe (slotC w) s = false → hrC w s = false)) ∧ (yAnd (yLe (0 : Int) w) (yLt w (18446744073709551616 : Int)) = false → False)) ∧ (yLe (1 : Int) (slotC w) = false → hrC w s = false)) ∧ (yAnd (yLe (0 : Int) w) (yLt w (18446744073709551616 : Int)) = false → False))
set_option maxRecDepth 100000 in
theorem goalHr_eq : goalHr = goalHrV := by kernel_rfl
set_option maxRecDepth 100000 in
theorem goalHr_vc : goalHrV := by
  unfold goalHrV
  intro w s h
  obtain ⟨n, rfl, hn⟩ := inU_nat h
  rw [shr40]
  have hs : slotC (n : Int) = (n : Int) % 65536 := rfl
  simp only [yAnd_t, yAnd_f, yLt_t, yLt_f, yLe_t, yLe_f, hs, hrC_f]
  repeat' (first | apply And.intro | intro _)
  all_goals first
    | (exfalso; omega)
    | omega
    | (cases hq : yEq ((n / 1099511627776 : Nat) : Int) 0 with
       | true => rw [yEq_t] at hq; rw [hrC_t]; omega
       | false => rw [yEq_f] at hq; rw [hrC_f]; omega)
set_option maxRecDepth 100000 in
theorem goalHr_tt : (goalHr) = True := goalHr_eq.trans (eq_true goalHr_vc)
theorem goalHr_ok : goalHr := @ft' goalHr goalHr_tt
def goalHrRV : Prop := (∀ (w s : Int), yAnd (yLe (0 : Int) w) (yLt w (18446744073709551616 : Int)) = true → (yAnd (yLe (0 : Int) w) (yLt w (18446744073709551616 : Int)) = true → (yLe (1 : Int) (slotC w) = true → (yAnd (yLe (0 : Int) w) (yLt w (18446744073709551616 : Int)) = true → (yLe (slotC w) s = true → hrC w s = yLt w (1099511627776 : Int)) ∧ (yLe (slotC w) s = false → hrC w s = false)) ∧ (yAnd (yLe (0 : Int) w) (yLt w (18446744073709551616 : Int)) = false → False)) ∧ (yLe (1 : Int) (slotC w) = false → hrC w s = false)) ∧ (yAnd (yLe (0 : Int) w) (yLt w (18446744073709551616 : Int)) = false → False))
set_option maxRecDepth 100000 in
theorem goalHrR_eq : goalHrR = goalHrRV := by kernel_rfl
set_option maxRecDepth 100000 in
theorem goalHrR_vc : goalHrRV := by
  unfold goalHrRV
  intro w s h
  obtain ⟨n, rfl, hn⟩ := inU_nat h
  have hs : slotC (n : Int) = (n : Int) % 65536 := rfl
  simp only [yAnd_t, yAnd_f, yLt_t, yLt_f, yLe_t, yLe_f, hs, hrC_f]
  repeat' (first | apply And.intro | intro _)
  all_goals first
    | (exfalso; omega)
    | omega
    | (cases hq : yLt (n : Int) 1099511627776 with
       | true => rw [yLt_t] at hq; rw [hrC_t]; omega
       | false => rw [yLt_f] at hq; rw [hrC_f]; omega)
set_option maxRecDepth 100000 in
theorem goalHrR_tt : (goalHrR) = True := goalHrR_eq.trans (eq_true goalHrR_vc)
theorem goalHrR_ok : goalHrR := @ft' goalHrR goalHrR_tt
def goalLockV : Prop := (∀ (w : Int), yAnd (yLe (0 : Int) w) (yLt w (18446744073709551616 : Int)) = true → lockC w = yBits BinOp.or IntKind.u64 (yBits BinOp.andNot IntKind.u64 w (1 : Int)) (1 : Int))
set_option maxRecDepth 100000 in
theorem goalLock_eq : goalLock = goalLockV := by kernel_rfl
set_option maxRecDepth 100000 in
theorem goalLock_vc : goalLockV := by
  unfold goalLockV
  intro w h
  obtain ⟨n, rfl, hn⟩ := inU_nat h
  rw [lockB hn]
  unfold lockC; omega
set_option maxRecDepth 100000 in
theorem goalLock_tt : (goalLock) = True := goalLock_eq.trans (eq_true goalLock_vc)
theorem goalLock_ok : goalLock := @ft' goalLock goalLock_tt
def goalLockRV : Prop := (∀ (w : Int), yAnd (yLe (0 : Int) w) (yLt w (18446744073709551616 : Int)) = true → (yEq (2 : Int) (0 : Int) = true → False) ∧ (yEq (2 : Int) (0 : Int) = false → (yEq (2 : Int) (0 : Int) = true → False) ∧ (yEq (2 : Int) (0 : Int) = false → (yEq (2 : Int) (0 : Int) = true → False) ∧ (yEq (2 : Int) (0 : Int) = false → (yEq (4 : Int) (0 : Int) = true → False) ∧ (yEq (4 : Int) (0 : Int) = false → (yEq (274877906944 : Int) (0 : Int) = true → False) ∧ (yEq (274877906944 : Int) (0 : Int) = false → (yEq (1099511627776 : Int) (0 : Int) = true → False) ∧ (yEq (1099511627776 : Int) (0 : Int) = false → (yEq (16777216 : Int) (0 : Int) = true → False) ∧ (yEq (16777216 : Int) (0 : Int) = false → (yEq (274877906944 : Int) (0 : Int) = true → False) ∧ (yEq (274877906944 : Int) (0 : Int) = false → (yEq (yRem (yQuo IntKind.u64 w (2 : Int)) (2 : Int)) (1 : Int) = true → lockC w = yWrap IntKind.u64 (yAdd (yWrap IntKind.u64 (yAdd (yWrap IntKind.u64 (yAdd (yWrap IntKind.u64 (yMul (yRem (yQuo IntKind.u64 w (1099511627776 : Int)) (16777216 : Int)) (1099511627776 : Int))) (yWrap IntKind.u64 (yMul (yRem (yRem (yQuo IntKind.u64 w (4 : Int)) (274877906944 : Int)) (274877906944 : Int)) (4 : Int))))) (2 : Int))) (1 : Int))) ∧ (yEq (yRem (yQuo IntKind.u64 w (2 : Int)) (2 : Int)) (1 : Int) = false → lockC w = yWrap IntKind.u64 (yAdd (yWrap IntKind.u64 (yAdd (yWrap IntKind.u64 (yMul (yRem (yQuo IntKind.u64 w (1099511627776 : Int)) (16777216 : Int)) (1099511627776 : Int))) (yWrap IntKind.u64 (yMul (yRem (yRem (yQuo IntKind.u64 w (4 : Int)) (274877906944 : Int)) (274877906944 : Int)) (4 : Int))))) (1 : Int))))))))))))
set_option maxRecDepth 100000 in
theorem goalLockR_eq : goalLockR = goalLockRV := by kernel_rfl
set_option maxRecDepth 100000 in
theorem goalLockR_vc : goalLockRV := by
  unfold goalLockRV
  intro w h
  obtain ⟨n, rfl, hn⟩ := inU_nat h
  have a1 : yQuo .u64 (n : Int) 2 = ((n / 2 : Nat) : Int) := quo_u (c := 2) hn
  have a2 : yQuo .u64 (n : Int) 4 = ((n / 4 : Nat) : Int) := quo_u (c := 4) hn
  have a3 : yQuo .u64 (n : Int) 1099511627776 = ((n / 1099511627776 : Nat) : Int) := quo_u (c := 1099511627776) hn
  have a4 : yRem ((n / 2 : Nat) : Int) 2 = ((n / 2 % 2 : Nat) : Int) := rem_u (c := 2)
  have a5 : yRem ((n / 4 : Nat) : Int) 274877906944 = ((n / 4 % 274877906944 : Nat) : Int) := rem_u (c := 274877906944)
  have a6 : yRem ((n / 1099511627776 : Nat) : Int) 16777216 = ((n / 1099511627776 % 16777216 : Nat) : Int) := rem_u (c := 16777216)
  have a8 : yRem ((n / 4 % 274877906944 : Nat) : Int) 274877906944 = ((n / 4 % 274877906944 % 274877906944 : Nat) : Int) := rem_u (c := 274877906944)
  simp only [a1, a2, a3, a4, a5, a6, a8]
  have b1 : yWrap .u64 (yMul ((n / 1099511627776 % 16777216 : Nat) : Int) 1099511627776) = ((n / 1099511627776 % 16777216 * 1099511627776 : Nat) : Int) := yWrapN (n := n / 1099511627776 % 16777216 * 1099511627776) (by omega)
  have b2 : yWrap .u64 (yMul ((n / 4 % 274877906944 % 274877906944 : Nat) : Int) 4) = ((n / 4 % 274877906944 % 274877906944 * 4 : Nat) : Int) := yWrapN (n := n / 4 % 274877906944 % 274877906944 * 4) (by omega)
  have b3 : yWrap .u64 (yAdd ((n / 1099511627776 % 16777216 * 1099511627776 : Nat) : Int) ((n / 4 % 274877906944 % 274877906944 * 4 : Nat) : Int)) = ((n / 1099511627776 % 16777216 * 1099511627776 + n / 4 % 274877906944 % 274877906944 * 4 : Nat) : Int) := yWrapN (n := n / 1099511627776 % 16777216 * 1099511627776 + n / 4 % 274877906944 % 274877906944 * 4) (by omega)
  have b4 : yWrap .u64 (yAdd ((n / 1099511627776 % 16777216 * 1099511627776 + n / 4 % 274877906944 % 274877906944 * 4 : Nat) : Int) 2) = ((n / 1099511627776 % 16777216 * 1099511627776 + n / 4 % 274877906944 % 274877906944 * 4 + 2 : Nat) : Int) := yWrapN (n := n / 1099511627776 % 16777216 * 1099511627776 + n / 4 % 274877906944 % 274877906944 * 4 + 2) (by omega)
  have b5 : yWrap .u64 (yAdd ((n / 1099511627776 % 16777216 * 1099511627776 + n / 4 % 274877906944 % 274877906944 * 4 : Nat) : Int) 1) = ((n / 1099511627776 % 16777216 * 1099511627776 + n / 4 % 274877906944 % 274877906944 * 4 + 1 : Nat) : Int) := yWrapN (n := n / 1099511627776 % 16777216 * 1099511627776 + n / 4 % 274877906944 % 274877906944 * 4 + 1) (by omega)
  have b6 : yWrap .u64 (yAdd ((n / 1099511627776 % 16777216 * 1099511627776 + n / 4 % 274877906944 % 274877906944 * 4 + 2 : Nat) : Int) 1) = ((n / 1099511627776 % 16777216 * 1099511627776 + n / 4 % 274877906944 % 274877906944 * 4 + 2 + 1 : Nat) : Int) := yWrapN (n := n / 1099511627776 % 16777216 * 1099511627776 + n / 4 % 274877906944 % 274877906944 * 4 + 2 + 1) (by omega)
  simp only [b1, b2, b3, b4, b5, b6]
  simp only [yEq_t, yEq_f]
  repeat' (first | apply And.intro | intro _)
  all_goals first
    | (exfalso; omega)
    | (clear b1 b2 b3 b4 b5 b6; unfold lockC; omega)
set_option maxRecDepth 100000 in
theorem goalLockR_tt : (goalLockR) = True := goalLockR_eq.trans (eq_true goalLockR_vc)
theorem goalLockR_ok : goalLockR := @ft' goalLockR goalLockR_tt
set_option maxRecDepth 100000 in
theorem smSl16 {f : FuncId} (hm : Tryz.prog.follows .mixedOrders = true) (h : gSlgoal Tryz.prog f) : SmCall Tryz.prog f (fun args h => (ctS gW fSl16 args h).sel) :=
  ctS_ok hm noSm_ok (by decide) (fun ds a hd => by
    unfold fSl16 at hd
    split at hd
    · simp only [Option.some.injEq, Prod.mk.injEq] at hd
      obtain ⟨h1, rfl⟩ := hd
      exact ⟨_, 1000, h _ h1⟩
    · cases hd)
set_option maxRecDepth 100000 in
theorem lSl16_ok (hm : Tryz.prog.follows .mixedOrders = true) : SmAll Tryz.prog lSl16 := ⟨smSl16 hm @goalSl16_ok, smSl16 hm @goalSl16R_ok, trivial⟩
set_option maxRecDepth 100000 in
theorem smHr {f : FuncId} (hm : Tryz.prog.follows .mixedOrders = true) (h : gHrgoal Tryz.prog f) : SmCall Tryz.prog f (fun args h => (ctS gHr fHr args h).sel) :=
  ctS_ok hm (smL_ok (lSl16_ok hm)) (by decide) (fun ds a hd => by
    unfold fHr at hd
    split at hd
    · simp only [Option.some.injEq, Prod.mk.injEq] at hd
      obtain ⟨h1, rfl⟩ := hd
      exact ⟨_, 1000, h _ _ h1⟩
    · cases hd)
end Go.Proofs.YtlfehgagnelbhaaGreatDoor.Ex
namespace Go.Proofs.YtlfehgagnelbhaaGreatDoor.Ex
open Go

-- OPEN qH qV qN qKd qIx qKey qVal qAt qNb qKn qNk qK qVn qNv qW qLk qWn qNw qWa qWb plE rdE prePl nmE mkNil mkN tkE outE mkE maE invE wtK wtA wtO wtN dnE oldE okNw selI selB invO
structure EdS where
  h : Int
  v : Int
  n : Int
  kd : Int
  ix : Int
  key : Int
  val : Int
  at_ : Int
  nb : Bool
  kn : Bool
  nk : Nat
  k : Nat → Int
  vn : Bool
  nv : Nat
  w : Nat → Int
  lk : Int
  wn : Bool
  nw : Nat
  wa : Nat → Int
  wb : Nat → Int
instance : Inhabited EdS := ⟨⟨0, 0, 0, 0, 0, 0, 0, 0, false, true, 0, fun _ => 0, true, 0, fun _ => 0, 0, true, 0, fun _ => 0, fun _ => 0⟩⟩
def qH (E : EdS) : Int := E.h
def qV (E : EdS) : Int := E.v
def qN (E : EdS) : Int := E.n
def qKd (E : EdS) : Int := E.kd
def qIx (E : EdS) : Int := E.ix
def qKey (E : EdS) : Int := E.key
def qVal (E : EdS) : Int := E.val
def qAt (E : EdS) : Int := E.at_
def qNb (E : EdS) : Bool := E.nb
def qKn (E : EdS) : Bool := E.kn
def qNk (E : EdS) : Nat := E.nk
def qK (E : EdS) (i : Nat) : Int := E.k i
def qVn (E : EdS) : Bool := E.vn
def qNv (E : EdS) : Nat := E.nv
def qW (E : EdS) (i : Nat) : Int := E.w i
def qLk (E : EdS) : Int := E.lk
def qWn (E : EdS) : Bool := E.wn
def qNw (E : EdS) : Nat := E.nw
def qWa (E : EdS) (i : Nat) : Int := E.wa i
def qWb (E : EdS) (i : Nat) : Int := E.wb i
abbrev plU : Sx := .pl [.int .u64]
abbrev plW : Sx := .pl [.int .i64, .int .u64]
abbrev plM : Sx := .pl [.int .i64, .int .u64, .int .u64]
abbrev sEdP : Sx := .agg [.sc, .sc, .sc, .sc, .sc, .sc, .sc, .sc, .sc, .sc, .sc, .sc, .sc, .sc, .sc, .sc, .sc, .sc, .sc, .sc, .sc, plU, plU, .sc, plW, .sc, .sc, .sc]
abbrev sEdR : Sx := .agg [.sc, .sc, .sc, .sc, .sc, .sc, .sc, .sc, .sc, .sc, plU, plU, .sc, plW, plM]
/-- The document's marks: none, or one. -/
def mkNil (k : Int) : Bool := decide (k = 0)
def mkN (k : Int) : Nat := if k = 0 then 0 else 1
abbrev dEdP (sp sv sn si : Int) (inr : Bool) (dp ls lt lf ll lp : Int) (E : EdS) (po mk ma mb : Int) : Dx := .l [.v (.y .u64 sp), .v (.y .u64 sv), .v (.y .i64 sn), .v (.y .i64 si), .v (.y .u64 (qH E)), .v (.y .u64 (qV E)), .v (.y .i64 (qN E)), .v (.yb inr), .v (.y .i64 dp), .v (.y .i64 ls), .v (.y .i64 lt), .v (.y .i64 lf), .v (.y .i64 ll), .v (.y .i64 lp), .v (.y .i64 (qKd E)), .v (.y .i64 (qIx E)), .v (.y .u64 (qKey E)), .v (.y .u64 (qVal E)), .v (.y .i64 (qAt E)), .v (.y .i64 po), .v (.yb (qNb E)), .rows (qKn E) (qNk E) [.int .u64 (qK E)], .rows (qVn E) (qNv E) [.int .u64 (qW E)], .v (.y .u64 (qLk E)), .rows (qWn E) (qNw E) [.int .i64 (qWa E), .int .u64 (qWb E)], .v (.y .i64 mk), .v (.y .u64 ma), .v (.y .u64 mb)]
abbrev dEdR (E : EdS) (po mk ma : Int) : Dx := .l [.v (.y .u64 (qH E)), .v (.y .u64 (qV E)), .v (.y .i64 (qN E)), .v (.y .i64 (qKd E)), .v (.y .i64 (qIx E)), .v (.y .u64 (qKey E)), .v (.y .u64 (qVal E)), .v (.y .i64 (qAt E)), .v (.y .i64 po), .v (.yb (qNb E)), .rows (qKn E) (qNk E) [.int .u64 (qK E)], .rows (qVn E) (qNv E) [.int .u64 (qW E)], .v (.y .u64 (qLk E)), .rows (qWn E) (qNw E) [.int .i64 (qWa E), .int .u64 (qWb E)], .rows (mkNil mk) (mkN mk) [.int .i64 (fun _ => mk), .int .u64 (fun _ => ma), .int .u64 (fun _ => 0)]]

/-- The writes that are planned. -/
def plE (cs ct cf : Int) (E : EdS) : List (Int × Int) :=
  if E.kd = 1 then setL cs ct cf (slotC E.h) E.v E.nb E.nk E.k E.nv E.ix E.val
  else if E.kd = 2 then insL cs ct cf (slotC E.h) E.v E.nb E.nk E.k E.nv E.w E.ix E.key E.val
  else remL cs ct cf (slotC E.h) E.v E.nb E.nk E.k E.nv E.w E.ix
def rdE (cs ct cf : Int) (E : EdS) : EdS :=
  if (E.nk : Int) < E.n then { E with at_ := 2 } else if (E.nv : Int) < E.n then { E with at_ := 3 }
  else { E with wn := rE (plE cs ct cf E), nw := rN (plE cs ct cf E), wa := rA (plE cs ct cf E), wb := rB (plE cs ct cf E), at_ := if rE (plE cs ct cf E) then 5 else 4 }
def snocI (n : Nat) (k : Nat → Int) (x : Int) (j : Nat) : Int := if j < n then k j else x
/-- A list's function, 0 behind its end; a state so. -/
def trI (n : Nat) (k : Nat → Int) (j : Nat) : Int := if j < n then k j else 0
def nmE (E : EdS) : EdS := { E with k := trI E.nk E.k, w := trI E.nv E.w, wa := trI E.nw E.wa, wb := trI E.nw E.wb }
def tkE (cs ct cf : Int) (E : EdS) (got : Int) : EdS :=
  if E.at_ = 1 then (if got = 1 then rdE cs ct cf (nmE E) else { E with at_ := 0 })
  else if E.at_ = 2 then rdE cs ct cf (nmE { E with kn := false, nk := E.nk + 1, k := snocI E.nk E.k got })
  else if E.at_ = 3 then rdE cs ct cf (nmE { E with vn := false, nv := E.nv + 1, w := snocI E.nv E.w got })
  else if E.at_ = 4 then { E with nw := E.nw - 1, wa := fun j => E.wa (1 + j), wb := fun j => E.wb (1 + j), at_ := if E.nw = 1 then 0 else 4 }
  else if E.at_ = 5 then { E with at_ := 0 } else E
def outE (E : EdS) (po got : Int) : Int :=
  if E.at_ = 1 then (if got = 1 then po else 3) else if E.at_ = 4 then (if E.nw = 1 then 1 else po) else if E.at_ = 5 then 3 else po
def mkE (E : EdS) (got : Int) : Int := if E.at_ = 1 then (if got = 1 then 0 else 3) else if E.at_ = 4 then (if E.nw = 1 then 12 else 0) else 0
def maE (E : EdS) (got : Int) : Int := if E.at_ = 1 then (if got = 1 then 0 else E.h) else 0
/-- What is true of a state all along. -/
def invE (cs ct cf cl cp : Int) (E : EdS) : Bool :=
  decide (inU E.h = true ∧ (E.at_ = 0 ∨ (rightC cs ct cf cl cp = true ∧ inU E.v = true ∧ (1 ≤ slotC E.h ∧ slotC E.h ≤ cs) ∧ E.nb = false ∧ (1 ≤ E.kd ∧ E.kd ≤ 3) ∧ (0 ≤ E.n ∧ E.n ≤ cf) ∧
    ((E.at_ = 1 ∧ E.nk = 0 ∧ E.nv = 0) ∨ (E.at_ = 2 ∧ (E.nk : Int) < E.n ∧ E.nv = 0) ∨ (E.at_ = 3 ∧ (E.nk : Int) = E.n ∧ (E.nv : Int) < E.n) ∨ (E.at_ = 4 ∧ 0 < E.nw ∧ E.nw ≤ 1000000 ∧ (E.kd = 2 ∨ (0 ≤ E.ix ∧ E.ix < E.nv))) ∨ E.at_ = 5))))
def invO (E : EdS) (po : Int) : Bool := decide (E.at_ = 0 → po = 1 → E.kd = 2 ∨ (0 ≤ E.ix ∧ E.ix < E.nv))
/-- The access that is wanted. -/
def wtK (E : EdS) : Int := if E.at_ = 1 then 3 else if E.at_ = 2 then 1 else if E.at_ = 3 then 1 else if E.at_ = 4 then 2 else if E.at_ = 5 then 2 else 0
def wtA (cs ct cf : Int) (E : EdS) : Int :=
  if E.at_ = 1 then verC cs ct cf (slotC E.h) else if E.at_ = 2 then keyC cs ct cf (slotC E.h) E.nk else if E.at_ = 3 then valC cs ct cf (slotC E.h) E.nv else if E.at_ = 4 then E.wa 0 else if E.at_ = 5 then verC cs ct cf (slotC E.h) else 0
def wtO (E : EdS) : Int := if E.at_ = 1 then E.v else 0
def wtN (E : EdS) : Int := if E.at_ = 1 then lockC E.v else if E.at_ = 4 then E.wb 0 else if E.at_ = 5 then E.v else 0
def dnE (E : EdS) (po : Int) : Int := if E.at_ = 0 then (if po = 1 then 1 else 3) else 0
def oldE (E : EdS) (po : Int) : Int := if E.at_ = 0 ∧ po = 1 ∧ E.kd ≠ 2 then E.w (yNat E.ix) else 0
def selI (b : Bool) (x : Int) : Int := if b then x else 0
def selB (b : Bool) (x : Bool) : Bool := b && x
def okNw (h n kd : Int) (inr : Bool) (cs cf : Int) : Bool := hrC h cs && decide (1 ≤ kd ∧ kd ≤ 3 ∧ inr = false ∧ 0 ≤ n ∧ n ≤ cf)

/-- What a plan asks. -/
def prePl (cs ct cf cl cp : Int) (E : EdS) : Bool := yAnd (rightC cs ct cf cl cp) (yAnd (inU (qH E)) (yAnd (inU (qV E)) (yAnd (yNle (qNk E) 80) (yNle (qNv E) 80))))
def fPlP (ds : List Dx) : Option (Bool × Dx × List (List Dx)) :=
  match ds with
  | [.l [.v (.y .u64 _), .v (.y .u64 _), .v (.y .i64 _), .v (.y .i64 _), .v (.y .u64 h), .v (.y .u64 v), .v (.y .i64 n), .v (.yb _), .v (.y .i64 _), .v (.y .i64 ls), .v (.y .i64 lt), .v (.y .i64 lf), .v (.y .i64 ll), .v (.y .i64 lp), .v (.y .i64 kd), .v (.y .i64 ix), .v (.y .u64 key), .v (.y .u64 val), .v (.y .i64 at_), .v (.y .i64 _), .v (.yb nb), .rows kn nk [.int .u64 k], .rows vn nv [.int .u64 w], .v (.y .u64 lk), .rows wn nw [.int .i64 wa, .int .u64 wb], .v (.y .i64 _), .v (.y .u64 _), .v (.y .u64 _)]] => some (prePl ls lt lf ll lp ⟨h, v, n, kd, ix, key, val, at_, nb, kn, nk, k, vn, nv, w, lk, wn, nw, wa, wb⟩, rowsW (plE ls lt lf ⟨h, v, n, kd, ix, key, val, at_, nb, kn, nk, k, vn, nv, w, lk, wn, nw, wa, wb⟩), [])
  | _ => none
def fPlR (ds : List Dx) : Option (Bool × Dx × List (List Dx)) :=
  match ds with
  | [.l [.v (.y .i64 cs), .v (.y .i64 ct), .v (.y .i64 cf), .v (.y .i64 cl), .v (.y .i64 cp)], .l [.v (.y .u64 h), .v (.y .u64 v), .v (.y .i64 n), .v (.y .i64 kd), .v (.y .i64 ix), .v (.y .u64 key), .v (.y .u64 val), .v (.y .i64 at_), .v (.y .i64 _), .v (.yb nb), .rows kn nk [.int .u64 k], .rows vn nv [.int .u64 w], .v (.y .u64 lk), .rows wn nw [.int .i64 wa, .int .u64 wb], .rows _ _ [.int .i64 _, .int .u64 _, .int .u64 _]]] => some (prePl cs ct cf cl cp ⟨h, v, n, kd, ix, key, val, at_, nb, kn, nk, k, vn, nv, w, lk, wn, nw, wa, wb⟩, rowsW (plE cs ct cf ⟨h, v, n, kd, ix, key, val, at_, nb, kn, nk, k, vn, nv, w, lk, wn, nw, wa, wb⟩), [])
  | _ => none
def fRdP (ds : List Dx) : Option (Bool × Dx × List (List Dx)) :=
  match ds with
  | [.l [.v (.y .u64 sp), .v (.y .u64 sv), .v (.y .i64 sn), .v (.y .i64 si), .v (.y .u64 h), .v (.y .u64 v), .v (.y .i64 n), .v (.yb inr), .v (.y .i64 dp), .v (.y .i64 ls), .v (.y .i64 lt), .v (.y .i64 lf), .v (.y .i64 ll), .v (.y .i64 lp), .v (.y .i64 kd), .v (.y .i64 ix), .v (.y .u64 key), .v (.y .u64 val), .v (.y .i64 at_), .v (.y .i64 po), .v (.yb nb), .rows kn nk [.int .u64 k], .rows vn nv [.int .u64 w], .v (.y .u64 lk), .rows wn nw [.int .i64 wa, .int .u64 wb], .v (.y .i64 mk), .v (.y .u64 ma), .v (.y .u64 mb)]] => some (prePl ls lt lf ll lp ⟨h, v, n, kd, ix, key, val, at_, nb, kn, nk, k, vn, nv, w, lk, wn, nw, wa, wb⟩, dEdP sp sv sn si inr dp ls lt lf ll lp (rdE ls lt lf (nmE ⟨h, v, n, kd, ix, key, val, at_, nb, kn, nk, k, vn, nv, w, lk, wn, nw, wa, wb⟩)) po mk ma mb, [])
  | _ => none
abbrev dEdRm (E : EdS) (po : Int) (mn : Bool) (ml : Nat) (m1 m2 m3 : Nat → Int) : Dx := (match dEdR E po 0 0 with | .l l => .l (l.take 14 ++ [.rows mn ml [.int .i64 m1, .int .u64 m2, .int .u64 m3]]) | d => d)
def fRdR (ds : List Dx) : Option (Bool × Dx × List (List Dx)) :=
  match ds with
  | [.l [.v (.y .i64 cs), .v (.y .i64 ct), .v (.y .i64 cf), .v (.y .i64 cl), .v (.y .i64 cp)], .l [.v (.y .u64 h), .v (.y .u64 v), .v (.y .i64 n), .v (.y .i64 kd), .v (.y .i64 ix), .v (.y .u64 key), .v (.y .u64 val), .v (.y .i64 at_), .v (.y .i64 po), .v (.yb nb), .rows kn nk [.int .u64 k], .rows vn nv [.int .u64 w], .v (.y .u64 lk), .rows wn nw [.int .i64 wa, .int .u64 wb], .rows mn ml [.int .i64 m1, .int .u64 m2, .int .u64 m3]]] => some (prePl cs ct cf cl cp ⟨h, v, n, kd, ix, key, val, at_, nb, kn, nk, k, vn, nv, w, lk, wn, nw, wa, wb⟩, dEdRm (rdE cs ct cf (nmE ⟨h, v, n, kd, ix, key, val, at_, nb, kn, nk, k, vn, nv, w, lk, wn, nw, wa, wb⟩)) po mn ml m1 m2 m3, [])
  | _ => none
def lPl : List (Nat × Sm) := [(65, .ct (ctS gW fSl16)), (12, .ct (ctS gW fSl16)),
  (81, .ct (ctX [sConf, sPart, .sc, .sc] ownW fSet)), (84, .ct (ctX [sConf, sPart, .sc, .sc] ownW fSet)),
  (82, .ct (ctX [sConf, sPart, .sc, .sc, .sc] ownW fIns)), (85, .ct (ctX [sConf, sPart, .sc, .sc, .sc] ownW fIns)),
  (83, .ct (ctX [sConf, sPart, .sc] ownW fRem)), (86, .ct (ctX [sConf, sPart, .sc] ownW fRem))]
def lRd : List (Nat × Sm) := [(69, .ct (ctX [sEdP] ownW fPlP)), (70, .ct (ctX [sConf, sEdR] ownW fPlR))]
def lEd : List (Nat × Sm) := [(65, .ct (ctS gW fSl16)), (12, .ct (ctS gW fSl16)), (46, .ct (ctS gW (fW lockC))), (49, .ct (ctS gW (fW lockC))),
  (44, .ct (ctS gL1 (fL1 verC))), (47, .ct (ctS gL2 (fL2 keyC))), (48, .ct (ctS gL2 (fL2 valC))),
  (27, .ct (ctS gL1 (fR1 verC))), (50, .ct (ctS gL2 (fR2 keyC))), (38, .ct (ctS gL2 (fR2 valC))),
  (51, .ct (ctX [sEdP] sEdP fRdP)), (54, .ct (ctX [sConf, sEdR] sEdR fRdR)),
  (40, .ct (ctS gHr fHr)), (42, .ct (ctS gHr fHr)), (41, .ct (ctS gConf fRight))]
def goalPlP : Prop := ∀ (sp sv sn si : Int) (inr : Bool) (dp ls lt lf ll lp : Int) (E : EdS) (po mk ma mb : Int), prePl ls lt lf ll lp E = true →
  wxP Tryz.prog (smL lPl) (fun _ => none) 69 [sEdP] [dEdP sp sv sn si inr dp ls lt lf ll lp E po mk ma mb] ownW (rowsW (plE ls lt lf E)) []
def goalPlR : Prop := ∀ (cs ct cf cl cp : Int) (E : EdS) (po : Int) (mn : Bool) (ml : Nat) (m1 m2 m3 : Nat → Int), prePl cs ct cf cl cp E = true →
  wxP Tryz.prog (smL lPl) (fun _ => none) 70 [sConf, sEdR] [dCf cs ct cf cl cp, dEdRm E po mn ml m1 m2 m3] ownW (rowsW (plE cs ct cf E)) []
def goalRdP : Prop := ∀ (sp sv sn si : Int) (inr : Bool) (dp ls lt lf ll lp : Int) (E : EdS) (po mk ma mb : Int), prePl ls lt lf ll lp E = true →
  wxP Tryz.prog (smL lRd) (fun _ => none) 51 [sEdP] [dEdP sp sv sn si inr dp ls lt lf ll lp E po mk ma mb] sEdP (dEdP sp sv sn si inr dp ls lt lf ll lp (rdE ls lt lf (nmE E)) po mk ma mb) []
def goalRdR : Prop := ∀ (cs ct cf cl cp : Int) (E : EdS) (po : Int) (mn : Bool) (ml : Nat) (m1 m2 m3 : Nat → Int), prePl cs ct cf cl cp E = true →
  wxP Tryz.prog (smL lRd) (fun _ => none) 54 [sConf, sEdR] [dCf cs ct cf cl cp, dEdRm E po mn ml m1 m2 m3] sEdR (dEdRm (rdE cs ct cf (nmE E)) po mn ml m1 m2 m3) []
abbrev rW4 : Sx := .agg [.sc, .sc, .sc, .sc]
abbrev dW4 (cs ct cf : Int) (E : EdS) : Dx := .l [.v (.y .i64 (wtK E)), .v (.y .i64 (wtA cs ct cf E)), .v (.y .u64 (wtO E)), .v (.y .u64 (wtN E))]
def fTkP (ds : List Dx) : Option (Bool × Dx × List (List Dx)) :=
  match ds with
  | [.l [.v (.y .u64 sp), .v (.y .u64 sv), .v (.y .i64 sn), .v (.y .i64 si), .v (.y .u64 h), .v (.y .u64 v), .v (.y .i64 n), .v (.yb inr), .v (.y .i64 dp), .v (.y .i64 ls), .v (.y .i64 lt), .v (.y .i64 lf), .v (.y .i64 ll), .v (.y .i64 lp), .v (.y .i64 kd), .v (.y .i64 ix), .v (.y .u64 key), .v (.y .u64 val), .v (.y .i64 at_), .v (.y .i64 po), .v (.yb nb), .rows kn nk [.int .u64 k], .rows vn nv [.int .u64 w], .v (.y .u64 lk), .rows wn nw [.int .i64 wa, .int .u64 wb], .v (.y .i64 _), .v (.y .u64 _), .v (.y .u64 _)], .v (.y .u64 got)] => some (invE ls lt lf ll lp ⟨h, v, n, kd, ix, key, val, at_, nb, kn, nk, k, vn, nv, w, lk, wn, nw, wa, wb⟩, dEdP sp sv sn si inr dp ls lt lf ll lp (tkE ls lt lf ⟨h, v, n, kd, ix, key, val, at_, nb, kn, nk, k, vn, nv, w, lk, wn, nw, wa, wb⟩ got) (outE ⟨h, v, n, kd, ix, key, val, at_, nb, kn, nk, k, vn, nv, w, lk, wn, nw, wa, wb⟩ po got) (mkE ⟨h, v, n, kd, ix, key, val, at_, nb, kn, nk, k, vn, nv, w, lk, wn, nw, wa, wb⟩ got) (maE ⟨h, v, n, kd, ix, key, val, at_, nb, kn, nk, k, vn, nv, w, lk, wn, nw, wa, wb⟩ got) 0, [])
  | _ => none
def fWtP (ds : List Dx) : Option (Bool × Dx × List (List Dx)) :=
  match ds with
  | [.l [.v (.y .u64 _), .v (.y .u64 _), .v (.y .i64 _), .v (.y .i64 _), .v (.y .u64 h), .v (.y .u64 v), .v (.y .i64 n), .v (.yb _), .v (.y .i64 _), .v (.y .i64 ls), .v (.y .i64 lt), .v (.y .i64 lf), .v (.y .i64 ll), .v (.y .i64 lp), .v (.y .i64 kd), .v (.y .i64 ix), .v (.y .u64 key), .v (.y .u64 val), .v (.y .i64 at_), .v (.y .i64 _), .v (.yb nb), .rows kn nk [.int .u64 k], .rows vn nv [.int .u64 w], .v (.y .u64 lk), .rows wn nw [.int .i64 wa, .int .u64 wb], .v (.y .i64 _), .v (.y .u64 _), .v (.y .u64 _)]] => some (invE ls lt lf ll lp ⟨h, v, n, kd, ix, key, val, at_, nb, kn, nk, k, vn, nv, w, lk, wn, nw, wa, wb⟩, dW4 ls lt lf ⟨h, v, n, kd, ix, key, val, at_, nb, kn, nk, k, vn, nv, w, lk, wn, nw, wa, wb⟩, [])
  | _ => none
def fDnP (ds : List Dx) : Option (Bool × Dx × List (List Dx)) :=
  match ds with
  | [.l [.v (.y .u64 _), .v (.y .u64 _), .v (.y .i64 _), .v (.y .i64 _), .v (.y .u64 h), .v (.y .u64 v), .v (.y .i64 n), .v (.yb _), .v (.y .i64 _), .v (.y .i64 _), .v (.y .i64 _), .v (.y .i64 _), .v (.y .i64 _), .v (.y .i64 _), .v (.y .i64 kd), .v (.y .i64 ix), .v (.y .u64 key), .v (.y .u64 val), .v (.y .i64 at_), .v (.y .i64 po), .v (.yb nb), .rows kn nk [.int .u64 k], .rows vn nv [.int .u64 w], .v (.y .u64 lk), .rows wn nw [.int .i64 wa, .int .u64 wb], .v (.y .i64 _), .v (.y .u64 _), .v (.y .u64 _)]] => some (invO ⟨h, v, n, kd, ix, key, val, at_, nb, kn, nk, k, vn, nv, w, lk, wn, nw, wa, wb⟩ po, .l [.v (.y .i64 (dnE ⟨h, v, n, kd, ix, key, val, at_, nb, kn, nk, k, vn, nv, w, lk, wn, nw, wa, wb⟩ po)), .v (.y .u64 (oldE ⟨h, v, n, kd, ix, key, val, at_, nb, kn, nk, k, vn, nv, w, lk, wn, nw, wa, wb⟩ po))], [])
  | _ => none
def fTkR (ds : List Dx) : Option (Bool × Dx × List (List Dx)) :=
  match ds with
  | [.l [.v (.y .i64 cs), .v (.y .i64 ct), .v (.y .i64 cf), .v (.y .i64 cl), .v (.y .i64 cp)], .l [.v (.y .u64 h), .v (.y .u64 v), .v (.y .i64 n), .v (.y .i64 kd), .v (.y .i64 ix), .v (.y .u64 key), .v (.y .u64 val), .v (.y .i64 at_), .v (.y .i64 po), .v (.yb nb), .rows kn nk [.int .u64 k], .rows vn nv [.int .u64 w], .v (.y .u64 lk), .rows wn nw [.int .i64 wa, .int .u64 wb], .rows _ _ [.int .i64 _, .int .u64 _, .int .u64 _]], .v (.y .u64 got)] => some (invE cs ct cf cl cp ⟨h, v, n, kd, ix, key, val, at_, nb, kn, nk, k, vn, nv, w, lk, wn, nw, wa, wb⟩, dEdR (tkE cs ct cf ⟨h, v, n, kd, ix, key, val, at_, nb, kn, nk, k, vn, nv, w, lk, wn, nw, wa, wb⟩ got) (outE ⟨h, v, n, kd, ix, key, val, at_, nb, kn, nk, k, vn, nv, w, lk, wn, nw, wa, wb⟩ po got) (mkE ⟨h, v, n, kd, ix, key, val, at_, nb, kn, nk, k, vn, nv, w, lk, wn, nw, wa, wb⟩ got) (maE ⟨h, v, n, kd, ix, key, val, at_, nb, kn, nk, k, vn, nv, w, lk, wn, nw, wa, wb⟩ got), [])
  | _ => none
def fWtR (ds : List Dx) : Option (Bool × Dx × List (List Dx)) :=
  match ds with
  | [.l [.v (.y .i64 cs), .v (.y .i64 ct), .v (.y .i64 cf), .v (.y .i64 cl), .v (.y .i64 cp)], .l [.v (.y .u64 h), .v (.y .u64 v), .v (.y .i64 n), .v (.y .i64 kd), .v (.y .i64 ix), .v (.y .u64 key), .v (.y .u64 val), .v (.y .i64 at_), .v (.y .i64 _), .v (.yb nb), .rows kn nk [.int .u64 k], .rows vn nv [.int .u64 w], .v (.y .u64 lk), .rows wn nw [.int .i64 wa, .int .u64 wb], .rows _ _ [.int .i64 _, .int .u64 _, .int .u64 _]]] => some (invE cs ct cf cl cp ⟨h, v, n, kd, ix, key, val, at_, nb, kn, nk, k, vn, nv, w, lk, wn, nw, wa, wb⟩, dW4 cs ct cf ⟨h, v, n, kd, ix, key, val, at_, nb, kn, nk, k, vn, nv, w, lk, wn, nw, wa, wb⟩, [])
  | _ => none
def fOlR (ds : List Dx) : Option (Bool × Dx × List (List Dx)) :=
  match ds with
  | [.l [.v (.y .u64 h), .v (.y .u64 v), .v (.y .i64 n), .v (.y .i64 kd), .v (.y .i64 ix), .v (.y .u64 key), .v (.y .u64 val), .v (.y .i64 at_), .v (.y .i64 po), .v (.yb nb), .rows kn nk [.int .u64 k], .rows vn nv [.int .u64 w], .v (.y .u64 lk), .rows wn nw [.int .i64 wa, .int .u64 wb], .rows _ _ [.int .i64 _, .int .u64 _, .int .u64 _]]] => some (invO ⟨h, v, n, kd, ix, key, val, at_, nb, kn, nk, k, vn, nv, w, lk, wn, nw, wa, wb⟩ po, .v (.y .u64 (oldE ⟨h, v, n, kd, ix, key, val, at_, nb, kn, nk, k, vn, nv, w, lk, wn, nw, wa, wb⟩ po)), [])
  | _ => none
/-- New: the program's, the document's. -/
abbrev sSpot : Sx := .agg [.sc, .sc, .sc, .sc, .sc, .sc, .sc, .sc, .sc]
abbrev sWk20 : Sx := .agg [.sc, .sc, .sc, .sc, .sc, .sc, .sc, .sc, .sc, .sc, .sc, .sc, .sc, .sc, .sc, .sc, .sc, .sc, .sc, .sc, .sc, plM]
abbrev dSpot (sp sv sn si h v n : Int) (inr : Bool) (dp : Int) : Dx := .l [.v (.y .u64 sp), .v (.y .u64 sv), .v (.y .i64 sn), .v (.y .i64 si), .v (.y .u64 h), .v (.y .u64 v), .v (.y .i64 n), .v (.yb inr), .v (.y .i64 dp)]
abbrev dWk20 (sp sv sn si h v n : Int) (inr : Bool) (dp th mo key : Int) (slow chain : Bool) (at_ out sk sl sh skey child : Int) (mn : Bool) (ml : Nat) (m1 m2 m3 : Nat → Int) : Dx :=
  .l [.v (.y .u64 sp), .v (.y .u64 sv), .v (.y .i64 sn), .v (.y .i64 si), .v (.y .u64 h), .v (.y .u64 v), .v (.y .i64 n), .v (.yb inr), .v (.y .i64 dp), .v (.y .i64 th), .v (.y .i64 mo), .v (.y .u64 key), .v (.yb slow), .v (.yb chain), .v (.y .i64 at_), .v (.y .i64 out), .v (.y .i64 sk), .v (.y .i64 sl), .v (.y .i64 sh), .v (.y .u64 skey), .v (.y .u64 child), .rows mn ml [.int .i64 m1, .int .u64 m2, .int .u64 m3]]
def nwE (b : Bool) (h v n kd ix key val : Int) : EdS := ⟨selI b h, selI b v, selI b n, selI b kd, selI b ix, selI b key, selI b val, selI b 1, false, true, 0, fun _ => 0, true, 0, fun _ => 0, 0, true, 0, fun _ => 0, fun _ => 0⟩
abbrev dNwP (b : Bool) (sp sv sn si h v n : Int) (inr : Bool) (dp ls lt lf ll lp kd ix key val : Int) : Dx :=
  dEdP (selI b sp) (selI b sv) (selI b sn) (selI b si) (selB b inr) (selI b dp) (selI b ls) (selI b lt) (selI b lf) (selI b ll) (selI b lp) (nwE b h v n kd ix key val) 0 0 0 0
def fNwP (ds : List Dx) : Option (Bool × Dx × List (List Dx)) :=
  match ds with
  | [.l [.v (.y .i64 ls), .v (.y .i64 lt), .v (.y .i64 lf), .v (.y .i64 ll), .v (.y .i64 lp)], .l [.v (.y .u64 sp), .v (.y .u64 sv), .v (.y .i64 sn), .v (.y .i64 si), .v (.y .u64 h), .v (.y .u64 v), .v (.y .i64 n), .v (.yb inr), .v (.y .i64 dp)], .l [.v (.y .i64 kd), .v (.y .i64 ix), .v (.y .u64 key), .v (.y .u64 val)]] =>
    some (inU h, dNwP (okNw h n kd inr ls lf) sp sv sn si h v n inr dp ls lt lf ll lp kd ix key val, [])
  | _ => none
abbrev dNwR (b : Bool) (h v n kd ix key val : Int) : Dx := dEdR (nwE b h v n kd ix key val) (selI (!b) 3) 0 0
def fNwR (ds : List Dx) : Option (Bool × Dx × List (List Dx)) :=
  match ds with
  | [.l [.v (.y .i64 cs), .v (.y .i64 _), .v (.y .i64 cf), .v (.y .i64 _), .v (.y .i64 _)], .l [.v (.y .u64 _), .v (.y .u64 _), .v (.y .i64 _), .v (.y .i64 _), .v (.y .u64 h), .v (.y .u64 v), .v (.y .i64 n), .v (.yb inr), .v (.y .i64 _), .v (.y .i64 _), .v (.y .i64 _), .v (.y .u64 _), .v (.yb _), .v (.yb _), .v (.y .i64 _), .v (.y .i64 _), .v (.y .i64 _), .v (.y .i64 _), .v (.y .i64 _), .v (.y .u64 _), .v (.y .u64 _), .rows _ _ [.int .i64 _, .int .u64 _, .int .u64 _]], .v (.y .i64 kd), .v (.y .i64 ix), .v (.y .u64 key), .v (.y .u64 val)] =>
    some (inU h, dNwR (okNw h n kd inr cs cf) h v n kd ix key val, [])
  | _ => none
/-- layout.New. -/
abbrev dLn (s t f l p : Int) : Dx := .l [.v (.y .i64 (selI (rightC s t f l p) s)), .v (.y .i64 (selI (rightC s t f l p) t)), .v (.y .i64 (selI (rightC s t f l p) f)), .v (.y .i64 (selI (rightC s t f l p) l)), .v (.y .i64 (selI (rightC s t f l p) p))]
def fLn (ds : List Dx) : Option (Bool × Dx × List (List Dx)) :=
  match ds with
  | [.l [.v (.y .i64 s), .v (.y .i64 t), .v (.y .i64 f), .v (.y .i64 l), .v (.y .i64 p)]] => some (true, dLn s t f l p, [])
  | _ => none
def goalLn : Prop := ∀ (s t f l p : Int), wxP Tryz.prog (smL lEd) (fun _ => none) 7 [sConf] [dCf s t f l p] sConf (dLn s t f l p) []
def goalNwP : Prop := ∀ (sp sv sn si h v n : Int) (inr : Bool) (dp ls lt lf ll lp kd ix key val : Int), inU h = true →
  wxP Tryz.prog (smL lEd) (fun _ => none) 6 [sConf, sSpot, rW4] [dCf ls lt lf ll lp, dSpot sp sv sn si h v n inr dp, .l [.v (.y .i64 kd), .v (.y .i64 ix), .v (.y .u64 key), .v (.y .u64 val)]] sEdP (dNwP (okNw h n kd inr ls lf) sp sv sn si h v n inr dp ls lt lf ll lp kd ix key val) []
def goalNwR : Prop := ∀ (sp sv sn si h v n : Int) (inr : Bool) (dp th mo wkey : Int) (slow chain : Bool) (at_ out sk sl sh skey child : Int) (mn : Bool) (ml : Nat) (m1 m2 m3 : Nat → Int) (cs ct cf cl cp kd ix key val : Int), inU h = true →
  wxP Tryz.prog (smL lEd) (fun _ => none) 8 [sConf, sWk20, .sc, .sc, .sc, .sc] [dCf cs ct cf cl cp, dWk20 sp sv sn si h v n inr dp th mo wkey slow chain at_ out sk sl sh skey child mn ml m1 m2 m3, .v (.y .i64 kd), .v (.y .i64 ix), .v (.y .u64 key), .v (.y .u64 val)] sEdR (dNwR (okNw h n kd inr cs cf) h v n kd ix key val) []
def goalTkP : Prop := ∀ (sp sv sn si : Int) (inr : Bool) (dp ls lt lf ll lp : Int) (E : EdS) (po mk ma mb got : Int), invE ls lt lf ll lp E = true →
  wxP Tryz.prog (smL lEd) (fun _ => none) 20 [sEdP, .sc] [dEdP sp sv sn si inr dp ls lt lf ll lp E po mk ma mb, .v (.y .u64 got)] sEdP (dEdP sp sv sn si inr dp ls lt lf ll lp (tkE ls lt lf E got) (outE E po got) (mkE E got) (maE E got) 0) []
def goalWtP : Prop := ∀ (sp sv sn si : Int) (inr : Bool) (dp ls lt lf ll lp : Int) (E : EdS) (po mk ma mb : Int), invE ls lt lf ll lp E = true →
  wxP Tryz.prog (smL lEd) (fun _ => none) 13 [sEdP] [dEdP sp sv sn si inr dp ls lt lf ll lp E po mk ma mb] rW4 (dW4 ls lt lf E) []
def goalDnP : Prop := ∀ (sp sv sn si : Int) (inr : Bool) (dp ls lt lf ll lp : Int) (E : EdS) (po mk ma mb : Int), invO E po = true →
  wxP Tryz.prog noSm (fun _ => none) 11 [sEdP] [dEdP sp sv sn si inr dp ls lt lf ll lp E po mk ma mb] (.tup [.sc, .sc]) (.l [.v (.y .i64 (dnE E po)), .v (.y .u64 (oldE E po))]) []
def goalTkR : Prop := ∀ (cs ct cf cl cp : Int) (E : EdS) (po : Int) (mn : Bool) (ml : Nat) (m1 m2 m3 : Nat → Int) (got : Int), invE cs ct cf cl cp E = true →
  wxP Tryz.prog (smL lEd) (fun _ => none) 21 [sConf, sEdR, .sc] [dCf cs ct cf cl cp, dEdRm E po mn ml m1 m2 m3, .v (.y .u64 got)] sEdR (dEdR (tkE cs ct cf E got) (outE E po got) (mkE E got) (maE E got)) []
def goalWtR : Prop := ∀ (cs ct cf cl cp : Int) (E : EdS) (po : Int) (mn : Bool) (ml : Nat) (m1 m2 m3 : Nat → Int), invE cs ct cf cl cp E = true →
  wxP Tryz.prog (smL lEd) (fun _ => none) 14 [sConf, sEdR] [dCf cs ct cf cl cp, dEdRm E po mn ml m1 m2 m3] rW4 (dW4 cs ct cf E) []
def goalOlR : Prop := ∀ (E : EdS) (po : Int) (mn : Bool) (ml : Nat) (m1 m2 m3 : Nat → Int), invO E po = true →
  wxP Tryz.prog noSm (fun _ => none) 15 [sEdR] [dEdRm E po mn ml m1 m2 m3] .sc (.v (.y .u64 (oldE E po))) []
end Go.Proofs.YtlfehgagnelbhaaGreatDoor.Ex
namespace Go.Proofs.YtlfehgagnelbhaaGreatDoor.Ex
open Go

theorem trI_lt {n : Nat} {k : Nat → Int} {j : Nat} (h : j < n) : trI n k j = k j := if_pos h
theorem rises_tr {nk : Nat} {k : Nat → Int} : risesB (trI nk k) nk = risesB k nk := by
  rw [Bool.eq_iff_iff, risesB_iff, risesB_iff]
  constructor
  · intro h j hj; have := h j hj; rwa [trI_lt (by omega), trI_lt (by omega)] at this
  · intro h j hj; have := h j hj; rwa [trI_lt (by omega), trI_lt (by omega)]
theorem fits_tr {i : Bool} {nk : Nat} {k : Nat → Int} {nv : Nat} {cf : Int} : fitsC i nk (trI nk k) nv cf = fitsC i nk k nv cf := by
  unfold fitsC; rw [rises_tr]
theorem setOk_tr {cs s : Int} {i : Bool} {nk : Nat} {k : Nat → Int} {nv : Nat} {cf a : Int} : setOk cs s i nk (trI nk k) nv cf a = setOk cs s i nk k nv cf a := by
  unfold setOk; rw [fits_tr]
theorem fits_len {nk : Nat} {k : Nat → Int} {nv : Nat} {cf : Int} (h : fitsC false nk k nv cf = true) : nv = nk := by
  have := (fits_t.1 h).2.1; simpa using this
theorem insOk_tr {cs s : Int} {i : Bool} {nk : Nat} {k : Nat → Int} {nv : Nat} {cf a key : Int} : insOk cs s i nk (trI nk k) nv cf a key = insOk cs s i nk k nv cf a key := by
  unfold insOk
  rw [fits_tr]
  rw [Bool.eq_iff_iff, decide_eq_true_iff, decide_eq_true_iff]
  constructor
  · rintro ⟨h1, h2, h3, h4, h5, h6, h7, h8⟩
    subst h3
    have := fits_len h2
    refine ⟨h1, h2, rfl, h4, h5, h6, ?_, ?_⟩
    · rcases h7 with h | h
      · exact .inl h
      · by_cases e : a = 0
        · exact .inl e
        · rw [trI_lt (by unfold yNat; omega)] at h; exact .inr h
    · rcases h8 with h | h
      · exact .inl h
      · by_cases e : a = nv
        · exact .inl e
        · rw [trI_lt (by unfold yNat; omega)] at h; exact .inr h
  · rintro ⟨h1, h2, h3, h4, h5, h6, h7, h8⟩
    subst h3
    have := fits_len h2
    refine ⟨h1, h2, rfl, h4, h5, h6, ?_, ?_⟩
    · rcases h7 with h | h
      · exact .inl h
      · by_cases e : a = 0
        · exact .inl e
        · rw [trI_lt (by unfold yNat; omega)]; exact .inr h
    · rcases h8 with h | h
      · exact .inl h
      · by_cases e : a = nv
        · exact .inl e
        · rw [trI_lt (by unfold yNat; omega)]; exact .inr h
theorem flat_congr {α : Type} {f g : Nat → List α} {n : Nat} (h : ∀ d, d < n → f d = g d) : (List.range n).flatMap f = (List.range n).flatMap g := by
  simp only [List.flatMap]
  congr 1
  exact List.map_congr_left fun d hd => h d (List.mem_range.1 hd)
theorem set_tr {cs ct cf s v : Int} {i : Bool} {nk : Nat} {k : Nat → Int} {nv : Nat} {a b : Int} : setL cs ct cf s v i nk (trI nk k) nv a b = setL cs ct cf s v i nk k nv a b := by
  unfold setL; rw [setOk_tr]
theorem rem_tr {cs ct cf s v : Int} {i : Bool} {nk : Nat} {k : Nat → Int} {nv : Nat} {w : Nat → Int} {a : Int} : remL cs ct cf s v i nk (trI nk k) nv (trI nv w) a = remL cs ct cf s v i nk k nv w a := by
  unfold remL; rw [setOk_tr]
  split
  · rename_i h
    unfold setOk at h
    rw [decide_eq_true_iff] at h
    obtain ⟨_, h2, rfl, h4, h5⟩ := h
    have := fits_len h2
    congr 1
    unfold cloL cloO shO
    congr 2
    refine flat_congr fun d hd => ?_
    rw [trI_lt (by unfold yNat at *; omega), trI_lt (by unfold yNat at *; omega)]
  · rfl
theorem ins_tr {cs ct cf s v : Int} {i : Bool} {nk : Nat} {k : Nat → Int} {nv : Nat} {w : Nat → Int} {a b c : Int} : insL cs ct cf s v i nk (trI nk k) nv (trI nv w) a b c = insL cs ct cf s v i nk k nv w a b c := by
  unfold insL; rw [insOk_tr]
  split
  · rename_i h
    unfold insOk at h
    rw [decide_eq_true_iff] at h
    obtain ⟨_, h2, rfl, h4, h5, _⟩ := h
    have := fits_len h2
    congr 1
    unfold opL
    split
    · rfl
    · rename_i hj
      have hj2 : yNat a < nv := by unfold yNat at *; omega
      unfold opO dnL
      congr 1
      rw [trI_lt (by omega), trI_lt (by omega)]
      congr 1
      refine flat_congr fun d hd => ?_
      rw [trI_lt (by omega), trI_lt (by omega)]
  · rfl
theorem plE_nm {cs ct cf : Int} {E : EdS} : plE cs ct cf (nmE E) = plE cs ct cf E := by
  unfold plE nmE
  simp only [set_tr, rem_tr, ins_tr]
theorem trI_tr {n : Nat} {k : Nat → Int} : trI n (trI n k) = trI n k := by
  funext j; unfold trI; split <;> rfl
theorem trI_eq {n : Nat} {k k' : Nat → Int} (h : ∀ j, j < n → k j = k' j) : trI n k = trI n k' := by
  funext j; unfold trI; split
  · exact h j ‹_›
  · rfl
theorem nm_k {E : EdS} {b : Bool} {m : Nat} {k k' : Nat → Int} (h : ∀ j, j < m → k j = k' j) : nmE { E with kn := b, nk := m, k := k } = nmE { E with kn := b, nk := m, k := k' } := by
  unfold nmE; simp only [trI_eq h]
theorem nm_w {E : EdS} {b : Bool} {m : Nat} {k k' : Nat → Int} (h : ∀ j, j < m → k j = k' j) : nmE { E with vn := b, nv := m, w := k } = nmE { E with vn := b, nv := m, w := k' } := by
  unfold nmE; simp only [trI_eq h]
theorem selI_t (x : Int) : selI true x = x := rfl
theorem selI_f (x : Int) : selI false x = 0 := rfl
theorem selB_t (x : Bool) : selB true x = x := rfl
theorem selB_f (x : Bool) : selB false x = false := rfl
theorem okNw_t {h n kd : Int} {inr : Bool} {cs cf : Int} : okNw h n kd inr cs cf = true ↔ (hrC h cs = true ∧ 1 ≤ kd ∧ kd ≤ 3 ∧ inr = false ∧ 0 ≤ n ∧ n ≤ cf) := by
  unfold okNw; rw [Bool.and_eq_true, decide_eq_true_iff]
theorem okNw_f {h n kd : Int} {inr : Bool} {cs cf : Int} (e : okNw h n kd inr cs cf = false) : ¬ (hrC h cs = true ∧ 1 ≤ kd ∧ kd ≤ 3 ∧ inr = false ∧ 0 ≤ n ∧ n ≤ cf) := fun h => by
  rw [okNw_t.2 h] at e; cases e
def goalLnV : Prop := (∀ (s t f l p : Int), (true = true → (yNot (rightC s t f l p) = true → selI (rightC s t f l p) s = (0 : Int) ∧ selI (rightC s t f l p) t = (0 : Int) ∧ selI (rightC s t f l p) f = (0 : Int) ∧ selI (rightC s t f l p) l = (0 : Int) ∧ selI (rightC s t f l p) p = (0 : Int) ∧ true = true) ∧ (yNot (rightC s t f l p) = false → selI (rightC s t f l p) s = s ∧ selI (rightC s t f l p) t = t ∧ selI (rightC s t f l p) f = f ∧ selI (rightC s t f l p) l = l ∧ selI (rightC s t f l p) p = p ∧ true = true)) ∧ (true = false → False))
set_option maxRecDepth 100000 in
theorem goalLn_eq : goalLn = goalLnV := by kernel_rfl
set_option maxRecDepth 100000 in
set_option maxHeartbeats 4000000 in
theorem goalLn_vc : goalLnV := by
  unfold goalLnV
  intro s t f l p
  cases hr : rightC s t f l p with
  | true => simp only [yNot_t, yNot_f, and_true, forall_const, Bool.true_eq_false, false_implies, selI_t]; repeat' (first | apply And.intro | intro _) <;> trivial
  | false => simp only [yNot_t, yNot_f, and_true, forall_const, Bool.true_eq_false, Bool.false_eq_true, false_implies, selI_f]; repeat' (first | apply And.intro | intro _) <;> trivial
set_option maxRecDepth 100000 in
theorem goalLn_tt : (goalLn) = True := goalLn_eq.trans (eq_true goalLn_vc)
theorem goalLn_ok : goalLn := @ft' goalLn goalLn_tt
def goalNwPV : Prop := (∀ (sp sv sn si h v n : Int) (inr : Bool) (dp ls lt lf ll lp kd ix key val : Int), yAnd (yLe (0 : Int) h) (yLt h (18446744073709551616 : Int)) = true → (yLt kd (1 : Int) = true → selI (okNw h n kd inr ls lf) sp = (0 : Int) ∧ selI (okNw h n kd inr ls lf) sv = (0 : Int) ∧ selI (okNw h n kd inr ls lf) sn = (0 : Int) ∧ selI (okNw h n kd inr ls lf) si = (0 : Int) ∧ selI (okNw h n kd inr ls lf) h = (0 : Int) ∧ selI (okNw h n kd inr ls lf) v = (0 : Int) ∧ selI (okNw h n kd inr ls lf) n = (0 : Int) ∧ selB (okNw h n kd inr ls lf) inr = false ∧ selI (okNw h n kd inr ls lf) dp = (0 : Int) ∧ selI (okNw h n kd inr ls lf) ls = (0 : Int) ∧ selI (okNw h n kd inr ls lf) lt = (0 : Int) ∧ selI (okNw h n kd inr ls lf) lf = (0 : Int) ∧ selI (okNw h n kd inr ls lf) ll = (0 : Int) ∧ selI (okNw h n kd inr ls lf) lp = (0 : Int) ∧ selI (okNw h n kd inr ls lf) kd = (0 : Int) ∧ selI (okNw h n kd inr ls lf) ix = (0 : Int) ∧ selI (okNw h n kd inr ls lf) key = (0 : Int) ∧ selI (okNw h n kd inr ls lf) val = (0 : Int) ∧ selI (okNw h n kd inr ls lf) (1 : Int) = (0 : Int) ∧ (0 : Int) = (0 : Int) ∧ false = false ∧ true = true ∧ nat_lit 0 = nat_lit 0 ∧ true = true ∧ nat_lit 0 = nat_lit 0 ∧ (0 : Int) = (0 : Int) ∧ true = true ∧ nat_lit 0 = nat_lit 0 ∧ (0 : Int) = (0 : Int) ∧ (0 : Int) = (0 : Int) ∧ (0 : Int) = (0 : Int) ∧ true = true) ∧ (yLt kd (1 : Int) = false → (yLt (3 : Int) kd = true → selI (okNw h n kd inr ls lf) sp = (0 : Int) ∧ selI (okNw h n kd inr ls lf) sv = (0 : Int) ∧ selI (okNw h n kd inr ls lf) sn = (0 : Int) ∧ selI (okNw h n kd inr ls lf) si = (0 : Int) ∧ selI (okNw h n kd inr ls lf) h = (0 : Int) ∧ selI (okNw h n kd inr ls lf) v = (0 : Int) ∧ selI (okNw h n kd inr ls lf) n = (0 : Int) ∧ selB (okNw h n kd inr ls lf) inr = false ∧ selI (okNw h n kd inr ls lf) dp = (0 : Int) ∧ selI (okNw h n kd inr ls lf) ls = (0 : Int) ∧ selI (okNw h n kd inr ls lf) lt = (0 : Int) ∧ selI (okNw h n kd inr ls lf) lf = (0 : Int) ∧ selI (okNw h n kd inr ls lf) ll = (0 : Int) ∧ selI (okNw h n kd inr ls lf) lp = (0 : Int) ∧ selI (okNw h n kd inr ls lf) kd = (0 : Int) ∧ selI (okNw h n kd inr ls lf) ix = (0 : Int) ∧ selI (okNw h n kd inr ls lf) key = (0 : Int) ∧ selI (okNw h n kd inr ls lf) val = (0 : Int) ∧ selI (okNw h n kd inr ls lf) (1 : Int) = (0 : Int) ∧ (0 : Int) = (0 : Int) ∧ false = false ∧ true = true ∧ nat_lit 0 = nat_lit 0 ∧ true = true ∧ nat_lit 0 = nat_lit 0 ∧ (0 : Int) = (0 : Int) ∧ true = true ∧ nat_lit 0 = nat_lit 0 ∧ (0 : Int) = (0 : Int) ∧ (0 : Int) = (0 : Int) ∧ (0 : Int) = (0 : Int) ∧ true = true) ∧ (yLt (3 : Int) kd = false → (yAnd (yLe (0 : Int) h) (yLt h (18446744073709551616 : Int)) = true → (yNot (hrC h ls) = true → selI (okNw h n kd inr ls lf) sp = (0 : Int) ∧ selI (okNw h n kd inr ls lf) sv = (0 : Int) ∧ selI (okNw h n kd inr ls lf) sn = (0 : Int) ∧ selI (okNw h n kd inr ls lf) si = (0 : Int) ∧ selI (okNw h n kd inr ls lf) h = (0 : Int) ∧ selI (okNw h n kd inr ls lf) v = (0 : Int) ∧ selI (okNw h n kd inr ls lf) n = (0 : Int) ∧ selB (okNw h n kd inr ls lf) inr = false ∧ selI (okNw h n kd inr ls lf) dp = (0 : Int) ∧ selI (okNw h n kd inr ls lf) ls = (0 : Int) ∧ selI (okNw h n kd inr ls lf) lt = (0 : Int) ∧ selI (okNw h n kd inr ls lf) lf = (0 : Int) ∧ selI (okNw h n kd inr ls lf) ll = (0 : Int) ∧ selI (okNw h n kd inr ls lf) lp = (0 : Int) ∧ selI (okNw h n kd inr ls lf) kd = (0 : Int) ∧ selI (okNw h n kd inr ls lf) ix = (0 : Int) ∧ selI (okNw h n kd inr ls lf) key = (0 : Int) ∧ selI (okNw h n kd inr ls lf) val = (0 : Int) ∧ selI (okNw h n kd inr ls lf) (1 : Int) = (0 : Int) ∧ (0 : Int) = (0 : Int) ∧ false = false ∧ true = true ∧ nat_lit 0 = nat_lit 0 ∧ true = true ∧ nat_lit 0 = nat_lit 0 ∧ (0 : Int) = (0 : Int) ∧ true = true ∧ nat_lit 0 = nat_lit 0 ∧ (0 : Int) = (0 : Int) ∧ (0 : Int) = (0 : Int) ∧ (0 : Int) = (0 : Int) ∧ true = true) ∧ (yNot (hrC h ls) = false → (inr = true → selI (okNw h n kd inr ls lf) sp = (0 : Int) ∧ selI (okNw h n kd inr ls lf) sv = (0 : Int) ∧ selI (okNw h n kd inr ls lf) sn = (0 : Int) ∧ selI (okNw h n kd inr ls lf) si = (0 : Int) ∧ selI (okNw h n kd inr ls lf) h = (0 : Int) ∧ selI (okNw h n kd inr ls lf) v = (0 : Int) ∧ selI (okNw h n kd inr ls lf) n = (0 : Int) ∧ selB (okNw h n kd inr ls lf) inr = false ∧ selI (okNw h n kd inr ls lf) dp = (0 : Int) ∧ selI (okNw h n kd inr ls lf) ls = (0 : Int) ∧ selI (okNw h n kd inr ls lf) lt = (0 : Int) ∧ selI (okNw h n kd inr ls lf) lf = (0 : Int) ∧ selI (okNw h n kd inr ls lf) ll = (0 : Int) ∧ selI (okNw h n kd inr ls lf) lp = (0 : Int) ∧ selI (okNw h n kd inr ls lf) kd = (0 : Int) ∧ selI (okNw h n kd inr ls lf) ix = (0 : Int) ∧ selI (okNw h n kd inr ls lf) key = (0 : Int) ∧ selI (okNw h n kd inr ls lf) val = (0 : Int) ∧ selI (okNw h n kd inr ls lf) (1 : Int) = (0 : Int) ∧ (0 : Int) = (0 : Int) ∧ false = false ∧ true = true ∧ nat_lit 0 = nat_lit 0 ∧ true = true ∧ nat_lit 0 = nat_lit 0 ∧ (0 : Int) = (0 : Int) ∧ true = true ∧ nat_lit 0 = nat_lit 0 ∧ (0 : Int) = (0 : Int) ∧ (0 : Int) = (0 : Int) ∧ (0 : Int) = (0 : Int) ∧ true = true) ∧ (inr = false → (yLt n (0 : Int) = true → selI (okNw h n kd inr ls lf) sp = (0 : Int) ∧ selI (okNw h n kd inr ls lf) sv = (0 : Int) ∧ selI (okNw h n kd inr ls lf) sn = (0 : Int) ∧ selI (okNw h n kd inr ls lf) si = (0 : Int) ∧ selI (okNw h n kd inr ls lf) h = (0 : Int) ∧ selI (okNw h n kd inr ls lf) v = (0 : Int) ∧ selI (okNw h n kd inr ls lf) n = (0 : Int) ∧ selB (okNw h n kd inr ls lf) inr = false ∧ selI (okNw h n kd inr ls lf) dp = (0 : Int) ∧ selI (okNw h n kd inr ls lf) ls = (0 : Int) ∧ selI (okNw h n kd inr ls lf) lt = (0 : Int) ∧ selI (okNw h n kd inr ls lf) lf = (0 : Int) ∧ selI (okNw h n kd inr ls lf) ll = (0 : Int) ∧ selI (okNw h n kd inr ls lf) lp = (0 : Int) ∧ selI (okNw h n kd inr ls lf) kd = (0 : Int) ∧ selI (okNw h n kd inr ls lf) ix = (0 : Int) ∧ selI (okNw h n kd inr ls lf) key = (0 : Int) ∧ selI (okNw h n kd inr ls lf) val = (0 : Int) ∧ selI (okNw h n kd inr ls lf) (1 : Int) = (0 : Int) ∧ (0 : Int) = (0 : Int) ∧ false = false ∧ true = true ∧ nat_lit 0 = nat_lit 0 ∧ true = true ∧ nat_lit 0 = nat_lit 0 ∧ (0 : Int) = (0 : Int) ∧ true = true ∧ nat_lit 0 = nat_lit 0 ∧ (0 : Int) = (0 : Int) ∧ (0 : Int) = (0 : Int) ∧ (0 : Int) = (0 : Int) ∧ true = true) ∧ (yLt n (0 : Int) = false → (yLt lf n = true → selI (okNw h n kd inr ls lf) sp = (0 : Int) ∧ selI (okNw h n kd inr ls lf) sv = (0 : Int) ∧ selI (okNw h n kd inr ls lf) sn = (0 : Int) ∧ selI (okNw h n kd inr ls lf) si = (0 : Int) ∧ selI (okNw h n kd inr ls lf) h = (0 : Int) ∧ selI (okNw h n kd inr ls lf) v = (0 : Int) ∧ selI (okNw h n kd inr ls lf) n = (0 : Int) ∧ selB (okNw h n kd inr ls lf) inr = false ∧ selI (okNw h n kd inr ls lf) dp = (0 : Int) ∧ selI (okNw h n kd inr ls lf) ls = (0 : Int) ∧ selI (okNw h n kd inr ls lf) lt = (0 : Int) ∧ selI (okNw h n kd inr ls lf) lf = (0 : Int) ∧ selI (okNw h n kd inr ls lf) ll = (0 : Int) ∧ selI (okNw h n kd inr ls lf) lp = (0 : Int) ∧ selI (okNw h n kd inr ls lf) kd = (0 : Int) ∧ selI (okNw h n kd inr ls lf) ix = (0 : Int) ∧ selI (okNw h n kd inr ls lf) key = (0 : Int) ∧ selI (okNw h n kd inr ls lf) val = (0 : Int) ∧ selI (okNw h n kd inr ls lf) (1 : Int) = (0 : Int) ∧ (0 : Int) = (0 : Int) ∧ false = false ∧ true = true ∧ nat_lit 0 = nat_lit 0 ∧ true = true ∧ nat_lit 0 = nat_lit 0 ∧ (0 : Int) = (0 : Int) ∧ true = true ∧ nat_lit 0 = nat_lit 0 ∧ (0 : Int) = (0 : Int) ∧ (0 : Int) = (0 : Int) ∧ (0 : Int) = (0 : Int) ∧ true = true) ∧ (yLt lf n = false → selI (okNw h n kd inr ls lf) sp = sp ∧ selI (okNw h n kd inr ls lf) sv = sv ∧ selI (okNw h n kd inr ls lf) sn = sn ∧ selI (okNw h n kd inr ls lf) si = si ∧ selI (okNw h n kd inr ls lf) h = h ∧ selI (okNw h n kd inr ls lf) v = v ∧ selI (okNw h n kd inr ls lf) n = n ∧ selB (okNw h n kd inr ls lf) inr = inr ∧ selI (okNw h n kd inr ls lf) dp = dp ∧ selI (okNw h n kd inr ls lf) ls = ls ∧ selI (okNw h n kd inr ls lf) lt = lt ∧ selI (okNw h n kd inr ls lf) lf = lf ∧ selI (okNw h n kd inr ls lf) ll = ll ∧ selI (okNw h n kd inr ls lf) lp = lp ∧ selI (okNw h n kd inr ls lf) kd = kd ∧ selI (okNw h n kd inr ls lf) ix = ix ∧ selI (okNw h n kd inr ls lf) key = key ∧ selI (okNw h n kd inr ls lf) val = val ∧ selI (okNw h n kd inr ls lf) (1 : Int) = (1 : Int) ∧ (0 : Int) = (0 : Int) ∧ false = false ∧ true = true ∧ nat_lit 0 = nat_lit 0 ∧ true = true ∧ nat_lit 0 = nat_lit 0 ∧ (0 : Int) = (0 : Int) ∧ true = true ∧ nat_lit 0 = nat_lit 0 ∧ (0 : Int) = (0 : Int) ∧ (0 : Int) = (0 : Int) ∧ (0 : Int) = (0 : Int) ∧ true = true))))) ∧ (yAnd (yLe (0 : Int) h) (yLt h (18446744073709551616 : Int)) = false → False))))
set_option maxRecDepth 100000 in
theorem goalNwP_eq : goalNwP = goalNwPV := by kernel_rfl
set_option maxRecDepth 100000 in
set_option maxHeartbeats 4000000 in
theorem goalNwP_vc : goalNwPV := by
  unfold goalNwPV
  intro sp sv sn si h v n inr dp ls lt lf ll lp kd ix key val hh
  cases hk : okNw h n kd inr ls lf with
  | true =>
    obtain ⟨k1, k2, k3, k4, k5, k6⟩ := okNw_t.1 hk
    subst k4
    simp only [yAnd_t, yLe_t, yLt_t] at hh
    simp only [yNot_t, yNot_f, yAnd_t, yAnd_f, yLt_t, yLt_f, yLe_t, yLe_f, true_and, and_true, forall_const, Bool.true_eq_false, Bool.false_eq_true, false_implies, selI_t, selB_t, k1]
    repeat' (first | apply And.intro | intro _)
    all_goals first
      | trivial
      | (exfalso; omega)
  | false =>
    have hk2 := okNw_f hk
    simp only [yAnd_t, yLe_t, yLt_t] at hh
    simp only [yNot_t, yNot_f, yAnd_t, yAnd_f, yLt_t, yLt_f, yLe_t, yLe_f, and_true, selI_f, selB_f]
    repeat' (first | apply And.intro | intro _)
    all_goals first
      | trivial
      | (exfalso; omega)
      | (exfalso; exact hk2 ⟨by assumption, by omega, by omega, by assumption, by omega, by omega⟩)
set_option maxRecDepth 100000 in
theorem goalNwP_tt : (goalNwP) = True := goalNwP_eq.trans (eq_true goalNwP_vc)
theorem goalNwP_ok : goalNwP := @ft' goalNwP goalNwP_tt
def goalNwRV : Prop := (∀ (_sp _sv _sn _si h v n : Int) (inr : Bool) (_dp _th _mo _wkey : Int) (_slow _chain : Bool) (_at_ _out _sk _sl _sh _skey _child : Int) (_mn : Bool) (_ml : Nat) (_m1 _m2 _m3 : Nat → Int) (cs _ct cf _cl _cp kd ix key val : Int), yAnd (yLe (0 : Int) h) (yLt h (18446744073709551616 : Int)) = true → (yLt kd (1 : Int) = true → selI (okNw h n kd inr cs cf) h = (0 : Int) ∧ selI (okNw h n kd inr cs cf) v = (0 : Int) ∧ selI (okNw h n kd inr cs cf) n = (0 : Int) ∧ selI (okNw h n kd inr cs cf) kd = (0 : Int) ∧ selI (okNw h n kd inr cs cf) ix = (0 : Int) ∧ selI (okNw h n kd inr cs cf) key = (0 : Int) ∧ selI (okNw h n kd inr cs cf) val = (0 : Int) ∧ selI (okNw h n kd inr cs cf) (1 : Int) = (0 : Int) ∧ selI (Bool.rec ((fun (_ : Unit) => true) ()) ((fun (_ : Unit) => false) ()) (okNw h n kd inr cs cf)) (3 : Int) = (3 : Int) ∧ false = false ∧ true = true ∧ nat_lit 0 = nat_lit 0 ∧ true = true ∧ nat_lit 0 = nat_lit 0 ∧ (0 : Int) = (0 : Int) ∧ true = true ∧ nat_lit 0 = nat_lit 0 ∧ mkNil (0 : Int) = true ∧ mkN (0 : Int) = nat_lit 0 ∧ true = true) ∧ (yLt kd (1 : Int) = false → (yLt (3 : Int) kd = true → selI (okNw h n kd inr cs cf) h = (0 : Int) ∧ selI (okNw h n kd inr cs cf) v = (0 : Int) ∧ selI (okNw h n kd inr cs cf) n = (0 : Int) ∧ selI (okNw h n kd inr cs cf) kd = (0 : Int) ∧ selI (okNw h n kd inr cs cf) ix = (0 : Int) ∧ selI (okNw h n kd inr cs cf) key = (0 : Int) ∧ selI (okNw h n kd inr cs cf) val = (0 : Int) ∧ selI (okNw h n kd inr cs cf) (1 : Int) = (0 : Int) ∧ selI (Bool.rec ((fun (_ : Unit) => true) ()) ((fun (_ : Unit) => false) ()) (okNw h n kd inr cs cf)) (3 : Int) = (3 : Int) ∧ false = false ∧ true = true ∧ nat_lit 0 = nat_lit 0 ∧ true = true ∧ nat_lit 0 = nat_lit 0 ∧ (0 : Int) = (0 : Int) ∧ true = true ∧ nat_lit 0 = nat_lit 0 ∧ mkNil (0 : Int) = true ∧ mkN (0 : Int) = nat_lit 0 ∧ true = true) ∧ (yLt (3 : Int) kd = false → (yAnd (yLe (0 : Int) h) (yLt h (18446744073709551616 : Int)) = true → (yNot (hrC h cs) = true → selI (okNw h n kd inr cs cf) h = (0 : Int) ∧ selI (okNw h n kd inr cs cf) v = (0 : Int) ∧ selI (okNw h n kd inr cs cf) n = (0 : Int) ∧ selI (okNw h n kd inr cs cf) kd = (0 : Int) ∧ selI (okNw h n kd inr cs cf) ix = (0 : Int) ∧ selI (okNw h n kd inr cs cf) key = (0 : Int) ∧ selI (okNw h n kd inr cs cf) val = (0 : Int) ∧ selI (okNw h n kd inr cs cf) (1 : Int) = (0 : Int) ∧ selI (Bool.rec ((fun (_ : Unit) => true) ()) ((fun (_ : Unit) => false) ()) (okNw h n kd inr cs cf)) (3 : Int) = (3 : Int) ∧ false = false ∧ true = true ∧ nat_lit 0 = nat_lit 0 ∧ true = true ∧ nat_lit 0 = nat_lit 0 ∧ (0 : Int) = (0 : Int) ∧ true = true ∧ nat_lit 0 = nat_lit 0 ∧ mkNil (0 : Int) = true ∧ mkN (0 : Int) = nat_lit 0 ∧ true = true) ∧ (yNot (hrC h cs) = false → (inr = true → selI (okNw h n kd inr cs cf) h = (0 : Int) ∧ selI (okNw h n kd inr cs cf) v = (0 : Int) ∧ selI (okNw h n kd inr cs cf) n = (0 : Int) ∧ selI (okNw h n kd inr cs cf) kd = (0 : Int) ∧ selI (okNw h n kd inr cs cf) ix = (0 : Int) ∧ selI (okNw h n kd inr cs cf) key = (0 : Int) ∧ selI (okNw h n kd inr cs cf) val = (0 : Int) ∧ selI (okNw h n kd inr cs cf) (1 : Int) = (0 : Int) ∧ selI (Bool.rec ((fun (_ : Unit) => true) ()) ((fun (_ : Unit) => false) ()) (okNw h n kd inr cs cf)) (3 : Int) = (3 : Int) ∧ false = false ∧ true = true ∧ nat_lit 0 = nat_lit 0 ∧ true = true ∧ nat_lit 0 = nat_lit 0 ∧ (0 : Int) = (0 : Int) ∧ true = true ∧ nat_lit 0 = nat_lit 0 ∧ mkNil (0 : Int) = true ∧ mkN (0 : Int) = nat_lit 0 ∧ true = true) ∧ (inr = false → (yLt n (0 : Int) = true → selI (okNw h n kd inr cs cf) h = (0 : Int) ∧ selI (okNw h n kd inr cs cf) v = (0 : Int) ∧ selI (okNw h n kd inr cs cf) n = (0 : Int) ∧ selI (okNw h n kd inr cs cf) kd = (0 : Int) ∧ selI (okNw h n kd inr cs cf) ix = (0 : Int) ∧ selI (okNw h n kd inr cs cf) key = (0 : Int) ∧ selI (okNw h n kd inr cs cf) val = (0 : Int) ∧ selI (okNw h n kd inr cs cf) (1 : Int) = (0 : Int) ∧ selI (Bool.rec ((fun (_ : Unit) => true) ()) ((fun (_ : Unit) => false) ()) (okNw h n kd inr cs cf)) (3 : Int) = (3 : Int) ∧ false = false ∧ true = true ∧ nat_lit 0 = nat_lit 0 ∧ true = true ∧ nat_lit 0 = nat_lit 0 ∧ (0 : Int) = (0 : Int) ∧ true = true ∧ nat_lit 0 = nat_lit 0 ∧ mkNil (0 : Int) = true ∧ mkN (0 : Int) = nat_lit 0 ∧ true = true) ∧ (yLt n (0 : Int) = false → (yLt cf n = true → selI (okNw h n kd inr cs cf) h = (0 : Int) ∧ selI (okNw h n kd inr cs cf) v = (0 : Int) ∧ selI (okNw h n kd inr cs cf) n = (0 : Int) ∧ selI (okNw h n kd inr cs cf) kd = (0 : Int) ∧ selI (okNw h n kd inr cs cf) ix = (0 : Int) ∧ selI (okNw h n kd inr cs cf) key = (0 : Int) ∧ selI (okNw h n kd inr cs cf) val = (0 : Int) ∧ selI (okNw h n kd inr cs cf) (1 : Int) = (0 : Int) ∧ selI (Bool.rec ((fun (_ : Unit) => true) ()) ((fun (_ : Unit) => false) ()) (okNw h n kd inr cs cf)) (3 : Int) = (3 : Int) ∧ false = false ∧ true = true ∧ nat_lit 0 = nat_lit 0 ∧ true = true ∧ nat_lit 0 = nat_lit 0 ∧ (0 : Int) = (0 : Int) ∧ true = true ∧ nat_lit 0 = nat_lit 0 ∧ mkNil (0 : Int) = true ∧ mkN (0 : Int) = nat_lit 0 ∧ true = true) ∧ (yLt cf n = false → selI (okNw h n kd inr cs cf) h = h ∧ selI (okNw h n kd inr cs cf) v = v ∧ selI (okNw h n kd inr cs cf) n = n ∧ selI (okNw h n kd inr cs cf) kd = kd ∧ selI (okNw h n kd inr cs cf) ix = ix ∧ selI (okNw h n kd inr cs cf) key = key ∧ selI (okNw h n kd inr cs cf) val = val ∧ selI (okNw h n kd inr cs cf) (1 : Int) = (1 : Int) ∧ selI (Bool.rec ((fun (_ : Unit) => true) ()) ((fun (_ : Unit) => false) ()) (okNw h n kd inr cs cf)) (3 : Int) = (0 : Int) ∧ false = false ∧ true = true ∧ nat_lit 0 = nat_lit 0 ∧ true = true ∧ nat_lit 0 = nat_lit 0 ∧ (0 : Int) = (0 : Int) ∧ true = true ∧ nat_lit 0 = nat_lit 0 ∧ mkNil (0 : Int) = true ∧ mkN (0 : Int) = nat_lit 0 ∧ true = true))))) ∧ (yAnd (yLe (0 : Int) h) (yLt h (18446744073709551616 : Int)) = false → False))))
set_option maxRecDepth 100000 in
theorem goalNwR_eq : goalNwR = goalNwRV := by kernel_rfl
set_option maxRecDepth 100000 in
set_option maxHeartbeats 4000000 in
theorem goalNwR_vc : goalNwRV := by
  unfold goalNwRV
  intro sp sv sn si h v n inr dp th mo wkey slow chain at_ out sk sl sh skey child mn ml m1 m2 m3 cs ct cf cl cp kd ix key val hh
  cases hk : okNw h n kd inr cs cf with
  | true =>
    obtain ⟨k1, k2, k3, k4, k5, k6⟩ := okNw_t.1 hk
    subst k4
    simp only [yAnd_t, yLe_t, yLt_t] at hh
    simp only [yNot_t, yNot_f, yAnd_t, yAnd_f, yLt_t, yLt_f, yLe_t, yLe_f, true_and, and_true, forall_const, Bool.true_eq_false, Bool.false_eq_true, false_implies, selI_t, selI_f, k1]
    repeat' (first | apply And.intro | intro _)
    all_goals first
      | trivial
      | (exfalso; omega)
  | false =>
    have hk2 := okNw_f hk
    simp only [yAnd_t, yLe_t, yLt_t] at hh
    simp only [yNot_t, yNot_f, yAnd_t, yAnd_f, yLt_t, yLt_f, yLe_t, yLe_f, true_and, and_true, selI_t, selI_f]
    repeat' (first | apply And.intro | intro _)
    all_goals first
      | trivial
      | (exfalso; omega)
      | (exfalso; exact hk2 ⟨by assumption, by omega, by omega, by assumption, by omega, by omega⟩)
set_option maxRecDepth 100000 in
theorem goalNwR_tt : (goalNwR) = True := goalNwR_eq.trans (eq_true goalNwR_vc)
theorem goalNwR_ok : goalNwR := @ft' goalNwR goalNwR_tt
def goalWtP_0 (E : EdS) := yAnd (yLe (0 : Int) (qH E)) (yLt (qH E) (18446744073709551616 : Int)) = false → False
def goalWtPV : Prop := (∀ (_sp _sv _sn _si : Int) (_inr : Bool) (_dp ls lt lf ll lp : Int) (E : EdS) (_po _mk _ma _mb : Int), invE ls lt lf ll lp E = true → (yEq (qAt E) (1 : Int) = true → (yAnd (yLe (0 : Int) (qH E)) (yLt (qH E) (18446744073709551616 : Int)) = true → (rightC ls lt lf ll lp = true → (yAnd (yLe (0 : Int) (qV E)) (yLt (qV E) (18446744073709551616 : Int)) = true → wtK E = (3 : Int) ∧ wtA ls lt lf E = verC ls lt lf (slotC (qH E)) ∧ wtO E = qV E ∧ wtN E = lockC (qV E) ∧ true = true) ∧ (yAnd (yLe (0 : Int) (qV E)) (yLt (qV E) (18446744073709551616 : Int)) = false → False)) ∧ (rightC ls lt lf ll lp = false → False)) ∧ (goalWtP_0 E)) ∧ (yEq (qAt E) (1 : Int) = false → (yEq (qAt E) (2 : Int) = true → (yAnd (yLe (0 : Int) (qH E)) (yLt (qH E) (18446744073709551616 : Int)) = true → (rightC ls lt lf ll lp = true → wtK E = (1 : Int) ∧ wtA ls lt lf E = keyC ls lt lf (slotC (qH E)) (yInt (qNk E)) ∧ wtO E = (0 : Int) ∧ wtN E = (0 : Int) ∧ true = true) ∧ (rightC ls lt lf ll lp = false → False)) ∧ (goalWtP_0 E)) ∧ (yEq (qAt E) (2 : Int) = false → (yEq (qAt E) (3 : Int) = true → (yAnd (yLe (0 : Int) (qH E)) (yLt (qH E) (18446744073709551616 : Int)) = true → (rightC ls lt lf ll lp = true → wtK E = (1 : Int) ∧ wtA ls lt lf E = valC ls lt lf (slotC (qH E)) (yInt (qNv E)) ∧ wtO E = (0 : Int) ∧ wtN E = (0 : Int) ∧ true = true) ∧ (rightC ls lt lf ll lp = false → False)) ∧ (goalWtP_0 E)) ∧ (yEq (qAt E) (3 : Int) = false → (yEq (qAt E) (4 : Int) = true → (yIn (0 : Int) (qNw E) = true → (yIn (0 : Int) (qNw E) = true → wtK E = (2 : Int) ∧ wtA ls lt lf E = qWa E (nat_lit 0) ∧ wtO E = (0 : Int) ∧ wtN E = qWb E (nat_lit 0) ∧ true = true) ∧ (yIn (0 : Int) (qNw E) = false → False)) ∧ (yIn (0 : Int) (qNw E) = false → False)) ∧ (yEq (qAt E) (4 : Int) = false → (yEq (qAt E) (5 : Int) = true → (yAnd (yLe (0 : Int) (qH E)) (yLt (qH E) (18446744073709551616 : Int)) = true → (rightC ls lt lf ll lp = true → wtK E = (2 : Int) ∧ wtA ls lt lf E = verC ls lt lf (slotC (qH E)) ∧ wtO E = (0 : Int) ∧ wtN E = qV E ∧ true = true) ∧ (rightC ls lt lf ll lp = false → False)) ∧ (goalWtP_0 E)) ∧ (yEq (qAt E) (5 : Int) = false → wtK E = (0 : Int) ∧ wtA ls lt lf E = (0 : Int) ∧ wtO E = (0 : Int) ∧ wtN E = (0 : Int) ∧ true = true))))))
set_option maxRecDepth 100000 in
theorem goalWtP_eq : goalWtP = goalWtPV := by kernel_rfl
set_option maxRecDepth 100000 in
set_option maxHeartbeats 4000000 in
theorem goalWtP_vc : goalWtPV := by
  unfold goalWtPV goalWtP_0
  intro sp sv sn si inr dp ls lt lf ll lp E po mk ma mb hE
  unfold invE at hE
  rw [decide_eq_true_iff] at hE
  simp only [qH, qV, qAt, qNk, qNv, qNw, qWa, qWb, wtK, wtA, wtO, wtN]
  obtain ⟨hh, hE⟩ := hE
  simp only [inU, yAnd_t, yLe_t, yLt_t] at hh
  rcases hE with h0 | ⟨hr, hv, hs, hnb, hkd, hn, hst⟩
  · simp only [h0, yEq_t, yEq_f, yAnd_t, yAnd_f, yLt_t, yLt_f, yLe_t, yLe_f, yIn_t, yIn_f, yInt_e, true_and, and_true, false_implies, Int.reduceEq, if_false]
    repeat' (first | apply And.intro | intro _)
    all_goals first
      | trivial
      | (exfalso; omega)
  · simp only [inU, yAnd_t, yLe_t, yLt_t] at hv
    simp only [yEq_t, yEq_f, yAnd_t, yAnd_f, yLt_t, yLt_f, yLe_t, yLe_f, yIn_t, yIn_f, yInt_e, and_true, forall_const, Bool.true_eq_false, false_implies, hr]
    repeat' (first | apply And.intro | intro _)
    all_goals first
      | trivial
      | (exfalso; omega)
      | ((repeat' split) <;> first | rfl | omega | (exfalso; omega) | (trace_state; fail))
set_option maxRecDepth 100000 in
theorem goalWtP_tt : (goalWtP) = True := goalWtP_eq.trans (eq_true goalWtP_vc)
theorem goalWtP_ok : goalWtP := @ft' goalWtP goalWtP_tt
def goalWtR_0 (E : EdS) (cs : Int) := yAnd (yLe (0 : Int) (slotC (qH E))) (yLe (slotC (qH E)) cs)
def goalWtRV : Prop := (∀ (cs ct cf cl cp : Int) (E : EdS) (_po : Int) (_mn : Bool) (_ml : Nat) (_m1 _m2 _m3 : Nat → Int), invE cs ct cf cl cp E = true → (yAnd (yLe (0 : Int) (qH E)) (yLt (qH E) (18446744073709551616 : Int)) = true → (yEq (qAt E) (1 : Int) = true → (yAnd (rightC cs ct cf cl cp) (goalWtR_0 E cs) = true → (yAnd (yLe (0 : Int) (qV E)) (yLt (qV E) (18446744073709551616 : Int)) = true → wtK E = (3 : Int) ∧ wtA cs ct cf E = verC cs ct cf (slotC (qH E)) ∧ wtO E = qV E ∧ wtN E = lockC (qV E) ∧ true = true) ∧ (yAnd (yLe (0 : Int) (qV E)) (yLt (qV E) (18446744073709551616 : Int)) = false → False)) ∧ (yAnd (rightC cs ct cf cl cp) (goalWtR_0 E cs) = false → False)) ∧ (yEq (qAt E) (1 : Int) = false → (yEq (qAt E) (2 : Int) = true → (yAnd (yAnd (rightC cs ct cf cl cp) (goalWtR_0 E cs)) (yAnd (yLe (0 : Int) (yInt (qNk E))) (yLt (yInt (qNk E)) cf)) = true → wtK E = (1 : Int) ∧ wtA cs ct cf E = keyC cs ct cf (slotC (qH E)) (yInt (qNk E)) ∧ wtO E = (0 : Int) ∧ wtN E = (0 : Int) ∧ true = true) ∧ (yAnd (yAnd (rightC cs ct cf cl cp) (goalWtR_0 E cs)) (yAnd (yLe (0 : Int) (yInt (qNk E))) (yLt (yInt (qNk E)) cf)) = false → False)) ∧ (yEq (qAt E) (2 : Int) = false → (yEq (qAt E) (3 : Int) = true → (yAnd (yAnd (rightC cs ct cf cl cp) (goalWtR_0 E cs)) (yAnd (yLe (0 : Int) (yInt (qNv E))) (yLt (yInt (qNv E)) cf)) = true → wtK E = (1 : Int) ∧ wtA cs ct cf E = valC cs ct cf (slotC (qH E)) (yInt (qNv E)) ∧ wtO E = (0 : Int) ∧ wtN E = (0 : Int) ∧ true = true) ∧ (yAnd (yAnd (rightC cs ct cf cl cp) (goalWtR_0 E cs)) (yAnd (yLe (0 : Int) (yInt (qNv E))) (yLt (yInt (qNv E)) cf)) = false → False)) ∧ (yEq (qAt E) (3 : Int) = false → (yEq (qAt E) (4 : Int) = true → (yIn (0 : Int) (qNw E) = true → (yIn (0 : Int) (qNw E) = true → wtK E = (2 : Int) ∧ wtA cs ct cf E = qWa E (nat_lit 0) ∧ wtO E = (0 : Int) ∧ wtN E = qWb E (nat_lit 0) ∧ true = true) ∧ (yIn (0 : Int) (qNw E) = false → False)) ∧ (yIn (0 : Int) (qNw E) = false → False)) ∧ (yEq (qAt E) (4 : Int) = false → (yEq (qAt E) (5 : Int) = true → (yAnd (rightC cs ct cf cl cp) (goalWtR_0 E cs) = true → wtK E = (2 : Int) ∧ wtA cs ct cf E = verC cs ct cf (slotC (qH E)) ∧ wtO E = (0 : Int) ∧ wtN E = qV E ∧ true = true) ∧ (yAnd (rightC cs ct cf cl cp) (goalWtR_0 E cs) = false → False)) ∧ (yEq (qAt E) (5 : Int) = false → wtK E = (0 : Int) ∧ wtA cs ct cf E = (0 : Int) ∧ wtO E = (0 : Int) ∧ wtN E = (0 : Int) ∧ true = true)))))) ∧ (yAnd (yLe (0 : Int) (qH E)) (yLt (qH E) (18446744073709551616 : Int)) = false → False))
set_option maxRecDepth 100000 in
theorem goalWtR_eq : goalWtR = goalWtRV := by kernel_rfl
set_option maxRecDepth 100000 in
set_option maxHeartbeats 4000000 in
theorem goalWtR_vc : goalWtRV := by
  unfold goalWtRV goalWtR_0
  intro cs ct cf cl cp E po mn ml m1 m2 m3 hE
  unfold invE at hE
  rw [decide_eq_true_iff] at hE
  simp only [qH, qV, qAt, qNk, qNv, qNw, qWa, qWb, wtK, wtA, wtO, wtN]
  obtain ⟨hh, hE⟩ := hE
  simp only [inU, yAnd_t, yLe_t, yLt_t] at hh
  rcases hE with h0 | ⟨hr, hv, hs, hnb, hkd, hn, hst⟩
  · simp only [h0, yEq_t, yEq_f, yAnd_t, yAnd_f, yLt_t, yLt_f, yLe_t, yLe_f, yIn_t, yIn_f, yInt_e, true_and, and_true, false_implies, Int.reduceEq, if_false]
    repeat' (first | apply And.intro | intro _)
    all_goals first
      | trivial
      | (exfalso; omega)
  · simp only [inU, yAnd_t, yLe_t, yLt_t] at hv
    simp only [yEq_t, yEq_f, yAnd_t, yAnd_f, yLt_t, yLt_f, yLe_t, yLe_f, yIn_t, yIn_f, yInt_e, true_and, and_true, Bool.true_eq_false, hr, false_or]
    repeat' (first | apply And.intro | intro _)
    all_goals first
      | trivial
      | (exfalso; omega)
      | ((repeat' split) <;> first | rfl | omega | (exfalso; omega) | (trace_state; fail))
set_option maxRecDepth 100000 in
theorem goalWtR_tt : (goalWtR) = True := goalWtR_eq.trans (eq_true goalWtR_vc)
theorem goalWtR_ok : goalWtR := @ft' goalWtR goalWtR_tt
def goalDnPV : Prop := (∀ (_sp _sv _sn _si : Int) (_inr : Bool) (_dp _ls _lt _lf _ll _lp : Int) (E : EdS) (po _mk _ma _mb : Int), invO E po = true → (yNot (yEq (qAt E) (0 : Int)) = true → dnE E po = (0 : Int) ∧ oldE E po = (0 : Int) ∧ true = true) ∧ (yNot (yEq (qAt E) (0 : Int)) = false → (yNot (yEq po (1 : Int)) = true → dnE E po = (3 : Int) ∧ oldE E po = (0 : Int) ∧ true = true) ∧ (yNot (yEq po (1 : Int)) = false → (yEq (qKd E) (2 : Int) = true → dnE E po = (1 : Int) ∧ oldE E po = (0 : Int) ∧ true = true) ∧ (yEq (qKd E) (2 : Int) = false → (yIn (qIx E) (qNv E) = true → dnE E po = (1 : Int) ∧ oldE E po = qW E (yNat (qIx E)) ∧ true = true) ∧ (yIn (qIx E) (qNv E) = false → False)))))
set_option maxRecDepth 100000 in
theorem goalDnP_eq : goalDnP = goalDnPV := by kernel_rfl
set_option maxRecDepth 100000 in
set_option maxHeartbeats 4000000 in
theorem goalDnP_vc : goalDnPV := by
  unfold goalDnPV
  intro sp sv sn si inr dp ls lt lf ll lp E po mk ma mb hE
  unfold invO at hE
  rw [decide_eq_true_iff] at hE
  simp only [qAt, qKd, qIx, qNv, qW, dnE, oldE]
  simp only [yNot_t, yNot_f, yEq_t, yEq_f, yIn_t, yIn_f, and_true]
  repeat' (first | apply And.intro | intro _)
  all_goals first
    | trivial
    | (exfalso; omega)
    | (exfalso; rcases hE (by assumption) (by assumption) with h | h <;> omega)
    | ((repeat' split) <;> first | rfl | omega | (exfalso; omega))
set_option maxRecDepth 100000 in
theorem goalDnP_tt : (goalDnP) = True := goalDnP_eq.trans (eq_true goalDnP_vc)
theorem goalDnP_ok : goalDnP := @ft' goalDnP goalDnP_tt
def goalOlRV : Prop := (∀ (E : EdS) (po : Int) (_mn : Bool) (_ml : Nat) (_m1 _m2 _m3 : Nat → Int), invO E po = true → (yNot (yEq (qAt E) (0 : Int)) = true → oldE E po = (0 : Int) ∧ true = true) ∧ (yNot (yEq (qAt E) (0 : Int)) = false → (yNot (yEq po (1 : Int)) = true → oldE E po = (0 : Int) ∧ true = true) ∧ (yNot (yEq po (1 : Int)) = false → (yEq (qKd E) (2 : Int) = true → oldE E po = (0 : Int) ∧ true = true) ∧ (yEq (qKd E) (2 : Int) = false → (yIn (qIx E) (qNv E) = true → oldE E po = qW E (yNat (qIx E)) ∧ true = true) ∧ (yIn (qIx E) (qNv E) = false → False)))))
set_option maxRecDepth 100000 in
theorem goalOlR_eq : goalOlR = goalOlRV := by kernel_rfl
set_option maxRecDepth 100000 in
set_option maxHeartbeats 4000000 in
theorem goalOlR_vc : goalOlRV := by
  unfold goalOlRV
  intro E po mn ml m1 m2 m3 hE
  unfold invO at hE
  rw [decide_eq_true_iff] at hE
  simp only [qAt, qKd, qIx, qNv, qW, oldE]
  simp only [yNot_t, yNot_f, yEq_t, yEq_f, yIn_t, yIn_f, and_true]
  repeat' (first | apply And.intro | intro _)
  all_goals first
    | trivial
    | (exfalso; omega)
    | (exfalso; rcases hE (by assumption) (by assumption) with h | h <;> omega)
    | ((repeat' split) <;> first | rfl | omega | (exfalso; omega))
set_option maxRecDepth 100000 in
theorem goalOlR_tt : (goalOlR) = True := goalOlR_eq.trans (eq_true goalOlR_vc)
theorem goalOlR_ok : goalOlR := @ft' goalOlR goalOlR_tt
def goalPlP_0 (E : EdS) := yAnd (yAnd (yLe (0 : Int) (qV E)) (yLt (qV E) (18446744073709551616 : Int))) (yAnd (yNle (qNk E) (nat_lit 80)) (yNle (qNv E) (nat_lit 80)))
def goalPlP_1 (ls : Int) (lt : Int) (lf : Int) (E : EdS) := insL ls lt lf (slotC (qH E)) (qV E) (qNb E) (qNk E) (fun (i : Nat) => qK E i) (qNv E) (fun (i : Nat) => qW E i) (qIx E) (qKey E) (qVal E)
def goalPlP_2 (ls : Int) (lt : Int) (lf : Int) (E : EdS) := remL ls lt lf (slotC (qH E)) (qV E) (qNb E) (qNk E) (fun (i : Nat) => qK E i) (qNv E) (fun (i : Nat) => qW E i) (qIx E)
def goalPlP_3 (E : EdS) := yCol (CK.int IntKind.u64) (qNk E) fun (i : Nat) => AV.y IntKind.u64 (qK E i)
def goalPlP_4 (E : EdS) := yCol (CK.int IntKind.u64) (qNv E) fun (i : Nat) => AV.y IntKind.u64 (qW E i)
def goalPlP_5 (ls : Int) (lt : Int) (lf : Int) (E : EdS) := setL ls lt lf (slotC (qH E)) (qV E) (qNb E) (qNk E) (fun (i : Nat) => qK E i) (qNv E) (qIx E) (qVal E)
def goalPlPV : Prop := (∀ (_sp _sv _sn _si : Int) (_inr : Bool) (_dp ls lt lf ll lp : Int) (E : EdS) (_po _mk _ma _mb : Int), prePl ls lt lf ll lp E = true → (yAnd (yLe (0 : Int) (qH E)) (yLt (qH E) (18446744073709551616 : Int)) = true → (yEq (qKd E) (1 : Int) = true → ((goalPlP_3 E) = true → ((goalPlP_4 E) = true → (yAnd (rightC ls lt lf ll lp) (goalPlP_0 E) = true → rE (plE ls lt lf E) = rE (goalPlP_5 ls lt lf E) ∧ nat_lit 0 = nat_lit 0 ∧ rN (plE ls lt lf E) = rN (goalPlP_5 ls lt lf E) ∧ rN (plE ls lt lf E) = rN (goalPlP_5 ls lt lf E) ∧ (∀ (i : Nat), Nat.succ i ≤ rN (plE ls lt lf E) → rA (plE ls lt lf E) i = rA (goalPlP_5 ls lt lf E) i ∧ rB (plE ls lt lf E) i = rB (goalPlP_5 ls lt lf E) i ∧ True) ∧ true = true) ∧ (yAnd (rightC ls lt lf ll lp) (goalPlP_0 E) = false → False)) ∧ ((goalPlP_4 E) = false → False)) ∧ ((goalPlP_3 E) = false → False)) ∧ (yEq (qKd E) (1 : Int) = false → (yEq (qKd E) (2 : Int) = true → ((goalPlP_3 E) = true → ((goalPlP_4 E) = true → (yAnd (rightC ls lt lf ll lp) (goalPlP_0 E) = true → rE (plE ls lt lf E) = rE (goalPlP_1 ls lt lf E) ∧ nat_lit 0 = nat_lit 0 ∧ rN (plE ls lt lf E) = rN (goalPlP_1 ls lt lf E) ∧ rN (plE ls lt lf E) = rN (goalPlP_1 ls lt lf E) ∧ (∀ (i : Nat), Nat.succ i ≤ rN (plE ls lt lf E) → rA (plE ls lt lf E) i = rA (goalPlP_1 ls lt lf E) i ∧ rB (plE ls lt lf E) i = rB (goalPlP_1 ls lt lf E) i ∧ True) ∧ true = true) ∧ (yAnd (rightC ls lt lf ll lp) (goalPlP_0 E) = false → False)) ∧ ((goalPlP_4 E) = false → False)) ∧ ((goalPlP_3 E) = false → False)) ∧ (yEq (qKd E) (2 : Int) = false → ((goalPlP_3 E) = true → ((goalPlP_4 E) = true → (yAnd (rightC ls lt lf ll lp) (goalPlP_0 E) = true → rE (plE ls lt lf E) = rE (goalPlP_2 ls lt lf E) ∧ nat_lit 0 = nat_lit 0 ∧ rN (plE ls lt lf E) = rN (goalPlP_2 ls lt lf E) ∧ rN (plE ls lt lf E) = rN (goalPlP_2 ls lt lf E) ∧ (∀ (i : Nat), Nat.succ i ≤ rN (plE ls lt lf E) → rA (plE ls lt lf E) i = rA (goalPlP_2 ls lt lf E) i ∧ rB (plE ls lt lf E) i = rB (goalPlP_2 ls lt lf E) i ∧ True) ∧ true = true) ∧ (yAnd (rightC ls lt lf ll lp) (goalPlP_0 E) = false → False)) ∧ ((goalPlP_4 E) = false → False)) ∧ ((goalPlP_3 E) = false → False)))) ∧ (yAnd (yLe (0 : Int) (qH E)) (yLt (qH E) (18446744073709551616 : Int)) = false → False))
set_option maxRecDepth 100000 in
theorem goalPlP_eq : goalPlP = goalPlPV := by kernel_rfl
set_option maxRecDepth 100000 in
set_option maxHeartbeats 4000000 in
theorem goalPlP_vc : goalPlPV := by
  unfold goalPlPV goalPlP_5 goalPlP_4 goalPlP_3 goalPlP_2 goalPlP_1 goalPlP_0
  intro sp sv sn si inr dp ls lt lf ll lp E po mk ma mb hE
  unfold prePl at hE
  simp only [yAnd_t, yNle_t] at hE
  obtain ⟨hr, hh, hv, h8, h9⟩ := hE
  have hh2 := hh
  have hv2 := hv
  simp only [inU, yAnd_t, yLe_t, yLt_t] at hh2 hv2
  by_cases k1 : E.kd = 1
  · have hP : plE ls lt lf E = setL ls lt lf (slotC E.h) E.v E.nb E.nk E.k E.nv E.ix E.val := by unfold plE; rw [if_pos k1]
    have e1 : qKd E = 1 := k1
    simp only [yEq_t, yEq_f, yAnd_t, yAnd_f, yLt_t, yLt_f, yLe_t, yLe_f, yNle_t, yNle_f, yCol_int, true_and, and_true, forall_const, Bool.true_eq_false, false_implies, false_or, hP, hr, eq_true e1]
    repeat' (first | apply And.intro | intro _)
    all_goals first
      | rfl
      | trivial
      | (exfalso; simp only [qH, qV, qNk, qNv] at *; omega)
  · by_cases k2 : E.kd = 2
    · have hP : plE ls lt lf E = insL ls lt lf (slotC E.h) E.v E.nb E.nk E.k E.nv E.w E.ix E.key E.val := by unfold plE; rw [if_neg k1, if_pos k2]
      have e1 : ¬ qKd E = 1 := k1
      have e2 : qKd E = 2 := k2
      simp only [yEq_t, yEq_f, yAnd_t, yAnd_f, yLt_t, yLt_f, yLe_t, yLe_f, yNle_t, yNle_f, yCol_int, true_and, and_true, forall_const, Bool.true_eq_false, false_implies, false_or, hP, hr, eq_false e1, eq_true e2]
      repeat' (first | apply And.intro | intro _)
      all_goals first
        | rfl
        | trivial
        | (exfalso; simp only [qH, qV, qNk, qNv] at *; omega)
    · have hP : plE ls lt lf E = remL ls lt lf (slotC E.h) E.v E.nb E.nk E.k E.nv E.w E.ix := by unfold plE; rw [if_neg k1, if_neg k2]
      have e1 : ¬ qKd E = 1 := k1
      have e2 : ¬ qKd E = 2 := k2
      simp only [yEq_t, yEq_f, yAnd_t, yAnd_f, yLt_t, yLt_f, yLe_t, yLe_f, yNle_t, yNle_f, yCol_int, true_and, and_true, forall_const, Bool.true_eq_false, false_implies, false_or, hP, hr, eq_false e1, eq_false e2]
      repeat' (first | apply And.intro | intro _)
      all_goals first
        | rfl
        | trivial
        | (exfalso; simp only [qH, qV, qNk, qNv] at *; omega)
set_option maxRecDepth 100000 in
theorem goalPlP_tt : (goalPlP) = True := goalPlP_eq.trans (eq_true goalPlP_vc)
theorem goalPlP_ok : goalPlP := @ft' goalPlP goalPlP_tt
def goalPlR_0 (E : EdS) := yAnd (yAnd (yLe (0 : Int) (qV E)) (yLt (qV E) (18446744073709551616 : Int))) (yAnd (yNle (qNk E) (nat_lit 80)) (yNle (qNv E) (nat_lit 80)))
def goalPlR_1 (cs : Int) (ct : Int) (cf : Int) (E : EdS) := insL cs ct cf (slotC (qH E)) (qV E) (qNb E) (qNk E) (fun (i : Nat) => qK E i) (qNv E) (fun (i : Nat) => qW E i) (qIx E) (qKey E) (qVal E)
def goalPlR_2 (cs : Int) (ct : Int) (cf : Int) (E : EdS) := remL cs ct cf (slotC (qH E)) (qV E) (qNb E) (qNk E) (fun (i : Nat) => qK E i) (qNv E) (fun (i : Nat) => qW E i) (qIx E)
def goalPlR_3 (E : EdS) := yCol (CK.int IntKind.u64) (qNk E) fun (i : Nat) => AV.y IntKind.u64 (qK E i)
def goalPlR_4 (E : EdS) := yCol (CK.int IntKind.u64) (qNv E) fun (i : Nat) => AV.y IntKind.u64 (qW E i)
def goalPlR_5 (cs : Int) (ct : Int) (cf : Int) (E : EdS) := setL cs ct cf (slotC (qH E)) (qV E) (qNb E) (qNk E) (fun (i : Nat) => qK E i) (qNv E) (qIx E) (qVal E)
def goalPlRV : Prop := (∀ (cs ct cf cl cp : Int) (E : EdS) (_po : Int) (_mn : Bool) (_ml : Nat) (_m1 _m2 _m3 : Nat → Int), prePl cs ct cf cl cp E = true → (yAnd (yLe (0 : Int) (qH E)) (yLt (qH E) (18446744073709551616 : Int)) = true → (yEq (qKd E) (1 : Int) = true → ((goalPlR_3 E) = true → ((goalPlR_4 E) = true → (yAnd (rightC cs ct cf cl cp) (goalPlR_0 E) = true → rE (plE cs ct cf E) = rE (goalPlR_5 cs ct cf E) ∧ nat_lit 0 = nat_lit 0 ∧ rN (plE cs ct cf E) = rN (goalPlR_5 cs ct cf E) ∧ rN (plE cs ct cf E) = rN (goalPlR_5 cs ct cf E) ∧ (∀ (i : Nat), Nat.succ i ≤ rN (plE cs ct cf E) → rA (plE cs ct cf E) i = rA (goalPlR_5 cs ct cf E) i ∧ rB (plE cs ct cf E) i = rB (goalPlR_5 cs ct cf E) i ∧ True) ∧ true = true) ∧ (yAnd (rightC cs ct cf cl cp) (goalPlR_0 E) = false → False)) ∧ ((goalPlR_4 E) = false → False)) ∧ ((goalPlR_3 E) = false → False)) ∧ (yEq (qKd E) (1 : Int) = false → (yEq (qKd E) (2 : Int) = true → ((goalPlR_3 E) = true → ((goalPlR_4 E) = true → (yAnd (rightC cs ct cf cl cp) (goalPlR_0 E) = true → rE (plE cs ct cf E) = rE (goalPlR_1 cs ct cf E) ∧ nat_lit 0 = nat_lit 0 ∧ rN (plE cs ct cf E) = rN (goalPlR_1 cs ct cf E) ∧ rN (plE cs ct cf E) = rN (goalPlR_1 cs ct cf E) ∧ (∀ (i : Nat), Nat.succ i ≤ rN (plE cs ct cf E) → rA (plE cs ct cf E) i = rA (goalPlR_1 cs ct cf E) i ∧ rB (plE cs ct cf E) i = rB (goalPlR_1 cs ct cf E) i ∧ True) ∧ true = true) ∧ (yAnd (rightC cs ct cf cl cp) (goalPlR_0 E) = false → False)) ∧ ((goalPlR_4 E) = false → False)) ∧ ((goalPlR_3 E) = false → False)) ∧ (yEq (qKd E) (2 : Int) = false → ((goalPlR_3 E) = true → ((goalPlR_4 E) = true → (yAnd (rightC cs ct cf cl cp) (goalPlR_0 E) = true → rE (plE cs ct cf E) = rE (goalPlR_2 cs ct cf E) ∧ nat_lit 0 = nat_lit 0 ∧ rN (plE cs ct cf E) = rN (goalPlR_2 cs ct cf E) ∧ rN (plE cs ct cf E) = rN (goalPlR_2 cs ct cf E) ∧ (∀ (i : Nat), Nat.succ i ≤ rN (plE cs ct cf E) → rA (plE cs ct cf E) i = rA (goalPlR_2 cs ct cf E) i ∧ rB (plE cs ct cf E) i = rB (goalPlR_2 cs ct cf E) i ∧ True) ∧ true = true) ∧ (yAnd (rightC cs ct cf cl cp) (goalPlR_0 E) = false → False)) ∧ ((goalPlR_4 E) = false → False)) ∧ ((goalPlR_3 E) = false → False)))) ∧ (yAnd (yLe (0 : Int) (qH E)) (yLt (qH E) (18446744073709551616 : Int)) = false → False))
set_option maxRecDepth 100000 in
theorem goalPlR_eq : goalPlR = goalPlRV := by kernel_rfl
set_option maxRecDepth 100000 in
set_option maxHeartbeats 4000000 in
theorem goalPlR_vc : goalPlRV := by
  unfold goalPlRV goalPlR_5 goalPlR_4 goalPlR_3 goalPlR_2 goalPlR_1 goalPlR_0
  intro cs ct cf cl cp E po mn ml m1 m2 m3 hE
  unfold prePl at hE
  simp only [yAnd_t, yNle_t] at hE
  obtain ⟨hr, hh, hv, h8, h9⟩ := hE
  have hh2 := hh
  have hv2 := hv
  simp only [inU, yAnd_t, yLe_t, yLt_t] at hh2 hv2
  by_cases k1 : E.kd = 1
  · have hP : plE cs ct cf E = setL cs ct cf (slotC E.h) E.v E.nb E.nk E.k E.nv E.ix E.val := by unfold plE; rw [if_pos k1]
    have e1 : qKd E = 1 := k1
    simp only [yEq_t, yEq_f, yAnd_t, yAnd_f, yLt_t, yLt_f, yLe_t, yLe_f, yNle_t, yNle_f, yCol_int, true_and, and_true, forall_const, Bool.true_eq_false, false_implies, false_or, hP, hr, eq_true e1]
    repeat' (first | apply And.intro | intro _)
    all_goals first
      | rfl
      | trivial
      | (exfalso; simp only [qH, qV, qNk, qNv] at *; omega)
  · by_cases k2 : E.kd = 2
    · have hP : plE cs ct cf E = insL cs ct cf (slotC E.h) E.v E.nb E.nk E.k E.nv E.w E.ix E.key E.val := by unfold plE; rw [if_neg k1, if_pos k2]
      have e1 : ¬ qKd E = 1 := k1
      have e2 : qKd E = 2 := k2
      simp only [yEq_t, yEq_f, yAnd_t, yAnd_f, yLt_t, yLt_f, yLe_t, yLe_f, yNle_t, yNle_f, yCol_int, true_and, and_true, forall_const, Bool.true_eq_false, false_implies, false_or, hP, hr, eq_false e1, eq_true e2]
      repeat' (first | apply And.intro | intro _)
      all_goals first
        | rfl
        | trivial
        | (exfalso; simp only [qH, qV, qNk, qNv] at *; omega)
    · have hP : plE cs ct cf E = remL cs ct cf (slotC E.h) E.v E.nb E.nk E.k E.nv E.w E.ix := by unfold plE; rw [if_neg k1, if_neg k2]
      have e1 : ¬ qKd E = 1 := k1
      have e2 : ¬ qKd E = 2 := k2
      simp only [yEq_t, yEq_f, yAnd_t, yAnd_f, yLt_t, yLt_f, yLe_t, yLe_f, yNle_t, yNle_f, yCol_int, true_and, and_true, forall_const, Bool.true_eq_false, false_implies, false_or, hP, hr, eq_false e1, eq_false e2]
      repeat' (first | apply And.intro | intro _)
      all_goals first
        | rfl
        | trivial
        | (exfalso; simp only [qH, qV, qNk, qNv] at *; omega)
set_option maxRecDepth 100000 in
theorem goalPlR_tt : (goalPlR) = True := goalPlR_eq.trans (eq_true goalPlR_vc)
theorem goalPlR_ok : goalPlR := @ft' goalPlR goalPlR_tt
end Go.Proofs.YtlfehgagnelbhaaGreatDoor.Ex
namespace Go.Proofs.YtlfehgagnelbhaaGreatDoor.Ex
open Go

theorem rE_t {l : List (Int × Int)} (h : (rN l : Int) = 0) : rE l = true := by cases l with | nil => rfl | cons a l => simp [rN] at h; omega
theorem rE_f {l : List (Int × Int)} (h : ¬ (rN l : Int) = 0) : rE l = false := by cases l with | nil => exact absurd rfl h | cons a l => rfl
def goalRdP_0 (ls : Int) (lt : Int) (lf : Int) (E : EdS) := plE ls lt lf { h := qH E, v := qV E, n := qN E, kd := qKd E, ix := qIx E, key := qKey E, val := qVal E, at_ := qAt E, nb := qNb E, kn := qKn E, nk := qNk E, k := fun (i : Nat) => qK E i, vn := qVn E, nv := qNv E, w := fun (i : Nat) => qW E i, lk := qLk E, wn := qWn E, nw := qNw E, wa := fun (i : Nat) => qWa E i, wb := fun (i : Nat) => qWb E i }
def goalRdP_1 (ls : Int) (lt : Int) (lf : Int) (E : EdS) := qKn (rdE ls lt lf (nmE E)) = qKn E ∧ qNk (rdE ls lt lf (nmE E)) = qNk E ∧ ∀ (i : Nat), Nat.succ i ≤ qNk (rdE ls lt lf (nmE E)) → qK (rdE ls lt lf (nmE E)) i = qK E i ∧ True
def goalRdP_2 (ls : Int) (lt : Int) (lf : Int) (E : EdS) := qVn (rdE ls lt lf (nmE E)) = qVn E ∧ qNv (rdE ls lt lf (nmE E)) = qNv E ∧ ∀ (i : Nat), Nat.succ i ≤ qNv (rdE ls lt lf (nmE E)) → qW (rdE ls lt lf (nmE E)) i = qW E i ∧ True
def goalRdPV : Prop := (∀ (sp sv sn si : Int) (inr : Bool) (dp ls lt lf ll lp : Int) (E : EdS) (po mk ma mb : Int), prePl ls lt lf ll lp E = true → (yLt (yInt (qNk E)) (qN E) = true → sp = sp ∧ sv = sv ∧ sn = sn ∧ si = si ∧ qH (rdE ls lt lf (nmE E)) = qH E ∧ qV (rdE ls lt lf (nmE E)) = qV E ∧ qN (rdE ls lt lf (nmE E)) = qN E ∧ inr = inr ∧ dp = dp ∧ ls = ls ∧ lt = lt ∧ lf = lf ∧ ll = ll ∧ lp = lp ∧ qKd (rdE ls lt lf (nmE E)) = qKd E ∧ qIx (rdE ls lt lf (nmE E)) = qIx E ∧ qKey (rdE ls lt lf (nmE E)) = qKey E ∧ qVal (rdE ls lt lf (nmE E)) = qVal E ∧ qAt (rdE ls lt lf (nmE E)) = (2 : Int) ∧ po = po ∧ qNb (rdE ls lt lf (nmE E)) = qNb E ∧ (goalRdP_1 ls lt lf E) ∧ (goalRdP_2 ls lt lf E) ∧ qLk (rdE ls lt lf (nmE E)) = qLk E ∧ (qWn (rdE ls lt lf (nmE E)) = qWn E ∧ qNw (rdE ls lt lf (nmE E)) = qNw E ∧ ∀ (i : Nat), Nat.succ i ≤ qNw (rdE ls lt lf (nmE E)) → qWa (rdE ls lt lf (nmE E)) i = qWa E i ∧ qWb (rdE ls lt lf (nmE E)) i = qWb E i ∧ True) ∧ mk = mk ∧ ma = ma ∧ mb = mb ∧ true = true) ∧ (yLt (yInt (qNk E)) (qN E) = false → (yLt (yInt (qNv E)) (qN E) = true → sp = sp ∧ sv = sv ∧ sn = sn ∧ si = si ∧ qH (rdE ls lt lf (nmE E)) = qH E ∧ qV (rdE ls lt lf (nmE E)) = qV E ∧ qN (rdE ls lt lf (nmE E)) = qN E ∧ inr = inr ∧ dp = dp ∧ ls = ls ∧ lt = lt ∧ lf = lf ∧ ll = ll ∧ lp = lp ∧ qKd (rdE ls lt lf (nmE E)) = qKd E ∧ qIx (rdE ls lt lf (nmE E)) = qIx E ∧ qKey (rdE ls lt lf (nmE E)) = qKey E ∧ qVal (rdE ls lt lf (nmE E)) = qVal E ∧ qAt (rdE ls lt lf (nmE E)) = (3 : Int) ∧ po = po ∧ qNb (rdE ls lt lf (nmE E)) = qNb E ∧ (goalRdP_1 ls lt lf E) ∧ (goalRdP_2 ls lt lf E) ∧ qLk (rdE ls lt lf (nmE E)) = qLk E ∧ (qWn (rdE ls lt lf (nmE E)) = qWn E ∧ qNw (rdE ls lt lf (nmE E)) = qNw E ∧ ∀ (i : Nat), Nat.succ i ≤ qNw (rdE ls lt lf (nmE E)) → qWa (rdE ls lt lf (nmE E)) i = qWa E i ∧ qWb (rdE ls lt lf (nmE E)) i = qWb E i ∧ True) ∧ mk = mk ∧ ma = ma ∧ mb = mb ∧ true = true) ∧ (yLt (yInt (qNv E)) (qN E) = false → ((yCol (CK.int IntKind.u64) (qNk E) fun (i : Nat) => AV.y IntKind.u64 (qK E i)) = true → ((yCol (CK.int IntKind.u64) (qNv E) fun (i : Nat) => AV.y IntKind.u64 (qW E i)) = true → ((yCol (CK.int IntKind.i64) (qNw E) fun (i : Nat) => AV.y IntKind.i64 (qWa E i)) = true → ((yCol (CK.int IntKind.u64) (qNw E) fun (i : Nat) => AV.y IntKind.u64 (qWb E i)) = true → (prePl ls lt lf ll lp { h := qH E, v := qV E, n := qN E, kd := qKd E, ix := qIx E, key := qKey E, val := qVal E, at_ := qAt E, nb := qNb E, kn := qKn E, nk := qNk E, k := fun (i : Nat) => qK E i, vn := qVn E, nv := qNv E, w := fun (i : Nat) => qW E i, lk := qLk E, wn := qWn E, nw := qNw E, wa := fun (i : Nat) => qWa E i, wb := fun (i : Nat) => qWb E i } = true → (yEq (yInt (rN (goalRdP_0 ls lt lf E))) (0 : Int) = true → sp = sp ∧ sv = sv ∧ sn = sn ∧ si = si ∧ qH (rdE ls lt lf (nmE E)) = qH E ∧ qV (rdE ls lt lf (nmE E)) = qV E ∧ qN (rdE ls lt lf (nmE E)) = qN E ∧ inr = inr ∧ dp = dp ∧ ls = ls ∧ lt = lt ∧ lf = lf ∧ ll = ll ∧ lp = lp ∧ qKd (rdE ls lt lf (nmE E)) = qKd E ∧ qIx (rdE ls lt lf (nmE E)) = qIx E ∧ qKey (rdE ls lt lf (nmE E)) = qKey E ∧ qVal (rdE ls lt lf (nmE E)) = qVal E ∧ qAt (rdE ls lt lf (nmE E)) = (5 : Int) ∧ po = po ∧ qNb (rdE ls lt lf (nmE E)) = qNb E ∧ (goalRdP_1 ls lt lf E) ∧ (goalRdP_2 ls lt lf E) ∧ qLk (rdE ls lt lf (nmE E)) = qLk E ∧ qWn (rdE ls lt lf (nmE E)) = rE (goalRdP_0 ls lt lf E) ∧ qNw (rdE ls lt lf (nmE E)) = rN (goalRdP_0 ls lt lf E) ∧ yNadd (nat_lit 0) (rN (goalRdP_0 ls lt lf E)) ≤ rN (goalRdP_0 ls lt lf E) ∧ (∀ (i : Nat), Nat.succ i ≤ qNw (rdE ls lt lf (nmE E)) → qWa (rdE ls lt lf (nmE E)) i = rA (goalRdP_0 ls lt lf E) (yNadd (nat_lit 0) i) ∧ qWb (rdE ls lt lf (nmE E)) i = rB (goalRdP_0 ls lt lf E) (yNadd (nat_lit 0) i) ∧ True) ∧ mk = mk ∧ ma = ma ∧ mb = mb ∧ true = true) ∧ (yEq (yInt (rN (goalRdP_0 ls lt lf E))) (0 : Int) = false → sp = sp ∧ sv = sv ∧ sn = sn ∧ si = si ∧ qH (rdE ls lt lf (nmE E)) = qH E ∧ qV (rdE ls lt lf (nmE E)) = qV E ∧ qN (rdE ls lt lf (nmE E)) = qN E ∧ inr = inr ∧ dp = dp ∧ ls = ls ∧ lt = lt ∧ lf = lf ∧ ll = ll ∧ lp = lp ∧ qKd (rdE ls lt lf (nmE E)) = qKd E ∧ qIx (rdE ls lt lf (nmE E)) = qIx E ∧ qKey (rdE ls lt lf (nmE E)) = qKey E ∧ qVal (rdE ls lt lf (nmE E)) = qVal E ∧ qAt (rdE ls lt lf (nmE E)) = (4 : Int) ∧ po = po ∧ qNb (rdE ls lt lf (nmE E)) = qNb E ∧ (goalRdP_1 ls lt lf E) ∧ (goalRdP_2 ls lt lf E) ∧ qLk (rdE ls lt lf (nmE E)) = qLk E ∧ qWn (rdE ls lt lf (nmE E)) = rE (goalRdP_0 ls lt lf E) ∧ qNw (rdE ls lt lf (nmE E)) = rN (goalRdP_0 ls lt lf E) ∧ yNadd (nat_lit 0) (rN (goalRdP_0 ls lt lf E)) ≤ rN (goalRdP_0 ls lt lf E) ∧ (∀ (i : Nat), Nat.succ i ≤ qNw (rdE ls lt lf (nmE E)) → qWa (rdE ls lt lf (nmE E)) i = rA (goalRdP_0 ls lt lf E) (yNadd (nat_lit 0) i) ∧ qWb (rdE ls lt lf (nmE E)) i = rB (goalRdP_0 ls lt lf E) (yNadd (nat_lit 0) i) ∧ True) ∧ mk = mk ∧ ma = ma ∧ mb = mb ∧ true = true)) ∧ (prePl ls lt lf ll lp { h := qH E, v := qV E, n := qN E, kd := qKd E, ix := qIx E, key := qKey E, val := qVal E, at_ := qAt E, nb := qNb E, kn := qKn E, nk := qNk E, k := fun (i : Nat) => qK E i, vn := qVn E, nv := qNv E, w := fun (i : Nat) => qW E i, lk := qLk E, wn := qWn E, nw := qNw E, wa := fun (i : Nat) => qWa E i, wb := fun (i : Nat) => qWb E i } = false → False)) ∧ ((yCol (CK.int IntKind.u64) (qNw E) fun (i : Nat) => AV.y IntKind.u64 (qWb E i)) = false → False)) ∧ ((yCol (CK.int IntKind.i64) (qNw E) fun (i : Nat) => AV.y IntKind.i64 (qWa E i)) = false → False)) ∧ ((yCol (CK.int IntKind.u64) (qNv E) fun (i : Nat) => AV.y IntKind.u64 (qW E i)) = false → False)) ∧ ((yCol (CK.int IntKind.u64) (qNk E) fun (i : Nat) => AV.y IntKind.u64 (qK E i)) = false → False))))
set_option maxRecDepth 100000 in
theorem goalRdP_eq : goalRdP = goalRdPV := by kernel_rfl
set_option maxRecDepth 100000 in
set_option maxHeartbeats 4000000 in
theorem goalRdP_vc : goalRdPV := by
  unfold goalRdPV goalRdP_2 goalRdP_1 goalRdP_0
  intro sp sv sn si inr dp ls lt lf ll lp E po mk ma mb hE
  by_cases c1 : (E.nk : Int) < E.n
  · have hR : rdE ls lt lf (nmE E) = { nmE E with at_ := 2 } := by
      unfold rdE; rw [if_pos (show ((nmE E).nk : Int) < (nmE E).n from c1)]
    have e1 : (qNk E : Int) < qN E := c1
    simp only [yEq_t, yEq_f, yLt_t, yLt_f, yInt_e, yNadd_e, yCol_int, true_and, and_true, Nat.zero_add, Nat.le_refl, forall_const, Bool.true_eq_false, false_implies, hR, eq_true e1]
    repeat' (first | apply And.intro | intro _)
    all_goals first
      | rfl
      | trivial
      | omega
      | exact trI_lt (by assumption)
      | (refine ⟨?_, ?_⟩ <;> exact trI_lt (by assumption))
      | exact if_pos (rE_t (by assumption))
      | exact if_neg (by rw [rE_f (by assumption)]; exact Bool.false_ne_true)
      | (rename_i h; rw [hE] at h; cases h)
      | (rename_i h; exact absurd (h.symm.trans hE) Bool.false_ne_true)
      | (trace_state; fail)
  · have e1 : ¬ (qNk E : Int) < qN E := c1
    by_cases c2 : (E.nv : Int) < E.n
    · have hR : rdE ls lt lf (nmE E) = { nmE E with at_ := 3 } := by
        unfold rdE; rw [if_neg (show ¬ ((nmE E).nk : Int) < (nmE E).n from c1), if_pos (show ((nmE E).nv : Int) < (nmE E).n from c2)]
      have e2 : (qNv E : Int) < qN E := c2
      simp only [yEq_t, yEq_f, yLt_t, yLt_f, yInt_e, yNadd_e, yCol_int, true_and, and_true, Nat.zero_add, Nat.le_refl, forall_const, Bool.true_eq_false, false_implies, hR, eq_false e1, eq_true e2]
      repeat' (first | apply And.intro | intro _)
      all_goals first
        | rfl
        | trivial
        | omega
        | exact trI_lt (by assumption)
        | (refine ⟨?_, ?_⟩ <;> exact trI_lt (by assumption))
        | exact if_pos (rE_t (by assumption))
        | exact if_neg (by rw [rE_f (by assumption)]; exact Bool.false_ne_true)
        | (rename_i h; rw [hE] at h; cases h)
        | (rename_i h; exact absurd (h.symm.trans hE) Bool.false_ne_true)
        | (trace_state; fail)
    · have hR : rdE ls lt lf (nmE E) = { nmE E with wn := rE (plE ls lt lf E), nw := rN (plE ls lt lf E), wa := rA (plE ls lt lf E), wb := rB (plE ls lt lf E), at_ := if rE (plE ls lt lf E) then 5 else 4 } := by
        unfold rdE; rw [plE_nm, if_neg (show ¬ ((nmE E).nk : Int) < (nmE E).n from c1), if_neg (show ¬ ((nmE E).nv : Int) < (nmE E).n from c2)]
      have e2 : ¬ (qNv E : Int) < qN E := c2
      simp only [yEq_t, yEq_f, yLt_t, yLt_f, yInt_e, yNadd_e, yCol_int, true_and, and_true, Nat.zero_add, Nat.le_refl, forall_const, Bool.true_eq_false, false_implies, hR, eq_false e1, eq_false e2]
      repeat' (first | apply And.intro | intro _)
      all_goals first
        | rfl
        | trivial
        | omega
        | exact trI_lt (by assumption)
        | (refine ⟨?_, ?_⟩ <;> exact trI_lt (by assumption))
        | exact if_pos (rE_t (by assumption))
        | exact if_neg (by rw [rE_f (by assumption)]; exact Bool.false_ne_true)
        | (rename_i h; rw [hE] at h; cases h)
        | (rename_i h; exact absurd (h.symm.trans hE) Bool.false_ne_true)
        | (trace_state; fail)
set_option maxRecDepth 100000 in
theorem goalRdP_tt : (goalRdP) = True := goalRdP_eq.trans (eq_true goalRdP_vc)
theorem goalRdP_ok : goalRdP := @ft' goalRdP goalRdP_tt
def goalRdR_0 (cs : Int) (ct : Int) (cf : Int) (E : EdS) := plE cs ct cf { h := qH E, v := qV E, n := qN E, kd := qKd E, ix := qIx E, key := qKey E, val := qVal E, at_ := qAt E, nb := qNb E, kn := qKn E, nk := qNk E, k := fun (i : Nat) => qK E i, vn := qVn E, nv := qNv E, w := fun (i : Nat) => qW E i, lk := qLk E, wn := qWn E, nw := qNw E, wa := fun (i : Nat) => qWa E i, wb := fun (i : Nat) => qWb E i }
def goalRdR_1 (cs : Int) (ct : Int) (cf : Int) (E : EdS) := qKn (rdE cs ct cf (nmE E)) = qKn E ∧ qNk (rdE cs ct cf (nmE E)) = qNk E ∧ ∀ (i : Nat), Nat.succ i ≤ qNk (rdE cs ct cf (nmE E)) → qK (rdE cs ct cf (nmE E)) i = qK E i ∧ True
def goalRdR_2 (cs : Int) (ct : Int) (cf : Int) (E : EdS) := qVn (rdE cs ct cf (nmE E)) = qVn E ∧ qNv (rdE cs ct cf (nmE E)) = qNv E ∧ ∀ (i : Nat), Nat.succ i ≤ qNv (rdE cs ct cf (nmE E)) → qW (rdE cs ct cf (nmE E)) i = qW E i ∧ True
def goalRdRV : Prop := (∀ (cs ct cf cl cp : Int) (E : EdS) (po : Int) (mn : Bool) (ml : Nat) (m1 m2 m3 : Nat → Int), prePl cs ct cf cl cp E = true → (yLt (yInt (qNk E)) (qN E) = true → qH (rdE cs ct cf (nmE E)) = qH E ∧ qV (rdE cs ct cf (nmE E)) = qV E ∧ qN (rdE cs ct cf (nmE E)) = qN E ∧ qKd (rdE cs ct cf (nmE E)) = qKd E ∧ qIx (rdE cs ct cf (nmE E)) = qIx E ∧ qKey (rdE cs ct cf (nmE E)) = qKey E ∧ qVal (rdE cs ct cf (nmE E)) = qVal E ∧ qAt (rdE cs ct cf (nmE E)) = (2 : Int) ∧ po = po ∧ qNb (rdE cs ct cf (nmE E)) = qNb E ∧ (goalRdR_1 cs ct cf E) ∧ (goalRdR_2 cs ct cf E) ∧ qLk (rdE cs ct cf (nmE E)) = qLk E ∧ (qWn (rdE cs ct cf (nmE E)) = qWn E ∧ qNw (rdE cs ct cf (nmE E)) = qNw E ∧ ∀ (i : Nat), Nat.succ i ≤ qNw (rdE cs ct cf (nmE E)) → qWa (rdE cs ct cf (nmE E)) i = qWa E i ∧ qWb (rdE cs ct cf (nmE E)) i = qWb E i ∧ True) ∧ (mn = mn ∧ ml = ml ∧ ∀ (i : Nat), Nat.succ i ≤ ml → m1 i = m1 i ∧ m2 i = m2 i ∧ m3 i = m3 i ∧ True) ∧ true = true) ∧ (yLt (yInt (qNk E)) (qN E) = false → (yLt (yInt (qNv E)) (qN E) = true → qH (rdE cs ct cf (nmE E)) = qH E ∧ qV (rdE cs ct cf (nmE E)) = qV E ∧ qN (rdE cs ct cf (nmE E)) = qN E ∧ qKd (rdE cs ct cf (nmE E)) = qKd E ∧ qIx (rdE cs ct cf (nmE E)) = qIx E ∧ qKey (rdE cs ct cf (nmE E)) = qKey E ∧ qVal (rdE cs ct cf (nmE E)) = qVal E ∧ qAt (rdE cs ct cf (nmE E)) = (3 : Int) ∧ po = po ∧ qNb (rdE cs ct cf (nmE E)) = qNb E ∧ (goalRdR_1 cs ct cf E) ∧ (goalRdR_2 cs ct cf E) ∧ qLk (rdE cs ct cf (nmE E)) = qLk E ∧ (qWn (rdE cs ct cf (nmE E)) = qWn E ∧ qNw (rdE cs ct cf (nmE E)) = qNw E ∧ ∀ (i : Nat), Nat.succ i ≤ qNw (rdE cs ct cf (nmE E)) → qWa (rdE cs ct cf (nmE E)) i = qWa E i ∧ qWb (rdE cs ct cf (nmE E)) i = qWb E i ∧ True) ∧ (mn = mn ∧ ml = ml ∧ ∀ (i : Nat), Nat.succ i ≤ ml → m1 i = m1 i ∧ m2 i = m2 i ∧ m3 i = m3 i ∧ True) ∧ true = true) ∧ (yLt (yInt (qNv E)) (qN E) = false → ((yCol (CK.int IntKind.u64) (qNk E) fun (i : Nat) => AV.y IntKind.u64 (qK E i)) = true → ((yCol (CK.int IntKind.u64) (qNv E) fun (i : Nat) => AV.y IntKind.u64 (qW E i)) = true → ((yCol (CK.int IntKind.i64) (qNw E) fun (i : Nat) => AV.y IntKind.i64 (qWa E i)) = true → ((yCol (CK.int IntKind.u64) (qNw E) fun (i : Nat) => AV.y IntKind.u64 (qWb E i)) = true → ((yCol (CK.int IntKind.i64) ml fun (i : Nat) => AV.y IntKind.i64 (m1 i)) = true → ((yCol (CK.int IntKind.u64) ml fun (i : Nat) => AV.y IntKind.u64 (m2 i)) = true → ((yCol (CK.int IntKind.u64) ml fun (i : Nat) => AV.y IntKind.u64 (m3 i)) = true → (prePl cs ct cf cl cp { h := qH E, v := qV E, n := qN E, kd := qKd E, ix := qIx E, key := qKey E, val := qVal E, at_ := qAt E, nb := qNb E, kn := qKn E, nk := qNk E, k := fun (i : Nat) => qK E i, vn := qVn E, nv := qNv E, w := fun (i : Nat) => qW E i, lk := qLk E, wn := qWn E, nw := qNw E, wa := fun (i : Nat) => qWa E i, wb := fun (i : Nat) => qWb E i } = true → (yEq (yInt (rN (goalRdR_0 cs ct cf E))) (0 : Int) = true → qH (rdE cs ct cf (nmE E)) = qH E ∧ qV (rdE cs ct cf (nmE E)) = qV E ∧ qN (rdE cs ct cf (nmE E)) = qN E ∧ qKd (rdE cs ct cf (nmE E)) = qKd E ∧ qIx (rdE cs ct cf (nmE E)) = qIx E ∧ qKey (rdE cs ct cf (nmE E)) = qKey E ∧ qVal (rdE cs ct cf (nmE E)) = qVal E ∧ qAt (rdE cs ct cf (nmE E)) = (5 : Int) ∧ po = po ∧ qNb (rdE cs ct cf (nmE E)) = qNb E ∧ (goalRdR_1 cs ct cf E) ∧ (goalRdR_2 cs ct cf E) ∧ qLk (rdE cs ct cf (nmE E)) = qLk E ∧ qWn (rdE cs ct cf (nmE E)) = rE (goalRdR_0 cs ct cf E) ∧ qNw (rdE cs ct cf (nmE E)) = rN (goalRdR_0 cs ct cf E) ∧ yNadd (nat_lit 0) (rN (goalRdR_0 cs ct cf E)) ≤ rN (goalRdR_0 cs ct cf E) ∧ (∀ (i : Nat), Nat.succ i ≤ qNw (rdE cs ct cf (nmE E)) → qWa (rdE cs ct cf (nmE E)) i = rA (goalRdR_0 cs ct cf E) (yNadd (nat_lit 0) i) ∧ qWb (rdE cs ct cf (nmE E)) i = rB (goalRdR_0 cs ct cf E) (yNadd (nat_lit 0) i) ∧ True) ∧ (mn = mn ∧ ml = ml ∧ ∀ (i : Nat), Nat.succ i ≤ ml → m1 i = m1 i ∧ m2 i = m2 i ∧ m3 i = m3 i ∧ True) ∧ true = true) ∧ (yEq (yInt (rN (goalRdR_0 cs ct cf E))) (0 : Int) = false → qH (rdE cs ct cf (nmE E)) = qH E ∧ qV (rdE cs ct cf (nmE E)) = qV E ∧ qN (rdE cs ct cf (nmE E)) = qN E ∧ qKd (rdE cs ct cf (nmE E)) = qKd E ∧ qIx (rdE cs ct cf (nmE E)) = qIx E ∧ qKey (rdE cs ct cf (nmE E)) = qKey E ∧ qVal (rdE cs ct cf (nmE E)) = qVal E ∧ qAt (rdE cs ct cf (nmE E)) = (4 : Int) ∧ po = po ∧ qNb (rdE cs ct cf (nmE E)) = qNb E ∧ (goalRdR_1 cs ct cf E) ∧ (goalRdR_2 cs ct cf E) ∧ qLk (rdE cs ct cf (nmE E)) = qLk E ∧ qWn (rdE cs ct cf (nmE E)) = rE (goalRdR_0 cs ct cf E) ∧ qNw (rdE cs ct cf (nmE E)) = rN (goalRdR_0 cs ct cf E) ∧ yNadd (nat_lit 0) (rN (goalRdR_0 cs ct cf E)) ≤ rN (goalRdR_0 cs ct cf E) ∧ (∀ (i : Nat), Nat.succ i ≤ qNw (rdE cs ct cf (nmE E)) → qWa (rdE cs ct cf (nmE E)) i = rA (goalRdR_0 cs ct cf E) (yNadd (nat_lit 0) i) ∧ qWb (rdE cs ct cf (nmE E)) i = rB (goalRdR_0 cs ct cf E) (yNadd (nat_lit 0) i) ∧ True) ∧ (mn = mn ∧ ml = ml ∧ ∀ (i : Nat), Nat.succ i ≤ ml → m1 i = m1 i ∧ m2 i = m2 i ∧ m3 i = m3 i ∧ True) ∧ true = true)) ∧ (prePl cs ct cf cl cp { h := qH E, v := qV E, n := qN E, kd := qKd E, ix := qIx E, key := qKey E, val := qVal E, at_ := qAt E, nb := qNb E, kn := qKn E, nk := qNk E, k := fun (i : Nat) => qK E i, vn := qVn E, nv := qNv E, w := fun (i : Nat) => qW E i, lk := qLk E, wn := qWn E, nw := qNw E, wa := fun (i : Nat) => qWa E i, wb := fun (i : Nat) => qWb E i } = false → False)) ∧ ((yCol (CK.int IntKind.u64) ml fun (i : Nat) => AV.y IntKind.u64 (m3 i)) = false → False)) ∧ ((yCol (CK.int IntKind.u64) ml fun (i : Nat) => AV.y IntKind.u64 (m2 i)) = false → False)) ∧ ((yCol (CK.int IntKind.i64) ml fun (i : Nat) => AV.y IntKind.i64 (m1 i)) = false → False)) ∧ ((yCol (CK.int IntKind.u64) (qNw E) fun (i : Nat) => AV.y IntKind.u64 (qWb E i)) = false → False)) ∧ ((yCol (CK.int IntKind.i64) (qNw E) fun (i : Nat) => AV.y IntKind.i64 (qWa E i)) = false → False)) ∧ ((yCol (CK.int IntKind.u64) (qNv E) fun (i : Nat) => AV.y IntKind.u64 (qW E i)) = false → False)) ∧ ((yCol (CK.int IntKind.u64) (qNk E) fun (i : Nat) => AV.y IntKind.u64 (qK E i)) = false → False))))
set_option maxRecDepth 100000 in
theorem goalRdR_eq : goalRdR = goalRdRV := by kernel_rfl
set_option maxRecDepth 100000 in
set_option maxHeartbeats 4000000 in
theorem goalRdR_vc : goalRdRV := by
  unfold goalRdRV goalRdR_2 goalRdR_1 goalRdR_0
  intro cs ct cf cl cp E po mn ml m1 m2 m3 hE
  by_cases c1 : (E.nk : Int) < E.n
  · have hR : rdE cs ct cf (nmE E) = { nmE E with at_ := 2 } := by
      unfold rdE; rw [if_pos (show ((nmE E).nk : Int) < (nmE E).n from c1)]
    have e1 : (qNk E : Int) < qN E := c1
    simp only [yEq_t, yEq_f, yLt_t, yLt_f, yInt_e, yNadd_e, yCol_int, true_and, and_true, Nat.zero_add, Nat.le_refl, forall_const, Bool.true_eq_false, false_implies, hR, eq_true e1]
    repeat' (first | apply And.intro | intro _)
    all_goals first
      | rfl
      | trivial
      | omega
      | exact trI_lt (by assumption)
      | (refine ⟨?_, ?_⟩ <;> exact trI_lt (by assumption))
      | exact if_pos (rE_t (by assumption))
      | exact if_neg (by rw [rE_f (by assumption)]; exact Bool.false_ne_true)
      | (rename_i h; rw [hE] at h; cases h)
      | (rename_i h; exact absurd (h.symm.trans hE) Bool.false_ne_true)
      | (trace_state; fail)
  · have e1 : ¬ (qNk E : Int) < qN E := c1
    by_cases c2 : (E.nv : Int) < E.n
    · have hR : rdE cs ct cf (nmE E) = { nmE E with at_ := 3 } := by
        unfold rdE; rw [if_neg (show ¬ ((nmE E).nk : Int) < (nmE E).n from c1), if_pos (show ((nmE E).nv : Int) < (nmE E).n from c2)]
      have e2 : (qNv E : Int) < qN E := c2
      simp only [yEq_t, yEq_f, yLt_t, yLt_f, yInt_e, yNadd_e, yCol_int, true_and, and_true, Nat.zero_add, Nat.le_refl, forall_const, Bool.true_eq_false, false_implies, hR, eq_false e1, eq_true e2]
      repeat' (first | apply And.intro | intro _)
      all_goals first
        | rfl
        | trivial
        | omega
        | exact trI_lt (by assumption)
        | (refine ⟨?_, ?_⟩ <;> exact trI_lt (by assumption))
        | exact if_pos (rE_t (by assumption))
        | exact if_neg (by rw [rE_f (by assumption)]; exact Bool.false_ne_true)
        | (rename_i h; rw [hE] at h; cases h)
        | (rename_i h; exact absurd (h.symm.trans hE) Bool.false_ne_true)
        | (trace_state; fail)
    · have hR : rdE cs ct cf (nmE E) = { nmE E with wn := rE (plE cs ct cf E), nw := rN (plE cs ct cf E), wa := rA (plE cs ct cf E), wb := rB (plE cs ct cf E), at_ := if rE (plE cs ct cf E) then 5 else 4 } := by
        unfold rdE; rw [plE_nm, if_neg (show ¬ ((nmE E).nk : Int) < (nmE E).n from c1), if_neg (show ¬ ((nmE E).nv : Int) < (nmE E).n from c2)]
      have e2 : ¬ (qNv E : Int) < qN E := c2
      simp only [yEq_t, yEq_f, yLt_t, yLt_f, yInt_e, yNadd_e, yCol_int, true_and, and_true, Nat.zero_add, Nat.le_refl, forall_const, Bool.true_eq_false, false_implies, hR, eq_false e1, eq_false e2]
      repeat' (first | apply And.intro | intro _)
      all_goals first
        | rfl
        | trivial
        | omega
        | exact trI_lt (by assumption)
        | (refine ⟨?_, ?_⟩ <;> exact trI_lt (by assumption))
        | exact if_pos (rE_t (by assumption))
        | exact if_neg (by rw [rE_f (by assumption)]; exact Bool.false_ne_true)
        | (rename_i h; rw [hE] at h; cases h)
        | (rename_i h; exact absurd (h.symm.trans hE) Bool.false_ne_true)
        | (trace_state; fail)
set_option maxRecDepth 100000 in
theorem goalRdR_tt : (goalRdR) = True := goalRdR_eq.trans (eq_true goalRdR_vc)
theorem goalRdR_ok : goalRdR := @ft' goalRdR goalRdR_tt
end Go.Proofs.YtlfehgagnelbhaaGreatDoor.Ex
