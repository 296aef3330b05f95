/- Contracts: a shape, packed. Contracts: version words renewed, handles made; a part's handle, and its handle begun anew. Contracts: a leaf closed at an entry, as the pen writes it. (under way) Contracts: plan.Set and gleaningref14.Set. Contracts: plan.Remove and gleaningref14.Remove. Contracts: a leaf opened for an entry, as the pen writes it, and as the document does. -/
import Derived.Test.YtlfehgagnelbhaaGreatDoorPkEa
namespace Go.Proofs.YtlfehgagnelbhaaGreatDoor.Ex
open Go

-- OPEN packC
def packC (b : Bool) (n : Int) : Int := (if 0 ≤ n ∧ n ≤ 255 then n * 2 else 0) + (if b then 1 else 0)
abbrev gPk : List Ag := [.cell none, .cell none]
abbrev dPk (b : Bool) (n : Int) : List Da := [.cell (.v (.yb b)), .cell (.v (.y .i64 n))]
def fPk (ds : List Da) : Option (Bool × AV) :=
  match ds with
  | [.cell (.v (.yb b)), .cell (.v (.y .i64 n))] => some (true, .y .u64 (packC b n))
  | _ => none
def gPkgoal (P : Program) (f : FuncId) : Prop := ∀ (b : Bool) (n : Int), wxF P noSm (fun _ => none) 1000 f (canA gPk (dPk b n) []).1 (heapOf (canA gPk (dPk b n) []).2) (fun v _ => cmpC (.y .u64 (packC b n)) v)
def goalPack : Prop := gPkgoal Tryz.prog 127
def goalPackR : Prop := gPkgoal Tryz.prog 58
theorem or_one : ∀ m, m < 256 → (m * 2 ||| 1) = m * 2 + 1 := by decide +kernel
theorem pack_put {m : Nat} (h : m < 256) : yBits .or .u64 0 (yBits .and .u64 (yShl .u64 (m : Int) 1) 510) = ((m * 2 : Nat) : Int) := by
  have e2 : yShl .u64 (m : Int) 1 = ((m * 2 % 18446744073709551616 : Nat) : Int) := shl_u (n := 1) (by omega)
  rw [e2]
  have h1 : yBits .or .u64 (yBits .andNot .u64 ((0 : Nat) : Int) 510) (yBits .and .u64 ((m * 2 % 18446744073709551616 : Nat) : Int) 510) = ((512 * (0 / 512) + (2 * (m % 256) + 0 % 2) : Nat) : Int) := field_put (w := 0) (v := m) (at_ := 1) (n := 8) (by omega) (by omega) (by omega) rfl rfl
  have h0 : yBits .andNot .u64 ((0 : Nat) : Int) 510 = 0 := by decide +kernel
  rw [h0] at h1
  rw [h1]; congr 1; omega
theorem pack_one {m : Nat} (h : m < 256) : yBits .or .u64 ((m * 2 : Nat) : Int) 1 = ((m * 2 + 1 : Nat) : Int) := by
  have h1 : yBits .or .u64 ((m * 2 : Nat) : Int) ((1 : Nat) : Int) = ((m * 2 ||| 1 : Nat) : Int) := bits_or (by omega) (by omega)
  rw [or_one m h] at h1
  exact h1
def goalPackV : Prop := (∀ (b : Bool) (n : Int), (yLe (0 : Int) n = true → (yNot (yLt n (256 : Int)) = true → (b = true → packC b n = (1 : Int)) ∧ (b = false → packC b n = (0 : Int))) ∧ (yNot (yLt n (256 : Int)) = false → (yLe (0 : Int) (1 : Int) = true → (b = true → packC b n = yBits BinOp.or IntKind.u64 (yBits BinOp.or IntKind.u64 (0 : Int) (yBits BinOp.and IntKind.u64 (yShl IntKind.u64 (yWrap IntKind.u64 n) (1 : Int)) (510 : Int))) (1 : Int)) ∧ (b = false → packC b n = yBits BinOp.or IntKind.u64 (0 : Int) (yBits BinOp.and IntKind.u64 (yShl IntKind.u64 (yWrap IntKind.u64 n) (1 : Int)) (510 : Int)))) ∧ (yLe (0 : Int) (1 : Int) = false → False))) ∧ (yLe (0 : Int) n = false → (b = true → packC b n = (1 : Int)) ∧ (b = false → packC b n = (0 : Int))))
set_option maxRecDepth 100000 in
theorem goalPack_eq : goalPack = goalPackV := by kernel_rfl
set_option maxRecDepth 100000 in
theorem goalPack_vc : goalPackV := by
  unfold goalPackV
  intro b n
  by_cases hn : 0 ≤ n ∧ n ≤ 255
  · obtain ⟨m, rfl⟩ : ∃ m : Nat, n = (m : Int) := ⟨n.toNat, by omega⟩
    rw [yWrapN (n := m) (by omega), pack_put (m := m) (by omega), pack_one (m := m) (by omega)]
    unfold packC
    rw [if_pos hn]
    simp only [yLe_t, yLe_f, yLt_t, yLt_f, yNot_t, yNot_f]
    cases b
    all_goals repeat' (first | apply And.intro | intro _)
    all_goals first
      | contradiction
      | (exfalso; omega)
      | (simp only [if_true, if_false, Bool.false_eq_true]; done)
      | (simp only [if_true, if_false, Bool.false_eq_true]; omega)
  · unfold packC
    rw [if_neg hn]
    simp only [yLe_t, yLe_f, yLt_t, yLt_f, yNot_t, yNot_f]
    cases b
    all_goals repeat' (first | apply And.intro | intro _)
    all_goals first
      | contradiction
      | (exfalso; omega)
      | rfl
set_option maxRecDepth 100000 in
theorem goalPack_tt : (goalPack) = True := goalPack_eq.trans (eq_true goalPack_vc)
theorem goalPack_ok : goalPack := @ft' goalPack goalPack_tt
def goalPackRV : Prop := (∀ (b : Bool) (n : Int), (yLt n (0 : Int) = true → (b = true → packC b n = (1 : Int)) ∧ (b = false → packC b n = (0 : Int))) ∧ (yLt n (0 : Int) = false → (yLt (255 : Int) n = true → (b = true → packC b n = (1 : Int)) ∧ (b = false → packC b n = (0 : Int))) ∧ (yLt (255 : Int) n = false → (b = true → packC b n = yWrap IntKind.u64 (yAdd (yWrap IntKind.u64 (yMul (yWrap IntKind.u64 n) (2 : Int))) (1 : Int))) ∧ (b = false → packC b n = yWrap IntKind.u64 (yMul (yWrap IntKind.u64 n) (2 : Int))))))
set_option maxRecDepth 100000 in
theorem goalPackR_eq : goalPackR = goalPackRV := by kernel_rfl
set_option maxRecDepth 100000 in
theorem goalPackR_vc : goalPackRV := by
  unfold goalPackRV
  intro b n
  by_cases hn : 0 ≤ n ∧ n ≤ 255
  · simp only [yLt_t, yLt_f, yAdd_e, yMul_e]
    rw [wrapU64 (n := n) (by omega) (by omega), wrapU64 (n := n * 2) (by omega) (by omega), wrapU64 (n := n * 2 + 1) (by omega) (by omega)]
    unfold packC
    rw [if_pos hn]
    cases b
    all_goals repeat' (first | apply And.intro | intro _)
    all_goals first
      | contradiction
      | (exfalso; omega)
      | (simp only [if_true, if_false, Bool.false_eq_true]; done)
      | (simp only [if_false, Bool.false_eq_true]; omega)
  · unfold packC
    rw [if_neg hn]
    simp only [yLt_t, yLt_f]
    cases b
    all_goals repeat' (first | apply And.intro | intro _)
    all_goals first
      | contradiction
      | (exfalso; omega)
      | rfl
set_option maxRecDepth 100000 in
theorem goalPackR_tt : (goalPackR) = True := goalPackR_eq.trans (eq_true goalPackR_vc)
theorem goalPackR_ok : goalPackR := @ft' goalPackR goalPackR_tt
end Go.Proofs.YtlfehgagnelbhaaGreatDoor.Ex
namespace Go.Proofs.YtlfehgagnelbhaaGreatDoor.Ex
open Go

-- OPEN renewC genC makeC handC freshC
def renewC (v : Int) : Int := (v / 1099511627776 + 1) % 16777216 * 1099511627776 + (v / 4 + 1) % 274877906944 * 4 + 1
def genC (v : Int) : Int := v / 1099511627776
def makeC (g s : Int) : Int := if 1 ≤ s ∧ s ≤ 65535 then g % 16777216 * 65536 + s else 0
def handC (s v : Int) : Int := makeC (genC v) s
def freshC (s v : Int) : Int := makeC (genC (renewC v)) s
abbrev gMk : List Ag := [.cell none, .cell none]
abbrev dMk (g s : Int) : List Da := [.cell (.v (.y .u64 g)), .cell (.v (.y .i64 s))]
def fMk (ds : List Da) : Option (Bool × AV) :=
  match ds with
  | [.cell (.v (.y .u64 g)), .cell (.v (.y .i64 s))] => some (inU g, .y .u64 (makeC g s))
  | _ => none
def gMkgoal (P : Program) (f : FuncId) : Prop := ∀ (g s : Int), inU g = true → wxF P noSm (fun _ => none) 1000 f (canA gMk (dMk g s) []).1 (heapOf (canA gMk (dMk g s) []).2) (fun v _ => cmpC (.y .u64 (makeC g s)) v)
def goalMkR : Prop := gMkgoal Tryz.prog 32
abbrev gPart : List Ag := [.agg [none, none, none, cU, cU, none]]
abbrev dPart (s v : Int) (i kn : Bool) (nk : Nat) (k : Nat → Int) (vn : Bool) (nv : Nat) (w : Nat → Int) (l : Int) : List Da := [.agg [.v (.y .i64 s), .v (.y .u64 v), .v (.yb i), .rows kn nk [.int .u64 k], .rows vn nv [.int .u64 w], .v (.y .u64 l)]]
def fHan (F : Int → Int → Int) (ds : List Da) : Option (Bool × AV) :=
  match ds with
  | [.agg [.v (.y .i64 s), .v (.y .u64 v), .v (.yb _), .rows _ _ [.int .u64 _], .rows _ _ [.int .u64 _], .v (.y .u64 _)]] => some (inU v, .y .u64 (F s v))
  | _ => none
theorem lockB {w : Nat} (hw : w < 18446744073709551616) : yBits .or .u64 (yBits .andNot .u64 (w : Int) 1) 1 = ((w / 2 * 2 + 1 : Nat) : Int) := by
  have := field_put' (at_ := 0) (n := 1) (v := 1) (M := 1) (S := 1) (R := 1) hw (by omega) (by omega) rfl rfl (by decide +kernel)
  rw [this]; congr 1
  show 2 * (w / 2) + (1 * 1 + w % 1) = _
  omega
theorem undead {w : Nat} (hw : w < 18446744073709551616) : yBits .or .u64 (yBits .andNot .u64 (w : Int) 2) 0 = ((w / 4 * 4 + w % 2 : Nat) : Int) := by
  have := field_put' (at_ := 1) (n := 1) (v := 0) (M := 2) (S := 0) (R := 0) hw (by omega) (by omega) rfl rfl (by decide +kernel)
  rw [this]; congr 1
  show 4 * (w / 4) + (2 * 0 + w % 2) = _
  omega
theorem genGet {w : Nat} (hw : w < 18446744073709551616) : yBits .and .u64 (yShr .u64 (w : Int) 40) 16777215 = ((w / 1099511627776 : Nat) : Int) := by
  have h : yBits .and .u64 (yShr .u64 (w : Int) 40) 16777215 = ((w / 1099511627776 % 16777216 : Nat) : Int) := field_get (at_ := 40) (n := 24) hw (by omega) (by omega) rfl
  rw [h, Nat.mod_eq_of_lt (by omega)]
theorem genPut {w v : Nat} (hw : w < 18446744073709551616) (hv : v < 18446744073709551616) : yBits .or .u64 (yBits .andNot .u64 (w : Int) 18446742974197923840) (yBits .and .u64 (yShl .u64 (v : Int) 40) 18446742974197923840) = ((1099511627776 * (v % 16777216) + w % 1099511627776 : Nat) : Int) := by
  have e2 : yShl .u64 (v : Int) 40 = ((v * 1099511627776 % 18446744073709551616 : Nat) : Int) := shl_u (n := 40) (by omega)
  rw [e2]
  have h : yBits .or .u64 (yBits .andNot .u64 (w : Int) 18446742974197923840) (yBits .and .u64 ((v * 1099511627776 % 18446744073709551616 : Nat) : Int) 18446742974197923840) = ((18446744073709551616 * (w / 18446744073709551616) + (1099511627776 * (v % 16777216) + w % 1099511627776) : Nat) : Int) := field_put (at_ := 40) (n := 24) hw hv (by omega) rfl rfl
  rw [h]; congr 1; omega
theorem slotPut {w v : Nat} (hw : w < 65536) (hv : v < 18446744073709551616) : yBits .or .u64 (yBits .andNot .u64 (w : Int) 1099511562240) (yBits .and .u64 (yShl .u64 (v : Int) 16) 1099511562240) = ((65536 * (v % 16777216) + w : Nat) : Int) := by
  have e2 : yShl .u64 (v : Int) 16 = ((v * 65536 % 18446744073709551616 : Nat) : Int) := shl_u (n := 16) (by omega)
  rw [e2]
  have h : yBits .or .u64 (yBits .andNot .u64 (w : Int) 1099511562240) (yBits .and .u64 ((v * 65536 % 18446744073709551616 : Nat) : Int) 1099511562240) = ((1099511627776 * (w / 1099511627776) + (65536 * (v % 16777216) + w % 65536) : Nat) : Int) := field_put (at_ := 16) (n := 24) (by omega) hv (by omega) rfl rfl
  rw [h]; congr 1; omega
def goalMkRV : Prop := (∀ (g s : Int), yAnd (yLe (0 : Int) g) (yLt g (18446744073709551616 : Int)) = true → (yLt s (1 : Int) = true → makeC g s = (0 : Int)) ∧ (yLt s (1 : Int) = false → (yLt (65535 : Int) s = true → makeC g s = (0 : Int)) ∧ (yLt (65535 : Int) s = false → (yEq (16777216 : Int) (0 : Int) = true → False) ∧ (yEq (16777216 : Int) (0 : Int) = false → makeC g s = yWrap IntKind.u64 (yAdd (yWrap IntKind.u64 (yMul (yRem g (16777216 : Int)) (65536 : Int))) (yWrap IntKind.u64 s))))))
set_option maxRecDepth 100000 in
theorem goalMkR_eq : goalMkR = goalMkRV := by kernel_rfl
set_option maxRecDepth 100000 in
set_option maxHeartbeats 4000000 in
theorem goalMkR_vc : goalMkRV := by
  unfold goalMkRV
  intro g s h
  obtain ⟨n, rfl, hn⟩ := inU_nat h
  have a1 : yRem (n : Int) 16777216 = ((n % 16777216 : Nat) : Int) := rem_u (c := 16777216)
  rw [a1]
  by_cases hs : 1 ≤ s ∧ s ≤ 65535
  · simp only [yEq_t, yEq_f, yLt_t, yLt_f, yAdd_e, yMul_e]
    rw [wrapU64 (n := s) (by omega) (by omega), wrapU64 (n := ((n % 16777216 : Nat) : Int) * 65536) (by omega) (by omega), wrapU64 (by omega) (by omega)]
    have hf : makeC (n : Int) s = ((n % 16777216 : Nat) : Int) * 65536 + s := by unfold makeC; rw [if_pos hs]; omega
    repeat' (first | apply And.intro | intro _)
    all_goals first
      | exact hf
      | (exfalso; omega)
  · have hf : makeC (n : Int) s = 0 := by unfold makeC; rw [if_neg hs]
    simp only [yEq_t, yEq_f, yLt_t, yLt_f, yAdd_e, yMul_e]
    repeat' (first | apply And.intro | intro _)
    all_goals first
      | exact hf
      | (exfalso; omega)
set_option maxRecDepth 100000 in
theorem goalMkR_tt : (goalMkR) = True := goalMkR_eq.trans (eq_true goalMkR_vc)
theorem goalMkR_ok : goalMkR := @ft' goalMkR goalMkR_tt
theorem quo_gen {v : Int} (h : inU v = true) : yQuo .u64 v 1099511627776 = genC v := by
  obtain ⟨n, rfl, hn⟩ := inU_nat h
  have a3 : yQuo .u64 (n : Int) 1099511627776 = ((n / 1099511627776 : Nat) : Int) := quo_u (c := 1099511627776) hn
  rw [a3]; unfold genC; omega
theorem inU_gen {v : Int} (h : inU v = true) : inU (genC v) = true := by
  obtain ⟨n, rfl, hn⟩ := inU_nat h
  simp only [inU, yAnd_t, yLe_t, yLt_t]; unfold genC; omega
theorem inU_renew {v : Int} (h : inU v = true) : inU (renewC v) = true := by
  obtain ⟨n, rfl, hn⟩ := inU_nat h
  simp only [inU, yAnd_t, yLe_t, yLt_t]; unfold renewC; omega
end Go.Proofs.YtlfehgagnelbhaaGreatDoor.Ex
namespace Go.Proofs.YtlfehgagnelbhaaGreatDoor.Ex
open Go

-- OPEN layL shO prw cloO cloL
/-- The writes that lay a leaf's entry. -/
def layL (cs ct cf s j key val : Int) : List (Int × Int) := [(keyC cs ct cf s j, key), (valC cs ct cf s j, val)]
def prw (n : Nat) (a b : Nat → Int) : List (Int × Int) := (List.range n).map fun j => (a j, b j)
def shO (cs ct cf s : Int) (k w : Nat → Int) (j : Nat) (i : Nat) : List (Int × Int) := (List.range (i - j)).flatMap fun d => layL cs ct cf s ((j + d : Nat) : Int) (k (j + d + 1)) (w (j + d + 1))
def cloO (cs ct cf s : Int) (k w : Nat → Int) (n0 : Nat) (a0 b0 : Nat → Int) (j i : Nat) : List (Int × Int) := prw n0 a0 b0 ++ shO cs ct cf s k w j i
def cloL (cs ct cf s : Int) (k w : Nat → Int) (n0 : Nat) (a0 b0 : Nat → Int) (j nv : Nat) : List (Int × Int) := cloO cs ct cf s k w n0 a0 b0 j (nv - 1) ++ [(shapeC cs ct cf s, packC false ((nv : Int) - 1))]
abbrev slW (id : Nat) (l : List (Int × Int)) : AV := .ysl false (rE l) id 2 0 (rN l)
abbrev arW (l : List (Int × Int)) : AO := .arr false 95 2 (rN l) (colF [.int .i64 (rA l), .int .u64 (rB l)])
abbrev sPen : Sx := .ptr 147 [.sc, .sc, .sc, .sc, .sc, ownW]
abbrev dPen (cs ct cf cl cp : Int) (r : Dx) : Dx := .l [.v (.y .i64 cs), .v (.y .i64 ct), .v (.y .i64 cf), .v (.y .i64 cl), .v (.y .i64 cp), r]
def lLay : List (Nat × Sm) := [(47, .ct (ctS gL2 (fL2 keyC))), (48, .ct (ctS gL2 (fL2 valC))), (126, .ct (ctS gL1 (fL1 shapeC))), (127, .ct (ctS gPk fPk)),
  (50, .ct (ctS gL2 (fR2 keyC))), (38, .ct (ctS gL2 (fR2 valC))), (56, .ct (ctS gL1 (fR1 shapeC))), (58, .ct (ctS gPk fPk))]
def annClo (cs ct cf cl cp s : Int) (k w : Nat → Int) (n0 : Nat) (a0 b0 : Nat → Int) (j nv : Nat) (b : Nat) : Option (St → LoopA) :=
  match b with
  | 0 => some fun _ => { ι := Nat, tms := [7], tmU := fun i => [.y .i64 (yInt i)], ids := [1, 6], hpU := fun i => [.cells [.y .i64 cs, .y .i64 ct, .y .i64 cf, .y .i64 cl, .y .i64 cp, slW 6 (cloO cs ct cf s k w n0 a0 b0 j i)] 147 none, arW (cloO cs ct cf s k w n0 a0 b0 j i)], del := [0], ex := 1, pre := fun i => j ≤ i ∧ i + 1 ≤ nv, ms := msFit nv }
  | _ => none
def goalClo : Prop := ∀ (cs ct cf cl cp s v : Int) (kn : Bool) (k : Nat → Int) (vn : Bool) (nv : Nat) (w : Nat → Int) (l : Int) (nil0 : Bool) (n0 : Nat) (a0 b0 : Nat → Int) (j : Nat),
  rightC cs ct cf cl cp = true → yNle nv 80 = true → yNle n0 1000 = true → yNlt j nv = true → yIff nil0 (yNeq n0 0) = true →
  wxP Tryz.prog (smL lLay) (annClo cs ct cf cl cp s k w n0 a0 b0 j nv) 103 [sPen, sPart, .sc] [dPen cs ct cf cl cp (.rows nil0 n0 [.int .i64 a0, .int .u64 b0]), dPt s v false kn nv k vn nv w l, .v (.y .i64 (yInt j))] (.tup []) (.l []) [[.v (.y .i64 cs), .v (.y .i64 ct), .v (.y .i64 cf), .v (.y .i64 cl), .v (.y .i64 cp), rowsW (cloL cs ct cf s k w n0 a0 b0 j nv)]]
/-- The document's: the writes so far come in, and go on. -/
def annShut (cs ct cf s : Int) (k w : Nat → Int) (n0 : Nat) (a0 b0 : Nat → Int) (j nv : Nat) (b : Nat) : Option (St → LoopA) :=
  match b with
  | 0 => some fun _ => { ι := Nat, tms := [1, 10], tmU := fun i => [slW 5 (cloO cs ct cf s k w n0 a0 b0 j i), .y .i64 (yInt (Nat.succ i))], ids := [5], hpU := fun i => [arW (cloO cs ct cf s k w n0 a0 b0 j i)], del := [0], ex := 1, pre := fun i => j ≤ i ∧ i + 1 ≤ nv, ms := msFit nv }
  | _ => none
def goalShut : Prop := ∀ (cs ct cf cl cp s v : Int) (kn : Bool) (k : Nat → Int) (vn : Bool) (nv : Nat) (w : Nat → Int) (l : Int) (nil0 : Bool) (n0 : Nat) (a0 b0 : Nat → Int) (j : Nat),
  rightC cs ct cf cl cp = true → yNle nv 80 = true → yNle n0 1000 = true → yNlt j nv = true → yIff nil0 (yNeq n0 0) = true → yAnd (yLe 0 s) (yLe s cs) = true → yLe (yInt nv) cf = true →
  wxP Tryz.prog (smL lLay) (annShut cs ct cf s k w n0 a0 b0 j nv) 107 [sConf, ownW, sPart, .sc] [dCf cs ct cf cl cp, .rows nil0 n0 [.int .i64 a0, .int .u64 b0], dPt s v false kn nv k vn nv w l, .v (.y .i64 (yInt j))] ownW (rowsW (cloL cs ct cf s k w n0 a0 b0 j nv)) []
theorem rN_snoc (l : List (Int × Int)) (x : Int × Int) : rN (l ++ [x]) = rN l + 1 := by simp [rN]
theorem rE_snoc (l : List (Int × Int)) (x : Int × Int) : rE (l ++ [x]) = false := by simp [rE]
theorem rA_snoc (l : List (Int × Int)) (x : Int × Int) {j : Nat} (h : j < rN l + 1) : rA (l ++ [x]) j = ySel (yNlt j (rN l)) (rA l j) x.1 := by
  unfold rN at h
  unfold rA ySel yNlt rN
  rw [List.getD_eq_getElem?_getD, List.getD_eq_getElem?_getD, List.getElem?_append]
  by_cases hj : j < l.length
  · simp [hj]
  · have : j = l.length := by omega
    subst this; simp
theorem rB_snoc (l : List (Int × Int)) (x : Int × Int) {j : Nat} (h : j < rN l + 1) : rB (l ++ [x]) j = ySel (yNlt j (rN l)) (rB l j) x.2 := by
  unfold rN at h
  unfold rB ySel yNlt rN
  rw [List.getD_eq_getElem?_getD, List.getD_eq_getElem?_getD, List.getElem?_append]
  by_cases hj : j < l.length
  · simp [hj]
  · have : j = l.length := by omega
    subst this; simp
theorem rA_snoc2 (l : List (Int × Int)) (x y : Int × Int) {j : Nat} (h : j < rN l + 1 + 1) : rA (l ++ [x] ++ [y]) j = ySel (yNlt j (rN l + 1)) (ySel (yNlt j (rN l)) (rA l j) x.1) y.1 := by
  rw [rA_snoc _ y (by rw [rN_snoc]; exact h), rN_snoc]
  by_cases hj : j < rN l + 1
  · rw [rA_snoc _ x hj]
  · simp [ySel, yNlt, hj]
theorem rB_snoc2 (l : List (Int × Int)) (x y : Int × Int) {j : Nat} (h : j < rN l + 1 + 1) : rB (l ++ [x] ++ [y]) j = ySel (yNlt j (rN l + 1)) (ySel (yNlt j (rN l)) (rB l j) x.2) y.2 := by
  rw [rB_snoc _ y (by rw [rN_snoc]; exact h), rN_snoc]
  by_cases hj : j < rN l + 1
  · rw [rB_snoc _ x hj]
  · simp [ySel, yNlt, hj]
theorem yAnd10 (b : Bool) : yAnd b (yNeq 1 0) = false := by cases b <;> rfl
theorem shO_self (cs ct cf s : Int) (k w : Nat → Int) (j : Nat) : shO cs ct cf s k w j j = [] := by simp [shO]
theorem cloO_step {cs ct cf s : Int} {k w : Nat → Int} {n0 : Nat} {a0 b0 : Nat → Int} {j i : Nat} (h : j ≤ i) :
    cloO cs ct cf s k w n0 a0 b0 j (i + 1) = cloO cs ct cf s k w n0 a0 b0 j i ++ [(keyC cs ct cf s i, k (i + 1))] ++ [(valC cs ct cf s i, w (i + 1))] := by
  unfold cloO shO
  rw [show i + 1 - j = (i - j) + 1 by omega, List.range_succ, List.flatMap_append]
  simp only [List.flatMap_cons, List.flatMap_nil, List.append_nil, layL, show j + (i - j) = i by omega]
  simp
theorem prw_len (n : Nat) (a b : Nat → Int) : (prw n a b).length = n := by simp [prw]
theorem prw_A {n : Nat} {a b : Nat → Int} {i : Nat} (h : i < n) : rA (prw n a b) i = a i ∧ rB (prw n a b) i = b i := by
  unfold rA rB prw
  simp [List.getD_eq_getElem?_getD, h]
theorem cloO_len {cs ct cf s : Int} {k w : Nat → Int} {n0 : Nat} {a0 b0 : Nat → Int} {j : Nat} : ∀ d, rN (cloO cs ct cf s k w n0 a0 b0 j (j + d)) = n0 + 2 * d
  | 0 => by simp [cloO, shO_self, rN, prw_len]
  | d + 1 => by
    have := cloO_len (cs := cs) (ct := ct) (cf := cf) (s := s) (k := k) (w := w) (n0 := n0) (a0 := a0) (b0 := b0) (j := j) d
    rw [show j + (d + 1) = j + d + 1 by omega, cloO_step (by omega), rN_snoc, rN_snoc, this]; omega
theorem cloO_zero {cs ct cf s : Int} {k w : Nat → Int} {nil0 : Bool} {n0 : Nat} {a0 b0 : Nat → Int} {j : Nat} (h : nil0 = yNeq n0 0) : rE (cloO cs ct cf s k w n0 a0 b0 j j) = nil0 ∧ rN (cloO cs ct cf s k w n0 a0 b0 j j) = n0 ∧
    ∀ i, i + 1 ≤ rN (cloO cs ct cf s k w n0 a0 b0 j j) → rA (cloO cs ct cf s k w n0 a0 b0 j j) i = a0 i ∧ rB (cloO cs ct cf s k w n0 a0 b0 j j) i = b0 i := by
  have e : cloO cs ct cf s k w n0 a0 b0 j j = prw n0 a0 b0 := by simp [cloO, shO_self]
  rw [e]
  have hn : rN (prw n0 a0 b0) = n0 := by simp [rN, prw_len]
  refine ⟨?_, hn, fun i hi => prw_A (by omega)⟩
  subst h
  unfold rE yNeq
  cases n0 with
  | zero => rfl
  | succ n => simp [prw, List.range_succ]
def goalClo_1 (i : Nat) := yNadd (nat_lit 0) (yNat (yWrap IntKind.i64 (yAdd (yInt i) (1 : Int))))
def goalClo_5 (cs : Int) (ct : Int) (cf : Int) (s : Int) (k : Nat → Int) (w : Nat → Int) (n0 : Nat) (a0 : Nat → Int) (b0 : Nat → Int) (j : Nat) (i : Nat) := yNeq (rN (cloO cs ct cf s k w n0 a0 b0 j i)) (rN (cloO cs ct cf s k w n0 a0 b0 j i)) = false → False
def goalClo_6 (cs : Int) (ct : Int) (cf : Int) (s : Int) (k : Nat → Int) (w : Nat → Int) (n0 : Nat) (a0 : Nat → Int) (b0 : Nat → Int) (j : Nat) (i : Nat) := yGrow (yNadd (rN (cloO cs ct cf s k w n0 a0 b0 j i)) (nat_lit 1)) (nat_lit 16) = false → False
def goalClo_0 (i : Nat) (cs : Int) (ct : Int) (cf : Int) (cl : Int) (cp : Int) (s : Int) (k : Nat → Int) (w : Nat → Int) (n0 : Nat) (a0 : Nat → Int) (b0 : Nat → Int) (j : Nat) (nv : Nat) := yLt (0 : Int) (yInt i) = false → (rightC cs ct cf cl cp = true → (yNeq (rN (cloO cs ct cf s k w n0 a0 b0 j i)) (rN (cloO cs ct cf s k w n0 a0 b0 j i)) = true → (yGrow (yNadd (rN (cloO cs ct cf s k w n0 a0 b0 j i)) (nat_lit 1)) (nat_lit 16) = true → true = true ∧ ∃ (i' : Nat), (j ≤ i' ∧ Nat.succ i' ≤ nv) ∧ Nat.succ (msFit nv i') ≤ msFit nv i ∧ true = true ∧ yInt i' = yWrap IntKind.i64 (yAdd (yInt i) (1 : Int)) ∧ cs = cs ∧ ct = ct ∧ cf = cf ∧ cl = cl ∧ cp = cp ∧ rE (cloO cs ct cf s k w n0 a0 b0 j i') = yAnd (rE (cloO cs ct cf s k w n0 a0 b0 j i)) (yNeq (nat_lit 1) (nat_lit 0)) ∧ nat_lit 0 = nat_lit 0 ∧ rN (cloO cs ct cf s k w n0 a0 b0 j i') = yNadd (rN (cloO cs ct cf s k w n0 a0 b0 j i)) (nat_lit 1) ∧ rN (cloO cs ct cf s k w n0 a0 b0 j i') = yNadd (rN (cloO cs ct cf s k w n0 a0 b0 j i)) (nat_lit 1) ∧ (∀ (i_1 : Nat), Nat.succ i_1 ≤ rN (cloO cs ct cf s k w n0 a0 b0 j i') → rA (cloO cs ct cf s k w n0 a0 b0 j i') i_1 = ySel (yNlt i_1 (rN (cloO cs ct cf s k w n0 a0 b0 j i))) (rA (cloO cs ct cf s k w n0 a0 b0 j i) i_1) (valC cs ct cf s (yInt i)) ∧ rB (cloO cs ct cf s k w n0 a0 b0 j i') i_1 = ySel (yNlt i_1 (rN (cloO cs ct cf s k w n0 a0 b0 j i))) (rB (cloO cs ct cf s k w n0 a0 b0 j i) i_1) (w (goalClo_1 i)) ∧ True) ∧ true = true) ∧ (goalClo_6 cs ct cf s k w n0 a0 b0 j i)) ∧ (goalClo_5 cs ct cf s k w n0 a0 b0 j i)) ∧ (rightC cs ct cf cl cp = false → False)
def goalClo_2 (cs : Int) (ct : Int) (cf : Int) (s : Int) (k : Nat → Int) (w : Nat → Int) (n0 : Nat) (a0 : Nat → Int) (b0 : Nat → Int) (j : Nat) (i : Nat) := yNeq (yNadd (rN (cloO cs ct cf s k w n0 a0 b0 j i)) (nat_lit 1)) (yNadd (rN (cloO cs ct cf s k w n0 a0 b0 j i)) (nat_lit 1)) = false → False
def goalClo_3 (i : Nat) := yWrap IntKind.i64 (ySub (yWrap IntKind.i64 (yAdd (yInt i) (1 : Int))) (1 : Int))
def goalClo_4 (cs : Int) (ct : Int) (cf : Int) (s : Int) (k : Nat → Int) (w : Nat → Int) (n0 : Nat) (a0 : Nat → Int) (b0 : Nat → Int) (j : Nat) (i : Nat) := yNadd (yNadd (rN (cloO cs ct cf s k w n0 a0 b0 j i)) (nat_lit 1)) (nat_lit 1)
def goalCloV : Prop := (∀ (cs ct cf cl cp s v : Int) (kn : Bool) (k : Nat → Int) (vn : Bool) (nv : Nat) (w : Nat → Int) (l : Int) (nil0 : Bool) (n0 : Nat) (a0 b0 : Nat → Int) (j : Nat), rightC cs ct cf cl cp = true → yNle nv (nat_lit 80) = true → yNle n0 (nat_lit 1000) = true → yNlt j nv = true → yIff nil0 (yNeq n0 (nat_lit 0)) = true → true = true ∧ (∃ (i0 : Nat), (j ≤ i0 ∧ Nat.succ i0 ≤ nv) ∧ true = true ∧ yInt i0 = yInt j ∧ cs = cs ∧ ct = ct ∧ cf = cf ∧ cl = cl ∧ cp = cp ∧ rE (cloO cs ct cf s k w n0 a0 b0 j i0) = nil0 ∧ nat_lit 0 = nat_lit 0 ∧ rN (cloO cs ct cf s k w n0 a0 b0 j i0) = n0 ∧ rN (cloO cs ct cf s k w n0 a0 b0 j i0) = n0 ∧ (∀ (i : Nat), Nat.succ i ≤ rN (cloO cs ct cf s k w n0 a0 b0 j i0) → rA (cloO cs ct cf s k w n0 a0 b0 j i0) i = a0 i ∧ rB (cloO cs ct cf s k w n0 a0 b0 j i0) i = b0 i ∧ True) ∧ true = true) ∧ ∀ (g : Nat → AV) (i : Nat), j ≤ i ∧ Nat.succ i ≤ nv → (yLt (yInt i) (yWrap IntKind.i64 (ySub (yInt nv) (1 : Int))) = true → (yNot false = true → (yIn (yWrap IntKind.i64 (yAdd (yInt i) (1 : Int))) nv = true → (yNlt (goalClo_1 i) nv = true → (yIn (yWrap IntKind.i64 (yAdd (yInt i) (1 : Int))) nv = true → (yNlt (goalClo_1 i) nv = true → (yNot false = true → (rightC cs ct cf cl cp = true → (yNeq (rN (cloO cs ct cf s k w n0 a0 b0 j i)) (rN (cloO cs ct cf s k w n0 a0 b0 j i)) = true → (yGrow (yNadd (rN (cloO cs ct cf s k w n0 a0 b0 j i)) (nat_lit 1)) (nat_lit 16) = true → (rightC cs ct cf cl cp = true → (yNeq (yNadd (rN (cloO cs ct cf s k w n0 a0 b0 j i)) (nat_lit 1)) (yNadd (rN (cloO cs ct cf s k w n0 a0 b0 j i)) (nat_lit 1)) = true → (yGrow (goalClo_4 cs ct cf s k w n0 a0 b0 j i) (nat_lit 16) = true → true = true ∧ ∃ (i' : Nat), (j ≤ i' ∧ Nat.succ i' ≤ nv) ∧ Nat.succ (msFit nv i') ≤ msFit nv i ∧ true = true ∧ yInt i' = yWrap IntKind.i64 (yAdd (yInt i) (1 : Int)) ∧ cs = cs ∧ ct = ct ∧ cf = cf ∧ cl = cl ∧ cp = cp ∧ rE (cloO cs ct cf s k w n0 a0 b0 j i') = yAnd (yAnd (rE (cloO cs ct cf s k w n0 a0 b0 j i)) (yNeq (nat_lit 1) (nat_lit 0))) (yNeq (nat_lit 1) (nat_lit 0)) ∧ nat_lit 0 = nat_lit 0 ∧ rN (cloO cs ct cf s k w n0 a0 b0 j i') = yNadd (yNadd (rN (cloO cs ct cf s k w n0 a0 b0 j i)) (nat_lit 1)) (nat_lit 1) ∧ rN (cloO cs ct cf s k w n0 a0 b0 j i') = yNadd (yNadd (rN (cloO cs ct cf s k w n0 a0 b0 j i)) (nat_lit 1)) (nat_lit 1) ∧ (∀ (i_1 : Nat), Nat.succ i_1 ≤ rN (cloO cs ct cf s k w n0 a0 b0 j i') → rA (cloO cs ct cf s k w n0 a0 b0 j i') i_1 = ySel (yNlt i_1 (yNadd (rN (cloO cs ct cf s k w n0 a0 b0 j i)) (nat_lit 1))) (ySel (yNlt i_1 (rN (cloO cs ct cf s k w n0 a0 b0 j i))) (rA (cloO cs ct cf s k w n0 a0 b0 j i) i_1) (keyC cs ct cf s (yInt i))) (valC cs ct cf s (yInt i)) ∧ rB (cloO cs ct cf s k w n0 a0 b0 j i') i_1 = ySel (yNlt i_1 (yNadd (rN (cloO cs ct cf s k w n0 a0 b0 j i)) (nat_lit 1))) (ySel (yNlt i_1 (rN (cloO cs ct cf s k w n0 a0 b0 j i))) (rB (cloO cs ct cf s k w n0 a0 b0 j i) i_1) (k (goalClo_1 i))) (w (goalClo_1 i)) ∧ True) ∧ true = true) ∧ (yGrow (goalClo_4 cs ct cf s k w n0 a0 b0 j i) (nat_lit 16) = false → False)) ∧ (goalClo_2 cs ct cf s k w n0 a0 b0 j i)) ∧ (rightC cs ct cf cl cp = false → False)) ∧ (goalClo_6 cs ct cf s k w n0 a0 b0 j i)) ∧ (goalClo_5 cs ct cf s k w n0 a0 b0 j i)) ∧ (rightC cs ct cf cl cp = false → False)) ∧ (yNot false = false → (yLt (0 : Int) (yInt i) = true → (rightC cs ct cf cl cp = true → (yNeq (rN (cloO cs ct cf s k w n0 a0 b0 j i)) (rN (cloO cs ct cf s k w n0 a0 b0 j i)) = true → (yGrow (yNadd (rN (cloO cs ct cf s k w n0 a0 b0 j i)) (nat_lit 1)) (nat_lit 16) = true → (rightC cs ct cf cl cp = true → (yNeq (yNadd (rN (cloO cs ct cf s k w n0 a0 b0 j i)) (nat_lit 1)) (yNadd (rN (cloO cs ct cf s k w n0 a0 b0 j i)) (nat_lit 1)) = true → (yGrow (goalClo_4 cs ct cf s k w n0 a0 b0 j i) (nat_lit 16) = true → true = true ∧ ∃ (i' : Nat), (j ≤ i' ∧ Nat.succ i' ≤ nv) ∧ Nat.succ (msFit nv i') ≤ msFit nv i ∧ true = true ∧ yInt i' = yWrap IntKind.i64 (yAdd (yInt i) (1 : Int)) ∧ cs = cs ∧ ct = ct ∧ cf = cf ∧ cl = cl ∧ cp = cp ∧ rE (cloO cs ct cf s k w n0 a0 b0 j i') = yAnd (yAnd (rE (cloO cs ct cf s k w n0 a0 b0 j i)) (yNeq (nat_lit 1) (nat_lit 0))) (yNeq (nat_lit 1) (nat_lit 0)) ∧ nat_lit 0 = nat_lit 0 ∧ rN (cloO cs ct cf s k w n0 a0 b0 j i') = yNadd (yNadd (rN (cloO cs ct cf s k w n0 a0 b0 j i)) (nat_lit 1)) (nat_lit 1) ∧ rN (cloO cs ct cf s k w n0 a0 b0 j i') = yNadd (yNadd (rN (cloO cs ct cf s k w n0 a0 b0 j i)) (nat_lit 1)) (nat_lit 1) ∧ (∀ (i_1 : Nat), Nat.succ i_1 ≤ rN (cloO cs ct cf s k w n0 a0 b0 j i') → rA (cloO cs ct cf s k w n0 a0 b0 j i') i_1 = ySel (yNlt i_1 (yNadd (rN (cloO cs ct cf s k w n0 a0 b0 j i)) (nat_lit 1))) (ySel (yNlt i_1 (rN (cloO cs ct cf s k w n0 a0 b0 j i))) (rA (cloO cs ct cf s k w n0 a0 b0 j i) i_1) (keyC cs ct cf s (yWrap IntKind.i64 (ySub (yInt i) (1 : Int))))) (valC cs ct cf s (yInt i)) ∧ rB (cloO cs ct cf s k w n0 a0 b0 j i') i_1 = ySel (yNlt i_1 (yNadd (rN (cloO cs ct cf s k w n0 a0 b0 j i)) (nat_lit 1))) (ySel (yNlt i_1 (rN (cloO cs ct cf s k w n0 a0 b0 j i))) (rB (cloO cs ct cf s k w n0 a0 b0 j i) i_1) (k (goalClo_1 i))) (w (goalClo_1 i)) ∧ True) ∧ true = true) ∧ (yGrow (goalClo_4 cs ct cf s k w n0 a0 b0 j i) (nat_lit 16) = false → False)) ∧ (goalClo_2 cs ct cf s k w n0 a0 b0 j i)) ∧ (rightC cs ct cf cl cp = false → False)) ∧ (goalClo_6 cs ct cf s k w n0 a0 b0 j i)) ∧ (goalClo_5 cs ct cf s k w n0 a0 b0 j i)) ∧ (rightC cs ct cf cl cp = false → False)) ∧ (goalClo_0 i cs ct cf cl cp s k w n0 a0 b0 j nv))) ∧ (yNlt (goalClo_1 i) nv = false → False)) ∧ (yIn (yWrap IntKind.i64 (yAdd (yInt i) (1 : Int))) nv = false → False)) ∧ (yNlt (goalClo_1 i) nv = false → False)) ∧ (yIn (yWrap IntKind.i64 (yAdd (yInt i) (1 : Int))) nv = false → False)) ∧ (yNot false = false → (yEq (yWrap IntKind.i64 (yAdd (yInt i) (1 : Int))) (0 : Int) = true → (yIn (yWrap IntKind.i64 (yAdd (yInt i) (1 : Int))) nv = true → (yNlt (goalClo_1 i) nv = true → (yNot false = true → (rightC cs ct cf cl cp = true → (yNeq (rN (cloO cs ct cf s k w n0 a0 b0 j i)) (rN (cloO cs ct cf s k w n0 a0 b0 j i)) = true → (yGrow (yNadd (rN (cloO cs ct cf s k w n0 a0 b0 j i)) (nat_lit 1)) (nat_lit 16) = true → (rightC cs ct cf cl cp = true → (yNeq (yNadd (rN (cloO cs ct cf s k w n0 a0 b0 j i)) (nat_lit 1)) (yNadd (rN (cloO cs ct cf s k w n0 a0 b0 j i)) (nat_lit 1)) = true → (yGrow (goalClo_4 cs ct cf s k w n0 a0 b0 j i) (nat_lit 16) = true → true = true ∧ ∃ (i' : Nat), (j ≤ i' ∧ Nat.succ i' ≤ nv) ∧ Nat.succ (msFit nv i') ≤ msFit nv i ∧ true = true ∧ yInt i' = yWrap IntKind.i64 (yAdd (yInt i) (1 : Int)) ∧ cs = cs ∧ ct = ct ∧ cf = cf ∧ cl = cl ∧ cp = cp ∧ rE (cloO cs ct cf s k w n0 a0 b0 j i') = yAnd (yAnd (rE (cloO cs ct cf s k w n0 a0 b0 j i)) (yNeq (nat_lit 1) (nat_lit 0))) (yNeq (nat_lit 1) (nat_lit 0)) ∧ nat_lit 0 = nat_lit 0 ∧ rN (cloO cs ct cf s k w n0 a0 b0 j i') = yNadd (yNadd (rN (cloO cs ct cf s k w n0 a0 b0 j i)) (nat_lit 1)) (nat_lit 1) ∧ rN (cloO cs ct cf s k w n0 a0 b0 j i') = yNadd (yNadd (rN (cloO cs ct cf s k w n0 a0 b0 j i)) (nat_lit 1)) (nat_lit 1) ∧ (∀ (i_1 : Nat), Nat.succ i_1 ≤ rN (cloO cs ct cf s k w n0 a0 b0 j i') → rA (cloO cs ct cf s k w n0 a0 b0 j i') i_1 = ySel (yNlt i_1 (yNadd (rN (cloO cs ct cf s k w n0 a0 b0 j i)) (nat_lit 1))) (ySel (yNlt i_1 (rN (cloO cs ct cf s k w n0 a0 b0 j i))) (rA (cloO cs ct cf s k w n0 a0 b0 j i) i_1) (keyC cs ct cf s (yInt i))) (valC cs ct cf s (yInt i)) ∧ rB (cloO cs ct cf s k w n0 a0 b0 j i') i_1 = ySel (yNlt i_1 (yNadd (rN (cloO cs ct cf s k w n0 a0 b0 j i)) (nat_lit 1))) (ySel (yNlt i_1 (rN (cloO cs ct cf s k w n0 a0 b0 j i))) (rB (cloO cs ct cf s k w n0 a0 b0 j i) i_1) (0 : Int)) (w (goalClo_1 i)) ∧ True) ∧ true = true) ∧ (yGrow (goalClo_4 cs ct cf s k w n0 a0 b0 j i) (nat_lit 16) = false → False)) ∧ (goalClo_2 cs ct cf s k w n0 a0 b0 j i)) ∧ (rightC cs ct cf cl cp = false → False)) ∧ (goalClo_6 cs ct cf s k w n0 a0 b0 j i)) ∧ (goalClo_5 cs ct cf s k w n0 a0 b0 j i)) ∧ (rightC cs ct cf cl cp = false → False)) ∧ (yNot false = false → (yLt (0 : Int) (yInt i) = true → (rightC cs ct cf cl cp = true → (yNeq (rN (cloO cs ct cf s k w n0 a0 b0 j i)) (rN (cloO cs ct cf s k w n0 a0 b0 j i)) = true → (yGrow (yNadd (rN (cloO cs ct cf s k w n0 a0 b0 j i)) (nat_lit 1)) (nat_lit 16) = true → (rightC cs ct cf cl cp = true → (yNeq (yNadd (rN (cloO cs ct cf s k w n0 a0 b0 j i)) (nat_lit 1)) (yNadd (rN (cloO cs ct cf s k w n0 a0 b0 j i)) (nat_lit 1)) = true → (yGrow (goalClo_4 cs ct cf s k w n0 a0 b0 j i) (nat_lit 16) = true → true = true ∧ ∃ (i' : Nat), (j ≤ i' ∧ Nat.succ i' ≤ nv) ∧ Nat.succ (msFit nv i') ≤ msFit nv i ∧ true = true ∧ yInt i' = yWrap IntKind.i64 (yAdd (yInt i) (1 : Int)) ∧ cs = cs ∧ ct = ct ∧ cf = cf ∧ cl = cl ∧ cp = cp ∧ rE (cloO cs ct cf s k w n0 a0 b0 j i') = yAnd (yAnd (rE (cloO cs ct cf s k w n0 a0 b0 j i)) (yNeq (nat_lit 1) (nat_lit 0))) (yNeq (nat_lit 1) (nat_lit 0)) ∧ nat_lit 0 = nat_lit 0 ∧ rN (cloO cs ct cf s k w n0 a0 b0 j i') = yNadd (yNadd (rN (cloO cs ct cf s k w n0 a0 b0 j i)) (nat_lit 1)) (nat_lit 1) ∧ rN (cloO cs ct cf s k w n0 a0 b0 j i') = yNadd (yNadd (rN (cloO cs ct cf s k w n0 a0 b0 j i)) (nat_lit 1)) (nat_lit 1) ∧ (∀ (i_1 : Nat), Nat.succ i_1 ≤ rN (cloO cs ct cf s k w n0 a0 b0 j i') → rA (cloO cs ct cf s k w n0 a0 b0 j i') i_1 = ySel (yNlt i_1 (yNadd (rN (cloO cs ct cf s k w n0 a0 b0 j i)) (nat_lit 1))) (ySel (yNlt i_1 (rN (cloO cs ct cf s k w n0 a0 b0 j i))) (rA (cloO cs ct cf s k w n0 a0 b0 j i) i_1) (keyC cs ct cf s (yWrap IntKind.i64 (ySub (yInt i) (1 : Int))))) (valC cs ct cf s (yInt i)) ∧ rB (cloO cs ct cf s k w n0 a0 b0 j i') i_1 = ySel (yNlt i_1 (yNadd (rN (cloO cs ct cf s k w n0 a0 b0 j i)) (nat_lit 1))) (ySel (yNlt i_1 (rN (cloO cs ct cf s k w n0 a0 b0 j i))) (rB (cloO cs ct cf s k w n0 a0 b0 j i) i_1) (0 : Int)) (w (goalClo_1 i)) ∧ True) ∧ true = true) ∧ (yGrow (goalClo_4 cs ct cf s k w n0 a0 b0 j i) (nat_lit 16) = false → False)) ∧ (goalClo_2 cs ct cf s k w n0 a0 b0 j i)) ∧ (rightC cs ct cf cl cp = false → False)) ∧ (goalClo_6 cs ct cf s k w n0 a0 b0 j i)) ∧ (goalClo_5 cs ct cf s k w n0 a0 b0 j i)) ∧ (rightC cs ct cf cl cp = false → False)) ∧ (goalClo_0 i cs ct cf cl cp s k w n0 a0 b0 j nv))) ∧ (yNlt (goalClo_1 i) nv = false → False)) ∧ (yIn (yWrap IntKind.i64 (yAdd (yInt i) (1 : Int))) nv = false → False)) ∧ (yEq (yWrap IntKind.i64 (yAdd (yInt i) (1 : Int))) (0 : Int) = false → (yIn (goalClo_3 i) nv = true → (yNlt (yNadd (nat_lit 0) (yNat (goalClo_3 i))) nv = true → (yIn (yWrap IntKind.i64 (yAdd (yInt i) (1 : Int))) nv = true → (yNlt (goalClo_1 i) nv = true → (yNot false = true → (rightC cs ct cf cl cp = true → (yNeq (rN (cloO cs ct cf s k w n0 a0 b0 j i)) (rN (cloO cs ct cf s k w n0 a0 b0 j i)) = true → (yGrow (yNadd (rN (cloO cs ct cf s k w n0 a0 b0 j i)) (nat_lit 1)) (nat_lit 16) = true → (rightC cs ct cf cl cp = true → (yNeq (yNadd (rN (cloO cs ct cf s k w n0 a0 b0 j i)) (nat_lit 1)) (yNadd (rN (cloO cs ct cf s k w n0 a0 b0 j i)) (nat_lit 1)) = true → (yGrow (goalClo_4 cs ct cf s k w n0 a0 b0 j i) (nat_lit 16) = true → true = true ∧ ∃ (i' : Nat), (j ≤ i' ∧ Nat.succ i' ≤ nv) ∧ Nat.succ (msFit nv i') ≤ msFit nv i ∧ true = true ∧ yInt i' = yWrap IntKind.i64 (yAdd (yInt i) (1 : Int)) ∧ cs = cs ∧ ct = ct ∧ cf = cf ∧ cl = cl ∧ cp = cp ∧ rE (cloO cs ct cf s k w n0 a0 b0 j i') = yAnd (yAnd (rE (cloO cs ct cf s k w n0 a0 b0 j i)) (yNeq (nat_lit 1) (nat_lit 0))) (yNeq (nat_lit 1) (nat_lit 0)) ∧ nat_lit 0 = nat_lit 0 ∧ rN (cloO cs ct cf s k w n0 a0 b0 j i') = yNadd (yNadd (rN (cloO cs ct cf s k w n0 a0 b0 j i)) (nat_lit 1)) (nat_lit 1) ∧ rN (cloO cs ct cf s k w n0 a0 b0 j i') = yNadd (yNadd (rN (cloO cs ct cf s k w n0 a0 b0 j i)) (nat_lit 1)) (nat_lit 1) ∧ (∀ (i_1 : Nat), Nat.succ i_1 ≤ rN (cloO cs ct cf s k w n0 a0 b0 j i') → rA (cloO cs ct cf s k w n0 a0 b0 j i') i_1 = ySel (yNlt i_1 (yNadd (rN (cloO cs ct cf s k w n0 a0 b0 j i)) (nat_lit 1))) (ySel (yNlt i_1 (rN (cloO cs ct cf s k w n0 a0 b0 j i))) (rA (cloO cs ct cf s k w n0 a0 b0 j i) i_1) (keyC cs ct cf s (yInt i))) (valC cs ct cf s (yInt i)) ∧ rB (cloO cs ct cf s k w n0 a0 b0 j i') i_1 = ySel (yNlt i_1 (yNadd (rN (cloO cs ct cf s k w n0 a0 b0 j i)) (nat_lit 1))) (ySel (yNlt i_1 (rN (cloO cs ct cf s k w n0 a0 b0 j i))) (rB (cloO cs ct cf s k w n0 a0 b0 j i) i_1) (k (yNadd (nat_lit 0) (yNat (goalClo_3 i))))) (w (goalClo_1 i)) ∧ True) ∧ true = true) ∧ (yGrow (goalClo_4 cs ct cf s k w n0 a0 b0 j i) (nat_lit 16) = false → False)) ∧ (goalClo_2 cs ct cf s k w n0 a0 b0 j i)) ∧ (rightC cs ct cf cl cp = false → False)) ∧ (goalClo_6 cs ct cf s k w n0 a0 b0 j i)) ∧ (goalClo_5 cs ct cf s k w n0 a0 b0 j i)) ∧ (rightC cs ct cf cl cp = false → False)) ∧ (yNot false = false → (yLt (0 : Int) (yInt i) = true → (rightC cs ct cf cl cp = true → (yNeq (rN (cloO cs ct cf s k w n0 a0 b0 j i)) (rN (cloO cs ct cf s k w n0 a0 b0 j i)) = true → (yGrow (yNadd (rN (cloO cs ct cf s k w n0 a0 b0 j i)) (nat_lit 1)) (nat_lit 16) = true → (rightC cs ct cf cl cp = true → (yNeq (yNadd (rN (cloO cs ct cf s k w n0 a0 b0 j i)) (nat_lit 1)) (yNadd (rN (cloO cs ct cf s k w n0 a0 b0 j i)) (nat_lit 1)) = true → (yGrow (goalClo_4 cs ct cf s k w n0 a0 b0 j i) (nat_lit 16) = true → true = true ∧ ∃ (i' : Nat), (j ≤ i' ∧ Nat.succ i' ≤ nv) ∧ Nat.succ (msFit nv i') ≤ msFit nv i ∧ true = true ∧ yInt i' = yWrap IntKind.i64 (yAdd (yInt i) (1 : Int)) ∧ cs = cs ∧ ct = ct ∧ cf = cf ∧ cl = cl ∧ cp = cp ∧ rE (cloO cs ct cf s k w n0 a0 b0 j i') = yAnd (yAnd (rE (cloO cs ct cf s k w n0 a0 b0 j i)) (yNeq (nat_lit 1) (nat_lit 0))) (yNeq (nat_lit 1) (nat_lit 0)) ∧ nat_lit 0 = nat_lit 0 ∧ rN (cloO cs ct cf s k w n0 a0 b0 j i') = yNadd (yNadd (rN (cloO cs ct cf s k w n0 a0 b0 j i)) (nat_lit 1)) (nat_lit 1) ∧ rN (cloO cs ct cf s k w n0 a0 b0 j i') = yNadd (yNadd (rN (cloO cs ct cf s k w n0 a0 b0 j i)) (nat_lit 1)) (nat_lit 1) ∧ (∀ (i_1 : Nat), Nat.succ i_1 ≤ rN (cloO cs ct cf s k w n0 a0 b0 j i') → rA (cloO cs ct cf s k w n0 a0 b0 j i') i_1 = ySel (yNlt i_1 (yNadd (rN (cloO cs ct cf s k w n0 a0 b0 j i)) (nat_lit 1))) (ySel (yNlt i_1 (rN (cloO cs ct cf s k w n0 a0 b0 j i))) (rA (cloO cs ct cf s k w n0 a0 b0 j i) i_1) (keyC cs ct cf s (yWrap IntKind.i64 (ySub (yInt i) (1 : Int))))) (valC cs ct cf s (yInt i)) ∧ rB (cloO cs ct cf s k w n0 a0 b0 j i') i_1 = ySel (yNlt i_1 (yNadd (rN (cloO cs ct cf s k w n0 a0 b0 j i)) (nat_lit 1))) (ySel (yNlt i_1 (rN (cloO cs ct cf s k w n0 a0 b0 j i))) (rB (cloO cs ct cf s k w n0 a0 b0 j i) i_1) (k (yNadd (nat_lit 0) (yNat (goalClo_3 i))))) (w (goalClo_1 i)) ∧ True) ∧ true = true) ∧ (yGrow (goalClo_4 cs ct cf s k w n0 a0 b0 j i) (nat_lit 16) = false → False)) ∧ (goalClo_2 cs ct cf s k w n0 a0 b0 j i)) ∧ (rightC cs ct cf cl cp = false → False)) ∧ (goalClo_6 cs ct cf s k w n0 a0 b0 j i)) ∧ (goalClo_5 cs ct cf s k w n0 a0 b0 j i)) ∧ (rightC cs ct cf cl cp = false → False)) ∧ (goalClo_0 i cs ct cf cl cp s k w n0 a0 b0 j nv))) ∧ (yNlt (goalClo_1 i) nv = false → False)) ∧ (yIn (yWrap IntKind.i64 (yAdd (yInt i) (1 : Int))) nv = false → False)) ∧ (yNlt (yNadd (nat_lit 0) (yNat (goalClo_3 i))) nv = false → False)) ∧ (yIn (goalClo_3 i) nv = false → False)))) ∧ (yLt (yInt i) (yWrap IntKind.i64 (ySub (yInt nv) (1 : Int))) = false → (rightC cs ct cf cl cp = true → (true = true → (yNeq (rN (cloO cs ct cf s k w n0 a0 b0 j i)) (rN (cloO cs ct cf s k w n0 a0 b0 j i)) = true → (yGrow (yNadd (rN (cloO cs ct cf s k w n0 a0 b0 j i)) (nat_lit 1)) (nat_lit 16) = true → cs = cs ∧ ct = ct ∧ cf = cf ∧ cl = cl ∧ cp = cp ∧ rE (cloL cs ct cf s k w n0 a0 b0 j nv) = yAnd (rE (cloO cs ct cf s k w n0 a0 b0 j i)) (yNeq (nat_lit 1) (nat_lit 0)) ∧ nat_lit 0 = nat_lit 0 ∧ rN (cloL cs ct cf s k w n0 a0 b0 j nv) = yNadd (rN (cloO cs ct cf s k w n0 a0 b0 j i)) (nat_lit 1) ∧ rN (cloL cs ct cf s k w n0 a0 b0 j nv) = yNadd (rN (cloO cs ct cf s k w n0 a0 b0 j i)) (nat_lit 1) ∧ (∀ (i_1 : Nat), Nat.succ i_1 ≤ rN (cloL cs ct cf s k w n0 a0 b0 j nv) → rA (cloL cs ct cf s k w n0 a0 b0 j nv) i_1 = ySel (yNlt i_1 (rN (cloO cs ct cf s k w n0 a0 b0 j i))) (rA (cloO cs ct cf s k w n0 a0 b0 j i) i_1) (shapeC cs ct cf s) ∧ rB (cloL cs ct cf s k w n0 a0 b0 j nv) i_1 = ySel (yNlt i_1 (rN (cloO cs ct cf s k w n0 a0 b0 j i))) (rB (cloO cs ct cf s k w n0 a0 b0 j i) i_1) (packC false (yWrap IntKind.i64 (ySub (yInt nv) (1 : Int)))) ∧ True) ∧ true = true) ∧ (goalClo_6 cs ct cf s k w n0 a0 b0 j i)) ∧ (goalClo_5 cs ct cf s k w n0 a0 b0 j i)) ∧ (true = false → False)) ∧ (rightC cs ct cf cl cp = false → False)))
set_option maxRecDepth 100000 in
theorem goalClo_eq : goalClo = goalCloV := by kernel_rfl
set_option maxRecDepth 100000 in
set_option maxHeartbeats 4000000 in
theorem goalClo_vc : goalCloV := by
  unfold goalCloV goalClo_4 goalClo_3 goalClo_2 goalClo_0 goalClo_6 goalClo_5 goalClo_1
  intro cs ct cf cl cp s v kn k vn nv w l nil0 n0 a0 b0 j hr hnv hn0 hj h0
  simp only [yNle_t, yNlt_t, yIff_t] at hnv hn0 hj h0
  obtain ⟨z1, z2, z3⟩ := cloO_zero (cs := cs) (ct := ct) (cf := cf) (s := s) (k := k) (w := w) (n0 := n0) (a0 := a0) (b0 := b0) (j := j) h0
  simp only [yNot_t, yNot_f, yEq_t, yEq_f, yLt_t, yLt_f, yIn_t, yIn_f, yNlt_t, yNlt_f, yNeq_t, yNeq_f, yGrow_t, yGrow_f, yInt_e, yNadd_e, yAdd_e, ySub_e, true_and, and_true, Nat.zero_add, forall_const, Bool.true_eq_false, Bool.false_eq_true, false_implies, hr, msFit]
  refine ⟨⟨j, ⟨Nat.le_refl _, hj⟩, rfl, z1, z2, z2, z3⟩, fun _ i hi => ?_⟩
  have hlen : rN (cloO cs ct cf s k w n0 a0 b0 j i) = n0 + 2 * (i - j) := by
    have := cloO_len (cs := cs) (ct := ct) (cf := cf) (s := s) (k := k) (w := w) (n0 := n0) (a0 := a0) (b0 := b0) (j := j) (i - j)
    rwa [show j + (i - j) = i by omega] at this
  have hst := cloO_step (cs := cs) (ct := ct) (cf := cf) (s := s) (k := k) (w := w) (n0 := n0) (a0 := a0) (b0 := b0) hi.1
  have e1 : yWrap .i64 ((i : Int) + 1) = ((i + 1 : Nat) : Int) := by rw [wrap64 (by omega) (by omega)]; rfl
  have e2 : yWrap .i64 ((nv : Int) - 1) = (nv : Int) - 1 := wrap64 (by omega) (by omega)
  simp only [e1, e2, yNat_e]
  refine ⟨fun hlt => ?_, fun hge => ?_⟩
  · repeat' (first | apply And.intro | intro _)
    all_goals first
      | omega
      | (refine ⟨i + 1, ⟨by omega, by omega⟩, by omega, rfl, ?_⟩
         rw [hst]
         refine ⟨by rw [rE_snoc, yAnd10], by rw [rN_snoc, rN_snoc], by rw [rN_snoc, rN_snoc], fun q hq => ?_⟩
         rw [rN_snoc, rN_snoc] at hq
         exact ⟨rA_snoc2 _ _ _ hq, rB_snoc2 _ _ _ hq⟩)
  · have hi2 : i = nv - 1 := by omega
    have hcl : cloL cs ct cf s k w n0 a0 b0 j nv = cloO cs ct cf s k w n0 a0 b0 j i ++ [(shapeC cs ct cf s, packC false ((nv : Int) - 1))] := by unfold cloL; rw [hi2]
    rw [hcl]
    refine ⟨⟨fun _ => ⟨by rw [rE_snoc, yAnd10], rN_snoc _ _, rN_snoc _ _, fun q hq => ?_⟩, fun h => by omega⟩, fun h => by omega⟩
    rw [rN_snoc] at hq
    exact ⟨rA_snoc _ _ hq, rB_snoc _ _ hq⟩
set_option maxRecDepth 100000 in
theorem goalClo_tt : (goalClo) = True := goalClo_eq.trans (eq_true goalClo_vc)
theorem goalClo_ok : goalClo := @ft' goalClo goalClo_tt
def goalShut_1 (i : Nat) (cf : Int) := yAnd (yLe (0 : Int) (yWrap IntKind.i64 (ySub (yInt (Nat.succ i)) (1 : Int)))) (yLt (yWrap IntKind.i64 (ySub (yInt (Nat.succ i)) (1 : Int))) cf)
def goalShut_3 (cs : Int) (ct : Int) (cf : Int) (cl : Int) (cp : Int) (s : Int) := yAnd (rightC cs ct cf cl cp) (yAnd (yLe (0 : Int) s) (yLe s cs))
def goalShut_6 (cs : Int) (ct : Int) (cf : Int) (cl : Int) (cp : Int) (s : Int) (i : Nat) := yAnd (goalShut_3 cs ct cf cl cp s) (goalShut_1 i cf) = false → False
def goalShut_7 (cs : Int) (ct : Int) (cf : Int) (s : Int) (k : Nat → Int) (w : Nat → Int) (n0 : Nat) (a0 : Nat → Int) (b0 : Nat → Int) (j : Nat) (i : Nat) := yNeq (rN (cloO cs ct cf s k w n0 a0 b0 j i)) (rN (cloO cs ct cf s k w n0 a0 b0 j i)) = false → False
def goalShut_8 (cs : Int) (ct : Int) (cf : Int) (s : Int) (k : Nat → Int) (w : Nat → Int) (n0 : Nat) (a0 : Nat → Int) (b0 : Nat → Int) (j : Nat) (i : Nat) := yGrow (yNadd (rN (cloO cs ct cf s k w n0 a0 b0 j i)) (nat_lit 1)) (nat_lit 16) = false → False
def goalShut_9 (cs : Int) (ct : Int) (cf : Int) (s : Int) (i : Nat) := valC cs ct cf s (yWrap IntKind.i64 (ySub (yInt (Nat.succ i)) (1 : Int)))
def goalShut_0 (i : Nat) (cs : Int) (ct : Int) (cf : Int) (cl : Int) (cp : Int) (s : Int) (k : Nat → Int) (w : Nat → Int) (n0 : Nat) (a0 : Nat → Int) (b0 : Nat → Int) (j : Nat) (nv : Nat) := yLt (0 : Int) (yWrap IntKind.i64 (ySub (yInt (Nat.succ i)) (1 : Int))) = false → (yAnd (goalShut_3 cs ct cf cl cp s) (goalShut_1 i cf) = true → (yNeq (rN (cloO cs ct cf s k w n0 a0 b0 j i)) (rN (cloO cs ct cf s k w n0 a0 b0 j i)) = true → (yGrow (yNadd (rN (cloO cs ct cf s k w n0 a0 b0 j i)) (nat_lit 1)) (nat_lit 16) = true → true = true ∧ ∃ (i' : Nat), (j ≤ i' ∧ Nat.succ i' ≤ nv) ∧ Nat.succ (msFit nv i') ≤ msFit nv i ∧ true = true ∧ rE (cloO cs ct cf s k w n0 a0 b0 j i') = yAnd (rE (cloO cs ct cf s k w n0 a0 b0 j i)) (yNeq (nat_lit 1) (nat_lit 0)) ∧ nat_lit 0 = nat_lit 0 ∧ rN (cloO cs ct cf s k w n0 a0 b0 j i') = yNadd (rN (cloO cs ct cf s k w n0 a0 b0 j i)) (nat_lit 1) ∧ yInt (Nat.succ i') = yWrap IntKind.i64 (yAdd (yInt (Nat.succ i)) (1 : Int)) ∧ rN (cloO cs ct cf s k w n0 a0 b0 j i') = yNadd (rN (cloO cs ct cf s k w n0 a0 b0 j i)) (nat_lit 1) ∧ (∀ (i_1 : Nat), Nat.succ i_1 ≤ rN (cloO cs ct cf s k w n0 a0 b0 j i') → rA (cloO cs ct cf s k w n0 a0 b0 j i') i_1 = ySel (yNlt i_1 (rN (cloO cs ct cf s k w n0 a0 b0 j i))) (rA (cloO cs ct cf s k w n0 a0 b0 j i) i_1) (goalShut_9 cs ct cf s i) ∧ rB (cloO cs ct cf s k w n0 a0 b0 j i') i_1 = ySel (yNlt i_1 (rN (cloO cs ct cf s k w n0 a0 b0 j i))) (rB (cloO cs ct cf s k w n0 a0 b0 j i) i_1) (w (yNadd (nat_lit 0) (yNat (yInt (Nat.succ i))))) ∧ True) ∧ true = true) ∧ (goalShut_8 cs ct cf s k w n0 a0 b0 j i)) ∧ (goalShut_7 cs ct cf s k w n0 a0 b0 j i)) ∧ (goalShut_6 cs ct cf cl cp s i)
def goalShut_2 (i : Nat) := yWrap IntKind.i64 (ySub (yWrap IntKind.i64 (ySub (yInt (Nat.succ i)) (1 : Int))) (1 : Int))
def goalShut_4 (cs : Int) (ct : Int) (cf : Int) (s : Int) (k : Nat → Int) (w : Nat → Int) (n0 : Nat) (a0 : Nat → Int) (b0 : Nat → Int) (j : Nat) (i : Nat) := yNeq (yNadd (rN (cloO cs ct cf s k w n0 a0 b0 j i)) (nat_lit 1)) (yNadd (rN (cloO cs ct cf s k w n0 a0 b0 j i)) (nat_lit 1)) = false → False
def goalShut_5 (cs : Int) (ct : Int) (cf : Int) (s : Int) (k : Nat → Int) (w : Nat → Int) (n0 : Nat) (a0 : Nat → Int) (b0 : Nat → Int) (j : Nat) (i : Nat) := yNadd (yNadd (rN (cloO cs ct cf s k w n0 a0 b0 j i)) (nat_lit 1)) (nat_lit 1)
def goalShut_10 (i : Nat) (cf : Int) := yAnd (yLe (0 : Int) (goalShut_2 i)) (yLt (goalShut_2 i) cf)
def goalShut_11 (i : Nat) := yNadd (nat_lit 0) (yNat (yWrap IntKind.i64 (ySub (yInt (Nat.succ i)) (1 : Int))))
def goalShutV : Prop := (∀ (cs ct cf cl cp s v : Int) (kn : Bool) (k : Nat → Int) (vn : Bool) (nv : Nat) (w : Nat → Int) (l : Int) (nil0 : Bool) (n0 : Nat) (a0 b0 : Nat → Int) (j : Nat), rightC cs ct cf cl cp = true → yNle nv (nat_lit 80) = true → yNle n0 (nat_lit 1000) = true → yNlt j nv = true → yIff nil0 (yNeq n0 (nat_lit 0)) = true → yAnd (yLe (0 : Int) s) (yLe s cs) = true → yLe (yInt nv) cf = true → true = true ∧ (∃ (i0 : Nat), (j ≤ i0 ∧ Nat.succ i0 ≤ nv) ∧ true = true ∧ rE (cloO cs ct cf s k w n0 a0 b0 j i0) = nil0 ∧ nat_lit 0 = nat_lit 0 ∧ rN (cloO cs ct cf s k w n0 a0 b0 j i0) = n0 ∧ yInt (Nat.succ i0) = yWrap IntKind.i64 (yAdd (yInt j) (1 : Int)) ∧ rN (cloO cs ct cf s k w n0 a0 b0 j i0) = n0 ∧ (∀ (i : Nat), Nat.succ i ≤ rN (cloO cs ct cf s k w n0 a0 b0 j i0) → rA (cloO cs ct cf s k w n0 a0 b0 j i0) i = a0 i ∧ rB (cloO cs ct cf s k w n0 a0 b0 j i0) i = b0 i ∧ True) ∧ true = true) ∧ ∀ (g : Nat → AV) (i : Nat), j ≤ i ∧ Nat.succ i ≤ nv → (yLt (yInt (Nat.succ i)) (yInt nv) = true → (yNot false = true → (yIn (yInt (Nat.succ i)) nv = true → (yNlt (yNadd (nat_lit 0) (yNat (yInt (Nat.succ i)))) nv = true → (yIn (yInt (Nat.succ i)) nv = true → (yNlt (yNadd (nat_lit 0) (yNat (yInt (Nat.succ i)))) nv = true → (yNot false = true → (yAnd (goalShut_3 cs ct cf cl cp s) (goalShut_1 i cf) = true → (yNeq (rN (cloO cs ct cf s k w n0 a0 b0 j i)) (rN (cloO cs ct cf s k w n0 a0 b0 j i)) = true → (yGrow (yNadd (rN (cloO cs ct cf s k w n0 a0 b0 j i)) (nat_lit 1)) (nat_lit 16) = true → (yAnd (goalShut_3 cs ct cf cl cp s) (goalShut_1 i cf) = true → (yNeq (yNadd (rN (cloO cs ct cf s k w n0 a0 b0 j i)) (nat_lit 1)) (yNadd (rN (cloO cs ct cf s k w n0 a0 b0 j i)) (nat_lit 1)) = true → (yGrow (goalShut_5 cs ct cf s k w n0 a0 b0 j i) (nat_lit 16) = true → true = true ∧ ∃ (i' : Nat), (j ≤ i' ∧ Nat.succ i' ≤ nv) ∧ Nat.succ (msFit nv i') ≤ msFit nv i ∧ true = true ∧ rE (cloO cs ct cf s k w n0 a0 b0 j i') = yAnd (yAnd (rE (cloO cs ct cf s k w n0 a0 b0 j i)) (yNeq (nat_lit 1) (nat_lit 0))) (yNeq (nat_lit 1) (nat_lit 0)) ∧ nat_lit 0 = nat_lit 0 ∧ rN (cloO cs ct cf s k w n0 a0 b0 j i') = yNadd (yNadd (rN (cloO cs ct cf s k w n0 a0 b0 j i)) (nat_lit 1)) (nat_lit 1) ∧ yInt (Nat.succ i') = yWrap IntKind.i64 (yAdd (yInt (Nat.succ i)) (1 : Int)) ∧ rN (cloO cs ct cf s k w n0 a0 b0 j i') = yNadd (yNadd (rN (cloO cs ct cf s k w n0 a0 b0 j i)) (nat_lit 1)) (nat_lit 1) ∧ (∀ (i_1 : Nat), Nat.succ i_1 ≤ rN (cloO cs ct cf s k w n0 a0 b0 j i') → rA (cloO cs ct cf s k w n0 a0 b0 j i') i_1 = ySel (yNlt i_1 (yNadd (rN (cloO cs ct cf s k w n0 a0 b0 j i)) (nat_lit 1))) (ySel (yNlt i_1 (rN (cloO cs ct cf s k w n0 a0 b0 j i))) (rA (cloO cs ct cf s k w n0 a0 b0 j i) i_1) (keyC cs ct cf s (yWrap IntKind.i64 (ySub (yInt (Nat.succ i)) (1 : Int))))) (goalShut_9 cs ct cf s i) ∧ rB (cloO cs ct cf s k w n0 a0 b0 j i') i_1 = ySel (yNlt i_1 (yNadd (rN (cloO cs ct cf s k w n0 a0 b0 j i)) (nat_lit 1))) (ySel (yNlt i_1 (rN (cloO cs ct cf s k w n0 a0 b0 j i))) (rB (cloO cs ct cf s k w n0 a0 b0 j i) i_1) (k (yNadd (nat_lit 0) (yNat (yInt (Nat.succ i)))))) (w (yNadd (nat_lit 0) (yNat (yInt (Nat.succ i))))) ∧ True) ∧ true = true) ∧ (yGrow (goalShut_5 cs ct cf s k w n0 a0 b0 j i) (nat_lit 16) = false → False)) ∧ (goalShut_4 cs ct cf s k w n0 a0 b0 j i)) ∧ (goalShut_6 cs ct cf cl cp s i)) ∧ (goalShut_8 cs ct cf s k w n0 a0 b0 j i)) ∧ (goalShut_7 cs ct cf s k w n0 a0 b0 j i)) ∧ (goalShut_6 cs ct cf cl cp s i)) ∧ (yNot false = false → (yLt (0 : Int) (yWrap IntKind.i64 (ySub (yInt (Nat.succ i)) (1 : Int))) = true → (yAnd (goalShut_3 cs ct cf cl cp s) (goalShut_10 i cf) = true → (yNeq (rN (cloO cs ct cf s k w n0 a0 b0 j i)) (rN (cloO cs ct cf s k w n0 a0 b0 j i)) = true → (yGrow (yNadd (rN (cloO cs ct cf s k w n0 a0 b0 j i)) (nat_lit 1)) (nat_lit 16) = true → (yAnd (goalShut_3 cs ct cf cl cp s) (goalShut_1 i cf) = true → (yNeq (yNadd (rN (cloO cs ct cf s k w n0 a0 b0 j i)) (nat_lit 1)) (yNadd (rN (cloO cs ct cf s k w n0 a0 b0 j i)) (nat_lit 1)) = true → (yGrow (goalShut_5 cs ct cf s k w n0 a0 b0 j i) (nat_lit 16) = true → true = true ∧ ∃ (i' : Nat), (j ≤ i' ∧ Nat.succ i' ≤ nv) ∧ Nat.succ (msFit nv i') ≤ msFit nv i ∧ true = true ∧ rE (cloO cs ct cf s k w n0 a0 b0 j i') = yAnd (yAnd (rE (cloO cs ct cf s k w n0 a0 b0 j i)) (yNeq (nat_lit 1) (nat_lit 0))) (yNeq (nat_lit 1) (nat_lit 0)) ∧ nat_lit 0 = nat_lit 0 ∧ rN (cloO cs ct cf s k w n0 a0 b0 j i') = yNadd (yNadd (rN (cloO cs ct cf s k w n0 a0 b0 j i)) (nat_lit 1)) (nat_lit 1) ∧ yInt (Nat.succ i') = yWrap IntKind.i64 (yAdd (yInt (Nat.succ i)) (1 : Int)) ∧ rN (cloO cs ct cf s k w n0 a0 b0 j i') = yNadd (yNadd (rN (cloO cs ct cf s k w n0 a0 b0 j i)) (nat_lit 1)) (nat_lit 1) ∧ (∀ (i_1 : Nat), Nat.succ i_1 ≤ rN (cloO cs ct cf s k w n0 a0 b0 j i') → rA (cloO cs ct cf s k w n0 a0 b0 j i') i_1 = ySel (yNlt i_1 (yNadd (rN (cloO cs ct cf s k w n0 a0 b0 j i)) (nat_lit 1))) (ySel (yNlt i_1 (rN (cloO cs ct cf s k w n0 a0 b0 j i))) (rA (cloO cs ct cf s k w n0 a0 b0 j i) i_1) (keyC cs ct cf s (goalShut_2 i))) (goalShut_9 cs ct cf s i) ∧ rB (cloO cs ct cf s k w n0 a0 b0 j i') i_1 = ySel (yNlt i_1 (yNadd (rN (cloO cs ct cf s k w n0 a0 b0 j i)) (nat_lit 1))) (ySel (yNlt i_1 (rN (cloO cs ct cf s k w n0 a0 b0 j i))) (rB (cloO cs ct cf s k w n0 a0 b0 j i) i_1) (k (yNadd (nat_lit 0) (yNat (yInt (Nat.succ i)))))) (w (yNadd (nat_lit 0) (yNat (yInt (Nat.succ i))))) ∧ True) ∧ true = true) ∧ (yGrow (goalShut_5 cs ct cf s k w n0 a0 b0 j i) (nat_lit 16) = false → False)) ∧ (goalShut_4 cs ct cf s k w n0 a0 b0 j i)) ∧ (goalShut_6 cs ct cf cl cp s i)) ∧ (goalShut_8 cs ct cf s k w n0 a0 b0 j i)) ∧ (goalShut_7 cs ct cf s k w n0 a0 b0 j i)) ∧ (yAnd (goalShut_3 cs ct cf cl cp s) (goalShut_10 i cf) = false → False)) ∧ (goalShut_0 i cs ct cf cl cp s k w n0 a0 b0 j nv))) ∧ (yNlt (yNadd (nat_lit 0) (yNat (yInt (Nat.succ i)))) nv = false → False)) ∧ (yIn (yInt (Nat.succ i)) nv = false → False)) ∧ (yNlt (yNadd (nat_lit 0) (yNat (yInt (Nat.succ i)))) nv = false → False)) ∧ (yIn (yInt (Nat.succ i)) nv = false → False)) ∧ (yNot false = false → (yEq (yInt (Nat.succ i)) (0 : Int) = true → (yIn (yInt (Nat.succ i)) nv = true → (yNlt (yNadd (nat_lit 0) (yNat (yInt (Nat.succ i)))) nv = true → (yNot false = true → (yAnd (goalShut_3 cs ct cf cl cp s) (goalShut_1 i cf) = true → (yNeq (rN (cloO cs ct cf s k w n0 a0 b0 j i)) (rN (cloO cs ct cf s k w n0 a0 b0 j i)) = true → (yGrow (yNadd (rN (cloO cs ct cf s k w n0 a0 b0 j i)) (nat_lit 1)) (nat_lit 16) = true → (yAnd (goalShut_3 cs ct cf cl cp s) (goalShut_1 i cf) = true → (yNeq (yNadd (rN (cloO cs ct cf s k w n0 a0 b0 j i)) (nat_lit 1)) (yNadd (rN (cloO cs ct cf s k w n0 a0 b0 j i)) (nat_lit 1)) = true → (yGrow (goalShut_5 cs ct cf s k w n0 a0 b0 j i) (nat_lit 16) = true → true = true ∧ ∃ (i' : Nat), (j ≤ i' ∧ Nat.succ i' ≤ nv) ∧ Nat.succ (msFit nv i') ≤ msFit nv i ∧ true = true ∧ rE (cloO cs ct cf s k w n0 a0 b0 j i') = yAnd (yAnd (rE (cloO cs ct cf s k w n0 a0 b0 j i)) (yNeq (nat_lit 1) (nat_lit 0))) (yNeq (nat_lit 1) (nat_lit 0)) ∧ nat_lit 0 = nat_lit 0 ∧ rN (cloO cs ct cf s k w n0 a0 b0 j i') = yNadd (yNadd (rN (cloO cs ct cf s k w n0 a0 b0 j i)) (nat_lit 1)) (nat_lit 1) ∧ yInt (Nat.succ i') = yWrap IntKind.i64 (yAdd (yInt (Nat.succ i)) (1 : Int)) ∧ rN (cloO cs ct cf s k w n0 a0 b0 j i') = yNadd (yNadd (rN (cloO cs ct cf s k w n0 a0 b0 j i)) (nat_lit 1)) (nat_lit 1) ∧ (∀ (i_1 : Nat), Nat.succ i_1 ≤ rN (cloO cs ct cf s k w n0 a0 b0 j i') → rA (cloO cs ct cf s k w n0 a0 b0 j i') i_1 = ySel (yNlt i_1 (yNadd (rN (cloO cs ct cf s k w n0 a0 b0 j i)) (nat_lit 1))) (ySel (yNlt i_1 (rN (cloO cs ct cf s k w n0 a0 b0 j i))) (rA (cloO cs ct cf s k w n0 a0 b0 j i) i_1) (keyC cs ct cf s (yWrap IntKind.i64 (ySub (yInt (Nat.succ i)) (1 : Int))))) (goalShut_9 cs ct cf s i) ∧ rB (cloO cs ct cf s k w n0 a0 b0 j i') i_1 = ySel (yNlt i_1 (yNadd (rN (cloO cs ct cf s k w n0 a0 b0 j i)) (nat_lit 1))) (ySel (yNlt i_1 (rN (cloO cs ct cf s k w n0 a0 b0 j i))) (rB (cloO cs ct cf s k w n0 a0 b0 j i) i_1) (0 : Int)) (w (yNadd (nat_lit 0) (yNat (yInt (Nat.succ i))))) ∧ True) ∧ true = true) ∧ (yGrow (goalShut_5 cs ct cf s k w n0 a0 b0 j i) (nat_lit 16) = false → False)) ∧ (goalShut_4 cs ct cf s k w n0 a0 b0 j i)) ∧ (goalShut_6 cs ct cf cl cp s i)) ∧ (goalShut_8 cs ct cf s k w n0 a0 b0 j i)) ∧ (goalShut_7 cs ct cf s k w n0 a0 b0 j i)) ∧ (goalShut_6 cs ct cf cl cp s i)) ∧ (yNot false = false → (yLt (0 : Int) (yWrap IntKind.i64 (ySub (yInt (Nat.succ i)) (1 : Int))) = true → (yAnd (goalShut_3 cs ct cf cl cp s) (goalShut_10 i cf) = true → (yNeq (rN (cloO cs ct cf s k w n0 a0 b0 j i)) (rN (cloO cs ct cf s k w n0 a0 b0 j i)) = true → (yGrow (yNadd (rN (cloO cs ct cf s k w n0 a0 b0 j i)) (nat_lit 1)) (nat_lit 16) = true → (yAnd (goalShut_3 cs ct cf cl cp s) (goalShut_1 i cf) = true → (yNeq (yNadd (rN (cloO cs ct cf s k w n0 a0 b0 j i)) (nat_lit 1)) (yNadd (rN (cloO cs ct cf s k w n0 a0 b0 j i)) (nat_lit 1)) = true → (yGrow (goalShut_5 cs ct cf s k w n0 a0 b0 j i) (nat_lit 16) = true → true = true ∧ ∃ (i' : Nat), (j ≤ i' ∧ Nat.succ i' ≤ nv) ∧ Nat.succ (msFit nv i') ≤ msFit nv i ∧ true = true ∧ rE (cloO cs ct cf s k w n0 a0 b0 j i') = yAnd (yAnd (rE (cloO cs ct cf s k w n0 a0 b0 j i)) (yNeq (nat_lit 1) (nat_lit 0))) (yNeq (nat_lit 1) (nat_lit 0)) ∧ nat_lit 0 = nat_lit 0 ∧ rN (cloO cs ct cf s k w n0 a0 b0 j i') = yNadd (yNadd (rN (cloO cs ct cf s k w n0 a0 b0 j i)) (nat_lit 1)) (nat_lit 1) ∧ yInt (Nat.succ i') = yWrap IntKind.i64 (yAdd (yInt (Nat.succ i)) (1 : Int)) ∧ rN (cloO cs ct cf s k w n0 a0 b0 j i') = yNadd (yNadd (rN (cloO cs ct cf s k w n0 a0 b0 j i)) (nat_lit 1)) (nat_lit 1) ∧ (∀ (i_1 : Nat), Nat.succ i_1 ≤ rN (cloO cs ct cf s k w n0 a0 b0 j i') → rA (cloO cs ct cf s k w n0 a0 b0 j i') i_1 = ySel (yNlt i_1 (yNadd (rN (cloO cs ct cf s k w n0 a0 b0 j i)) (nat_lit 1))) (ySel (yNlt i_1 (rN (cloO cs ct cf s k w n0 a0 b0 j i))) (rA (cloO cs ct cf s k w n0 a0 b0 j i) i_1) (keyC cs ct cf s (goalShut_2 i))) (goalShut_9 cs ct cf s i) ∧ rB (cloO cs ct cf s k w n0 a0 b0 j i') i_1 = ySel (yNlt i_1 (yNadd (rN (cloO cs ct cf s k w n0 a0 b0 j i)) (nat_lit 1))) (ySel (yNlt i_1 (rN (cloO cs ct cf s k w n0 a0 b0 j i))) (rB (cloO cs ct cf s k w n0 a0 b0 j i) i_1) (0 : Int)) (w (yNadd (nat_lit 0) (yNat (yInt (Nat.succ i))))) ∧ True) ∧ true = true) ∧ (yGrow (goalShut_5 cs ct cf s k w n0 a0 b0 j i) (nat_lit 16) = false → False)) ∧ (goalShut_4 cs ct cf s k w n0 a0 b0 j i)) ∧ (goalShut_6 cs ct cf cl cp s i)) ∧ (goalShut_8 cs ct cf s k w n0 a0 b0 j i)) ∧ (goalShut_7 cs ct cf s k w n0 a0 b0 j i)) ∧ (yAnd (goalShut_3 cs ct cf cl cp s) (goalShut_10 i cf) = false → False)) ∧ (goalShut_0 i cs ct cf cl cp s k w n0 a0 b0 j nv))) ∧ (yNlt (yNadd (nat_lit 0) (yNat (yInt (Nat.succ i)))) nv = false → False)) ∧ (yIn (yInt (Nat.succ i)) nv = false → False)) ∧ (yEq (yInt (Nat.succ i)) (0 : Int) = false → (yIn (yWrap IntKind.i64 (ySub (yInt (Nat.succ i)) (1 : Int))) nv = true → (yNlt (goalShut_11 i) nv = true → (yIn (yInt (Nat.succ i)) nv = true → (yNlt (yNadd (nat_lit 0) (yNat (yInt (Nat.succ i)))) nv = true → (yNot false = true → (yAnd (goalShut_3 cs ct cf cl cp s) (goalShut_1 i cf) = true → (yNeq (rN (cloO cs ct cf s k w n0 a0 b0 j i)) (rN (cloO cs ct cf s k w n0 a0 b0 j i)) = true → (yGrow (yNadd (rN (cloO cs ct cf s k w n0 a0 b0 j i)) (nat_lit 1)) (nat_lit 16) = true → (yAnd (goalShut_3 cs ct cf cl cp s) (goalShut_1 i cf) = true → (yNeq (yNadd (rN (cloO cs ct cf s k w n0 a0 b0 j i)) (nat_lit 1)) (yNadd (rN (cloO cs ct cf s k w n0 a0 b0 j i)) (nat_lit 1)) = true → (yGrow (goalShut_5 cs ct cf s k w n0 a0 b0 j i) (nat_lit 16) = true → true = true ∧ ∃ (i' : Nat), (j ≤ i' ∧ Nat.succ i' ≤ nv) ∧ Nat.succ (msFit nv i') ≤ msFit nv i ∧ true = true ∧ rE (cloO cs ct cf s k w n0 a0 b0 j i') = yAnd (yAnd (rE (cloO cs ct cf s k w n0 a0 b0 j i)) (yNeq (nat_lit 1) (nat_lit 0))) (yNeq (nat_lit 1) (nat_lit 0)) ∧ nat_lit 0 = nat_lit 0 ∧ rN (cloO cs ct cf s k w n0 a0 b0 j i') = yNadd (yNadd (rN (cloO cs ct cf s k w n0 a0 b0 j i)) (nat_lit 1)) (nat_lit 1) ∧ yInt (Nat.succ i') = yWrap IntKind.i64 (yAdd (yInt (Nat.succ i)) (1 : Int)) ∧ rN (cloO cs ct cf s k w n0 a0 b0 j i') = yNadd (yNadd (rN (cloO cs ct cf s k w n0 a0 b0 j i)) (nat_lit 1)) (nat_lit 1) ∧ (∀ (i_1 : Nat), Nat.succ i_1 ≤ rN (cloO cs ct cf s k w n0 a0 b0 j i') → rA (cloO cs ct cf s k w n0 a0 b0 j i') i_1 = ySel (yNlt i_1 (yNadd (rN (cloO cs ct cf s k w n0 a0 b0 j i)) (nat_lit 1))) (ySel (yNlt i_1 (rN (cloO cs ct cf s k w n0 a0 b0 j i))) (rA (cloO cs ct cf s k w n0 a0 b0 j i) i_1) (keyC cs ct cf s (yWrap IntKind.i64 (ySub (yInt (Nat.succ i)) (1 : Int))))) (goalShut_9 cs ct cf s i) ∧ rB (cloO cs ct cf s k w n0 a0 b0 j i') i_1 = ySel (yNlt i_1 (yNadd (rN (cloO cs ct cf s k w n0 a0 b0 j i)) (nat_lit 1))) (ySel (yNlt i_1 (rN (cloO cs ct cf s k w n0 a0 b0 j i))) (rB (cloO cs ct cf s k w n0 a0 b0 j i) i_1) (k (goalShut_11 i))) (w (yNadd (nat_lit 0) (yNat (yInt (Nat.succ i))))) ∧ True) ∧ true = true) ∧ (yGrow (goalShut_5 cs ct cf s k w n0 a0 b0 j i) (nat_lit 16) = false → False)) ∧ (goalShut_4 cs ct cf s k w n0 a0 b0 j i)) ∧ (goalShut_6 cs ct cf cl cp s i)) ∧ (goalShut_8 cs ct cf s k w n0 a0 b0 j i)) ∧ (goalShut_7 cs ct cf s k w n0 a0 b0 j i)) ∧ (goalShut_6 cs ct cf cl cp s i)) ∧ (yNot false = false → (yLt (0 : Int) (yWrap IntKind.i64 (ySub (yInt (Nat.succ i)) (1 : Int))) = true → (yAnd (goalShut_3 cs ct cf cl cp s) (goalShut_10 i cf) = true → (yNeq (rN (cloO cs ct cf s k w n0 a0 b0 j i)) (rN (cloO cs ct cf s k w n0 a0 b0 j i)) = true → (yGrow (yNadd (rN (cloO cs ct cf s k w n0 a0 b0 j i)) (nat_lit 1)) (nat_lit 16) = true → (yAnd (goalShut_3 cs ct cf cl cp s) (goalShut_1 i cf) = true → (yNeq (yNadd (rN (cloO cs ct cf s k w n0 a0 b0 j i)) (nat_lit 1)) (yNadd (rN (cloO cs ct cf s k w n0 a0 b0 j i)) (nat_lit 1)) = true → (yGrow (goalShut_5 cs ct cf s k w n0 a0 b0 j i) (nat_lit 16) = true → true = true ∧ ∃ (i' : Nat), (j ≤ i' ∧ Nat.succ i' ≤ nv) ∧ Nat.succ (msFit nv i') ≤ msFit nv i ∧ true = true ∧ rE (cloO cs ct cf s k w n0 a0 b0 j i') = yAnd (yAnd (rE (cloO cs ct cf s k w n0 a0 b0 j i)) (yNeq (nat_lit 1) (nat_lit 0))) (yNeq (nat_lit 1) (nat_lit 0)) ∧ nat_lit 0 = nat_lit 0 ∧ rN (cloO cs ct cf s k w n0 a0 b0 j i') = yNadd (yNadd (rN (cloO cs ct cf s k w n0 a0 b0 j i)) (nat_lit 1)) (nat_lit 1) ∧ yInt (Nat.succ i') = yWrap IntKind.i64 (yAdd (yInt (Nat.succ i)) (1 : Int)) ∧ rN (cloO cs ct cf s k w n0 a0 b0 j i') = yNadd (yNadd (rN (cloO cs ct cf s k w n0 a0 b0 j i)) (nat_lit 1)) (nat_lit 1) ∧ (∀ (i_1 : Nat), Nat.succ i_1 ≤ rN (cloO cs ct cf s k w n0 a0 b0 j i') → rA (cloO cs ct cf s k w n0 a0 b0 j i') i_1 = ySel (yNlt i_1 (yNadd (rN (cloO cs ct cf s k w n0 a0 b0 j i)) (nat_lit 1))) (ySel (yNlt i_1 (rN (cloO cs ct cf s k w n0 a0 b0 j i))) (rA (cloO cs ct cf s k w n0 a0 b0 j i) i_1) (keyC cs ct cf s (goalShut_2 i))) (goalShut_9 cs ct cf s i) ∧ rB (cloO cs ct cf s k w n0 a0 b0 j i') i_1 = ySel (yNlt i_1 (yNadd (rN (cloO cs ct cf s k w n0 a0 b0 j i)) (nat_lit 1))) (ySel (yNlt i_1 (rN (cloO cs ct cf s k w n0 a0 b0 j i))) (rB (cloO cs ct cf s k w n0 a0 b0 j i) i_1) (k (goalShut_11 i))) (w (yNadd (nat_lit 0) (yNat (yInt (Nat.succ i))))) ∧ True) ∧ true = true) ∧ (yGrow (goalShut_5 cs ct cf s k w n0 a0 b0 j i) (nat_lit 16) = false → False)) ∧ (goalShut_4 cs ct cf s k w n0 a0 b0 j i)) ∧ (goalShut_6 cs ct cf cl cp s i)) ∧ (goalShut_8 cs ct cf s k w n0 a0 b0 j i)) ∧ (goalShut_7 cs ct cf s k w n0 a0 b0 j i)) ∧ (yAnd (goalShut_3 cs ct cf cl cp s) (goalShut_10 i cf) = false → False)) ∧ (goalShut_0 i cs ct cf cl cp s k w n0 a0 b0 j nv))) ∧ (yNlt (yNadd (nat_lit 0) (yNat (yInt (Nat.succ i)))) nv = false → False)) ∧ (yIn (yInt (Nat.succ i)) nv = false → False)) ∧ (yNlt (goalShut_11 i) nv = false → False)) ∧ (yIn (yWrap IntKind.i64 (ySub (yInt (Nat.succ i)) (1 : Int))) nv = false → False)))) ∧ (yLt (yInt (Nat.succ i)) (yInt nv) = false → (yAnd (rightC cs ct cf cl cp) (yAnd (yLe (0 : Int) s) (yLe s cs)) = true → (true = true → (yNeq (rN (cloO cs ct cf s k w n0 a0 b0 j i)) (rN (cloO cs ct cf s k w n0 a0 b0 j i)) = true → (yGrow (yNadd (rN (cloO cs ct cf s k w n0 a0 b0 j i)) (nat_lit 1)) (nat_lit 16) = true → rE (cloL cs ct cf s k w n0 a0 b0 j nv) = yAnd (rE (cloO cs ct cf s k w n0 a0 b0 j i)) (yNeq (nat_lit 1) (nat_lit 0)) ∧ nat_lit 0 = nat_lit 0 ∧ rN (cloL cs ct cf s k w n0 a0 b0 j nv) = yNadd (rN (cloO cs ct cf s k w n0 a0 b0 j i)) (nat_lit 1) ∧ rN (cloL cs ct cf s k w n0 a0 b0 j nv) = yNadd (rN (cloO cs ct cf s k w n0 a0 b0 j i)) (nat_lit 1) ∧ (∀ (i_1 : Nat), Nat.succ i_1 ≤ rN (cloL cs ct cf s k w n0 a0 b0 j nv) → rA (cloL cs ct cf s k w n0 a0 b0 j nv) i_1 = ySel (yNlt i_1 (rN (cloO cs ct cf s k w n0 a0 b0 j i))) (rA (cloO cs ct cf s k w n0 a0 b0 j i) i_1) (shapeC cs ct cf s) ∧ rB (cloL cs ct cf s k w n0 a0 b0 j nv) i_1 = ySel (yNlt i_1 (rN (cloO cs ct cf s k w n0 a0 b0 j i))) (rB (cloO cs ct cf s k w n0 a0 b0 j i) i_1) (packC false (yWrap IntKind.i64 (ySub (yInt nv) (1 : Int)))) ∧ True) ∧ true = true) ∧ (goalShut_8 cs ct cf s k w n0 a0 b0 j i)) ∧ (goalShut_7 cs ct cf s k w n0 a0 b0 j i)) ∧ (true = false → False)) ∧ (yAnd (rightC cs ct cf cl cp) (yAnd (yLe (0 : Int) s) (yLe s cs)) = false → False)))
set_option maxRecDepth 100000 in
theorem goalShut_eq : goalShut = goalShutV := by kernel_rfl
set_option maxRecDepth 100000 in
set_option maxHeartbeats 4000000 in
theorem goalShut_vc : goalShutV := by
  unfold goalShutV goalShut_11 goalShut_10 goalShut_5 goalShut_4 goalShut_2 goalShut_0 goalShut_9 goalShut_8 goalShut_7 goalShut_6 goalShut_3 goalShut_1
  intro cs ct cf cl cp s v kn k vn nv w l nil0 n0 a0 b0 j hr hnv hn0 hj h0 hs hf
  simp only [yNle_t, yNlt_t, yIff_t, yAnd_t, yLe_t, yInt_e] at hnv hn0 hj h0 hs hf
  obtain ⟨z1, z2, z3⟩ := cloO_zero (cs := cs) (ct := ct) (cf := cf) (s := s) (k := k) (w := w) (n0 := n0) (a0 := a0) (b0 := b0) (j := j) h0
  simp only [yNot_t, yNot_f, yEq_t, yEq_f, yAnd_t, yAnd_f, yLt_t, yLt_f, yLe_t, yLe_f, yIn_t, yIn_f, yNlt_t, yNlt_f, yNeq_t, yNeq_f, yGrow_t, yGrow_f, yInt_e, yNat_e, yNadd_e, yAdd_e, ySub_e, true_and, and_true, Nat.zero_add, forall_const, Bool.true_eq_false, Bool.false_eq_true, false_implies, hr, msFit, false_or]
  refine ⟨⟨j, ⟨Nat.le_refl _, hj⟩, z1, z2, by rw [wrap64 (by omega) (by omega)]; rfl, z2, z3⟩, fun _ i hi => ?_⟩
  have hlen : rN (cloO cs ct cf s k w n0 a0 b0 j i) = n0 + 2 * (i - j) := by
    have := cloO_len (cs := cs) (ct := ct) (cf := cf) (s := s) (k := k) (w := w) (n0 := n0) (a0 := a0) (b0 := b0) (j := j) (i - j)
    rwa [show j + (i - j) = i by omega] at this
  have hst := cloO_step (cs := cs) (ct := ct) (cf := cf) (s := s) (k := k) (w := w) (n0 := n0) (a0 := a0) (b0 := b0) hi.1
  have e1 : yWrap .i64 (((Nat.succ i : Nat) : Int) - 1) = (i : Int) := by rw [wrap64 (by omega) (by omega)]; omega
  have e3 : yWrap .i64 (((Nat.succ i : Nat) : Int) + 1) = ((Nat.succ (i + 1) : Nat) : Int) := by rw [wrap64 (by omega) (by omega)]; rfl
  have e2 : yWrap .i64 ((nv : Int) - 1) = (nv : Int) - 1 := wrap64 (by omega) (by omega)
  simp only [e1, e2, e3]
  refine ⟨fun hlt => ?_, fun hge => ?_⟩
  · repeat' (first | apply And.intro | intro _)
    all_goals first
      | omega
      | (refine ⟨i + 1, ⟨by omega, by omega⟩, by omega, ?_⟩
         rw [hst]
         refine ⟨by rw [rE_snoc, yAnd10], by rw [rN_snoc, rN_snoc], rfl, by rw [rN_snoc, rN_snoc], fun q hq => ?_⟩
         rw [rN_snoc, rN_snoc] at hq
         exact ⟨rA_snoc2 _ _ _ hq, rB_snoc2 _ _ _ hq⟩)
  · have hi2 : i = nv - 1 := by omega
    have hcl : cloL cs ct cf s k w n0 a0 b0 j nv = cloO cs ct cf s k w n0 a0 b0 j i ++ [(shapeC cs ct cf s, packC false ((nv : Int) - 1))] := by unfold cloL; rw [hi2]
    rw [hcl]
    repeat' (first | apply And.intro | intro _)
    all_goals first
      | omega
      | (rw [rE_snoc, yAnd10]; done)
      | exact rN_snoc _ _
      | (rename_i hq; rw [rN_snoc] at hq; first | exact rA_snoc _ _ hq | exact rB_snoc _ _ hq)
set_option maxRecDepth 100000 in
theorem goalShut_tt : (goalShut) = True := goalShut_eq.trans (eq_true goalShut_vc)
theorem goalShut_ok : goalShut := @ft' goalShut goalShut_tt
end Go.Proofs.YtlfehgagnelbhaaGreatDoor.Ex
namespace Go.Proofs.YtlfehgagnelbhaaGreatDoor.Ex
open Go

-- OPEN setL
def setOk (cs s : Int) (i : Bool) (nk : Nat) (k : Nat → Int) (nv : Nat) (cf at_ : Int) : Bool := decide ((1 ≤ s ∧ s ≤ cs) ∧ fitsC i nk k nv cf = true ∧ i = false ∧ 0 ≤ at_ ∧ at_ < nv)
def setL (cs ct cf s v : Int) (i : Bool) (nk : Nat) (k : Nat → Int) (nv : Nat) (at_ word : Int) : List (Int × Int) :=
  if setOk cs s i nk k nv cf at_ then [(valC cs ct cf s at_, word), (verC cs ct cf s, bumpC v)] else []
def goalSet (P : Program) (f : FuncId) : Prop := ∀ (cs ct cf cl cp s v : Int) (i kn : Bool) (nk : Nat) (k : Nat → Int) (vn : Bool) (nv : Nat) (w : Nat → Int) (l at_ word : Int) (L : List (Int × Int)),
  rightC cs ct cf cl cp = true → inU v = true → yAnd (yNle nk 80) (yNle nv 80) = true → L = setL cs ct cf s v i nk k nv at_ word →
  wxP P (smL lShr) (fun _ => none) f [sConf, sPart, .sc, .sc] [dCf cs ct cf cl cp, dPt s v i kn nk k vn nv w l, .v (.y .i64 at_), .v (.y .u64 word)] ownW (rowsW L) []
def goalSetP : Prop := goalSet Tryz.prog 81
def goalSetR : Prop := goalSet Tryz.prog 84
def goalSetPV : Prop := (∀ (cs ct cf cl cp s v : Int) (i _kn : Bool) (nk : Nat) (k : Nat → Int) (_vn : Bool) (nv : Nat) (w : Nat → Int) (_l at_ word : Int) (L : List (Int × Int)), rightC cs ct cf cl cp = true → yAnd (yLe (0 : Int) v) (yLt v (18446744073709551616 : Int)) = true → yAnd (yNle nk (nat_lit 80)) (yNle nv (nat_lit 80)) = true → L = setL cs ct cf s v i nk k nv at_ word → (rightC cs ct cf cl cp = true → (yLt (verC cs ct cf s) (0 : Int) = true → rE L = true ∧ rN L = nat_lit 0 ∧ rN L = nat_lit 0 ∧ true = true ∧ true = true) ∧ (yLt (verC cs ct cf s) (0 : Int) = false → (yEq s (0 : Int) = true → rE L = true ∧ rN L = nat_lit 0 ∧ rN L = nat_lit 0 ∧ true = true ∧ true = true) ∧ (yEq s (0 : Int) = false → (yNle (yNadd (nat_lit 0) nk) nk = true → ((yCol (CK.int IntKind.u64) nk fun (i : Nat) => AV.y IntKind.u64 (k i)) = true → (yNle (yNadd (nat_lit 0) nv) nv = true → ((yCol (CK.int IntKind.u64) nv fun (i : Nat) => AV.y IntKind.u64 (w i)) = true → (yAnd (yNle nk (nat_lit 80)) (yNle nv (nat_lit 80)) = true → (yNot (fitsC i nk (fun (i : Nat) => k i) nv cf) = true → rE L = true ∧ rN L = nat_lit 0 ∧ rN L = nat_lit 0 ∧ true = true ∧ true = true) ∧ (yNot (fitsC i nk (fun (i : Nat) => k i) nv cf) = false → (yNot i = true → (yLe (0 : Int) at_ = true → (yNot (yLt at_ (yInt nv)) = true → rE L = true ∧ rN L = nat_lit 0 ∧ rN L = nat_lit 0 ∧ true = true ∧ true = true) ∧ (yNot (yLt at_ (yInt nv)) = false → (rightC cs ct cf cl cp = true → (rightC cs ct cf cl cp = true → (yAnd (yLe (0 : Int) v) (yLt v (18446744073709551616 : Int)) = true → rE L = false ∧ nat_lit 0 = nat_lit 0 ∧ rN L = nat_lit 2 ∧ rN L = nat_lit 2 ∧ ((rA L (nat_lit 0) = valC cs ct cf s at_ ∧ rB L (nat_lit 0) = word ∧ True) ∧ (rA L (nat_lit 1) = verC cs ct cf s ∧ rB L (nat_lit 1) = bumpC v ∧ True) ∧ True) ∧ true = true) ∧ (yAnd (yLe (0 : Int) v) (yLt v (18446744073709551616 : Int)) = false → False)) ∧ (rightC cs ct cf cl cp = false → False)) ∧ (rightC cs ct cf cl cp = false → False))) ∧ (yLe (0 : Int) at_ = false → rE L = true ∧ rN L = nat_lit 0 ∧ rN L = nat_lit 0 ∧ true = true ∧ true = true)) ∧ (yNot i = false → rE L = true ∧ rN L = nat_lit 0 ∧ rN L = nat_lit 0 ∧ true = true ∧ true = true))) ∧ (yAnd (yNle nk (nat_lit 80)) (yNle nv (nat_lit 80)) = false → False)) ∧ ((yCol (CK.int IntKind.u64) nv fun (i : Nat) => AV.y IntKind.u64 (w i)) = false → False)) ∧ (yNle (yNadd (nat_lit 0) nv) nv = false → False)) ∧ ((yCol (CK.int IntKind.u64) nk fun (i : Nat) => AV.y IntKind.u64 (k i)) = false → False)) ∧ (yNle (yNadd (nat_lit 0) nk) nk = false → False)))) ∧ (rightC cs ct cf cl cp = false → False))
set_option maxRecDepth 100000 in
theorem goalSetP_eq : goalSetP = goalSetPV := by kernel_rfl
set_option maxRecDepth 100000 in
set_option maxHeartbeats 4000000 in
theorem goalSetP_vc : goalSetPV := by
  unfold goalSetPV
  intro cs ct cf cl cp s v i kn nk k vn nv w l at_ word L hr hv h8 hL
  have hv1 := verC_or (a := s) hr
  have hc := rightC_iff.1 hr
  simp only [yAnd_t, yLe_t, yLt_t, yNle_t] at hv h8
  unfold setL at hL
  by_cases hk : setOk cs s i nk k nv cf at_ = true
  · rw [if_pos hk] at hL
    subst hL
    unfold setOk at hk
    rw [decide_eq_true_iff] at hk
    obtain ⟨k1, k2, rfl, k4, k5⟩ := hk
    have k6 := (fits_t.1 k2).1
    simp only [yNot_t, yNot_f, yEq_t, yEq_f, yAnd_t, yAnd_f, yLt_t, yLt_f, yLe_t, yLe_f, yNle_t, yNle_f, yInt_e, yNadd_e, yCol_int, true_and, and_true, Nat.zero_add, Nat.le_refl, forall_const, Bool.true_eq_false, Bool.false_eq_true, false_implies, hr, k2]
    repeat' (first | apply And.intro | intro _)
    all_goals first
      | rfl
      | (exfalso; omega)
      | omega
  · rw [if_neg hk] at hL
    subst hL
    simp only [yNot_t, yNot_f, yEq_t, yEq_f, yAnd_t, yAnd_f, yLt_t, yLt_f, yLe_t, yLe_f, yNle_t, yNle_f, yInt_e, yNadd_e, yCol_int, true_and, and_true, Nat.zero_add, Nat.le_refl, forall_const, Bool.true_eq_false, false_implies, hr]
    repeat' (first | apply And.intro | intro _)
    all_goals first
      | rfl
      | (exfalso; omega)
      | omega
      | (exfalso
         apply hk
         unfold setOk
         rw [decide_eq_true_iff]
         exact ⟨by omega, by assumption, by assumption, by omega, by omega⟩)
set_option maxRecDepth 100000 in
theorem goalSetP_tt : (goalSetP) = True := goalSetP_eq.trans (eq_true goalSetP_vc)
theorem goalSetP_ok : goalSetP := @ft' goalSetP goalSetP_tt
def goalSetRV : Prop := (∀ (cs ct cf cl cp s v : Int) (i _kn : Bool) (nk : Nat) (k : Nat → Int) (_vn : Bool) (nv : Nat) (w : Nat → Int) (_l at_ word : Int) (L : List (Int × Int)), rightC cs ct cf cl cp = true → yAnd (yLe (0 : Int) v) (yLt v (18446744073709551616 : Int)) = true → yAnd (yNle nk (nat_lit 80)) (yNle nv (nat_lit 80)) = true → L = setL cs ct cf s v i nk k nv at_ word → (yLt s (0 : Int) = true → rE L = true ∧ rN L = nat_lit 0 ∧ rN L = nat_lit 0 ∧ true = true ∧ true = true) ∧ (yLt s (0 : Int) = false → (yLt cs s = true → rE L = true ∧ rN L = nat_lit 0 ∧ rN L = nat_lit 0 ∧ true = true ∧ true = true) ∧ (yLt cs s = false → (yEq s (0 : Int) = true → rE L = true ∧ rN L = nat_lit 0 ∧ rN L = nat_lit 0 ∧ true = true ∧ true = true) ∧ (yEq s (0 : Int) = false → (yNle (yNadd (nat_lit 0) nk) nk = true → ((yCol (CK.int IntKind.u64) nk fun (i : Nat) => AV.y IntKind.u64 (k i)) = true → (yNle (yNadd (nat_lit 0) nv) nv = true → ((yCol (CK.int IntKind.u64) nv fun (i : Nat) => AV.y IntKind.u64 (w i)) = true → (yAnd (yNle nk (nat_lit 80)) (yNle nv (nat_lit 80)) = true → (yNot (fitsC i nk (fun (i : Nat) => k i) nv cf) = true → rE L = true ∧ rN L = nat_lit 0 ∧ rN L = nat_lit 0 ∧ true = true ∧ true = true) ∧ (yNot (fitsC i nk (fun (i : Nat) => k i) nv cf) = false → (i = true → rE L = true ∧ rN L = nat_lit 0 ∧ rN L = nat_lit 0 ∧ true = true ∧ true = true) ∧ (i = false → (yLt at_ (0 : Int) = true → rE L = true ∧ rN L = nat_lit 0 ∧ rN L = nat_lit 0 ∧ true = true ∧ true = true) ∧ (yLt at_ (0 : Int) = false → (yLe (yInt nv) at_ = true → rE L = true ∧ rN L = nat_lit 0 ∧ rN L = nat_lit 0 ∧ true = true ∧ true = true) ∧ (yLe (yInt nv) at_ = false → (yAnd (yAnd (rightC cs ct cf cl cp) (yAnd (yLe (0 : Int) s) (yLe s cs))) (yAnd (yLe (0 : Int) at_) (yLt at_ cf)) = true → (yAnd (rightC cs ct cf cl cp) (yAnd (yLe (0 : Int) s) (yLe s cs)) = true → (yAnd (yLe (0 : Int) v) (yLt v (18446744073709551616 : Int)) = true → rE L = false ∧ nat_lit 0 = nat_lit 0 ∧ rN L = nat_lit 2 ∧ rN L = nat_lit 2 ∧ ((rA L (nat_lit 0) = valC cs ct cf s at_ ∧ rB L (nat_lit 0) = word ∧ True) ∧ (rA L (nat_lit 1) = verC cs ct cf s ∧ rB L (nat_lit 1) = bumpC v ∧ True) ∧ True) ∧ true = true) ∧ (yAnd (yLe (0 : Int) v) (yLt v (18446744073709551616 : Int)) = false → False)) ∧ (yAnd (rightC cs ct cf cl cp) (yAnd (yLe (0 : Int) s) (yLe s cs)) = false → False)) ∧ (yAnd (yAnd (rightC cs ct cf cl cp) (yAnd (yLe (0 : Int) s) (yLe s cs))) (yAnd (yLe (0 : Int) at_) (yLt at_ cf)) = false → False)))))) ∧ (yAnd (yNle nk (nat_lit 80)) (yNle nv (nat_lit 80)) = false → False)) ∧ ((yCol (CK.int IntKind.u64) nv fun (i : Nat) => AV.y IntKind.u64 (w i)) = false → False)) ∧ (yNle (yNadd (nat_lit 0) nv) nv = false → False)) ∧ ((yCol (CK.int IntKind.u64) nk fun (i : Nat) => AV.y IntKind.u64 (k i)) = false → False)) ∧ (yNle (yNadd (nat_lit 0) nk) nk = false → False)))))
set_option maxRecDepth 100000 in
theorem goalSetR_eq : goalSetR = goalSetRV := by kernel_rfl
set_option maxRecDepth 100000 in
set_option maxHeartbeats 4000000 in
theorem goalSetR_vc : goalSetRV := by
  unfold goalSetRV
  intro cs ct cf cl cp s v i kn nk k vn nv w l at_ word L hr hv h8 hL
  have hv1 := verC_or (a := s) hr
  have hc := rightC_iff.1 hr
  simp only [yAnd_t, yLe_t, yLt_t, yNle_t] at hv h8
  unfold setL at hL
  by_cases hk : setOk cs s i nk k nv cf at_ = true
  · rw [if_pos hk] at hL
    subst hL
    unfold setOk at hk
    rw [decide_eq_true_iff] at hk
    obtain ⟨k1, k2, rfl, k4, k5⟩ := hk
    have k6 := (fits_t.1 k2).1
    simp only [yNot_t, yNot_f, yEq_t, yEq_f, yAnd_t, yAnd_f, yLt_t, yLt_f, yLe_t, yLe_f, yNle_t, yNle_f, yInt_e, yNadd_e, yCol_int, true_and, and_true, Nat.zero_add, Nat.le_refl, forall_const, Bool.true_eq_false, Bool.false_eq_true, false_implies, hr, k2, false_or]
    repeat' (first | apply And.intro | intro _)
    all_goals first
      | rfl
      | (exfalso; omega)
      | omega
  · rw [if_neg hk] at hL
    subst hL
    simp only [yNot_t, yNot_f, yEq_t, yEq_f, yAnd_t, yAnd_f, yLt_t, yLt_f, yLe_t, yLe_f, yNle_t, yNle_f, yInt_e, yNadd_e, yCol_int, true_and, and_true, Nat.zero_add, Nat.le_refl, forall_const, Bool.true_eq_false, false_implies, hr, false_or]
    repeat' (first | apply And.intro | intro _)
    all_goals first
      | rfl
      | (exfalso; omega)
      | omega
      | (exfalso
         apply hk
         unfold setOk
         rw [decide_eq_true_iff]
         exact ⟨by omega, by assumption, by assumption, by omega, by omega⟩)
set_option maxRecDepth 100000 in
theorem goalSetR_tt : (goalSetR) = True := goalSetR_eq.trans (eq_true goalSetR_vc)
theorem goalSetR_ok : goalSetR := @ft' goalSetR goalSetR_tt
end Go.Proofs.YtlfehgagnelbhaaGreatDoor.Ex
namespace Go.Proofs.YtlfehgagnelbhaaGreatDoor.Ex
open Go

-- OPEN remL
def remL (cs ct cf s v : Int) (i : Bool) (nk : Nat) (k : Nat → Int) (nv : Nat) (w : Nat → Int) (at_ : Int) : List (Int × Int) :=
  if setOk cs s i nk k nv cf at_ then cloL cs ct cf s k w 0 (fun _ => 0) (fun _ => 0) (yNat at_) nv ++ [(verC cs ct cf s, bumpC v)] else []
def fClo (ds : List Dx) : Option (Bool × Dx × List (List Dx)) :=
  match ds with
  | [.l [.v (.y .i64 cs), .v (.y .i64 ct), .v (.y .i64 cf), .v (.y .i64 cl), .v (.y .i64 cp), .rows nil0 n0 [.int .i64 a0, .int .u64 b0]], .l [.v (.y .i64 s), .v (.y .u64 _), .v (.yb i), .rows _ nk [.int .u64 k], .rows _ nv [.int .u64 w], .v (.y .u64 _)], .v (.y .i64 j)] =>
    some (yAnd (rightC cs ct cf cl cp) (yAnd (yNle nv 80) (yAnd (yNle n0 1000) (yAnd (yIn j nv) (yAnd (yIff nil0 (yNeq n0 0)) (yAnd (yNot i) (yNeq nk nv)))))), .l [],
      [[.v (.y .i64 cs), .v (.y .i64 ct), .v (.y .i64 cf), .v (.y .i64 cl), .v (.y .i64 cp), rowsW (cloL cs ct cf s k w n0 a0 b0 (yNat j) nv)]])
  | _ => none
def fShut (ds : List Dx) : Option (Bool × Dx × List (List Dx)) :=
  match ds with
  | [.l [.v (.y .i64 cs), .v (.y .i64 ct), .v (.y .i64 cf), .v (.y .i64 cl), .v (.y .i64 cp)], .rows nil0 n0 [.int .i64 a0, .int .u64 b0], .l [.v (.y .i64 s), .v (.y .u64 _), .v (.yb i), .rows _ nk [.int .u64 k], .rows _ nv [.int .u64 w], .v (.y .u64 _)], .v (.y .i64 j)] =>
    some (yAnd (rightC cs ct cf cl cp) (yAnd (yNle nv 80) (yAnd (yNle n0 1000) (yAnd (yIn j nv) (yAnd (yIff nil0 (yNeq n0 0)) (yAnd (yNot i) (yAnd (yNeq nk nv) (yAnd (yAnd (yLe 0 s) (yLe s cs)) (yLe (yInt nv) cf)))))))),
      rowsW (cloL cs ct cf s k w n0 a0 b0 (yNat j) nv), [])
  | _ => none
def lRem : List (Nat × Sm) := (103, .ct (ctX [sPen, sPart, .sc] (.tup []) fClo)) :: (107, .ct (ctX [sConf, ownW, sPart, .sc] ownW fShut)) :: lShr
def goalRem (P : Program) (f : FuncId) : Prop := ∀ (cs ct cf cl cp s v : Int) (i kn : Bool) (nk : Nat) (k : Nat → Int) (vn : Bool) (nv : Nat) (w : Nat → Int) (l at_ : Int) (L : List (Int × Int)),
  rightC cs ct cf cl cp = true → inU v = true → yAnd (yNle nk 80) (yNle nv 80) = true → L = remL cs ct cf s v i nk k nv w at_ →
  wxP P (smL lRem) (fun _ => none) f [sConf, sPart, .sc] [dCf cs ct cf cl cp, dPt s v i kn nk k vn nv w l, .v (.y .i64 at_)] ownW (rowsW L) []
def goalRemP : Prop := goalRem Tryz.prog 83
def goalRemR : Prop := goalRem Tryz.prog 86
theorem rE_snoc' (l : List (Int × Int)) (x : Int × Int) : rE (l ++ [x]) = yAnd (rE l) (yNeq 1 0) := by rw [rE_snoc, yAnd10]
theorem cloL_len {cs ct cf s : Int} {k w : Nat → Int} {n0 : Nat} {a0 b0 : Nat → Int} {j nv : Nat} (h1 : j < nv) (h2 : nv ≤ 80) (h3 : n0 ≤ 1000) : rN (cloL cs ct cf s k w n0 a0 b0 j nv) ≤ 2000 := by
  have := cloO_len (cs := cs) (ct := ct) (cf := cf) (s := s) (k := k) (w := w) (n0 := n0) (a0 := a0) (b0 := b0) (j := j) (nv - 1 - j)
  rw [show j + (nv - 1 - j) = nv - 1 by omega] at this
  unfold cloL
  rw [rN_snoc, this]; omega
def goalRemP_0 (cs : Int) (ct : Int) (cf : Int) (s : Int) (k : Nat → Int) (w : Nat → Int) (at_ : Int) (nv : Nat) := cloL cs ct cf s (fun (i : Nat) => k i) (fun (i : Nat) => w i) (nat_lit 0) (fun (_ : Nat) => (0 : Int)) (fun (_ : Nat) => (0 : Int)) (yNat at_) nv
def goalRemPV : Prop := (∀ (cs ct cf cl cp s v : Int) (i _kn : Bool) (nk : Nat) (k : Nat → Int) (_vn : Bool) (nv : Nat) (w : Nat → Int) (_l at_ : Int) (L : List (Int × Int)), rightC cs ct cf cl cp = true → yAnd (yLe (0 : Int) v) (yLt v (18446744073709551616 : Int)) = true → yAnd (yNle nk (nat_lit 80)) (yNle nv (nat_lit 80)) = true → L = remL cs ct cf s v i nk k nv w at_ → (rightC cs ct cf cl cp = true → (yLt (verC cs ct cf s) (0 : Int) = true → rE L = true ∧ rN L = nat_lit 0 ∧ rN L = nat_lit 0 ∧ true = true ∧ true = true) ∧ (yLt (verC cs ct cf s) (0 : Int) = false → (yEq s (0 : Int) = true → rE L = true ∧ rN L = nat_lit 0 ∧ rN L = nat_lit 0 ∧ true = true ∧ true = true) ∧ (yEq s (0 : Int) = false → (yNle (yNadd (nat_lit 0) nk) nk = true → ((yCol (CK.int IntKind.u64) nk fun (i : Nat) => AV.y IntKind.u64 (k i)) = true → (yNle (yNadd (nat_lit 0) nv) nv = true → ((yCol (CK.int IntKind.u64) nv fun (i : Nat) => AV.y IntKind.u64 (w i)) = true → (yAnd (yNle nk (nat_lit 80)) (yNle nv (nat_lit 80)) = true → (yNot (fitsC i nk (fun (i : Nat) => k i) nv cf) = true → rE L = true ∧ rN L = nat_lit 0 ∧ rN L = nat_lit 0 ∧ true = true ∧ true = true) ∧ (yNot (fitsC i nk (fun (i : Nat) => k i) nv cf) = false → (yNot i = true → (yLe (0 : Int) at_ = true → (yNot (yLt at_ (yInt nv)) = true → rE L = true ∧ rN L = nat_lit 0 ∧ rN L = nat_lit 0 ∧ true = true ∧ true = true) ∧ (yNot (yLt at_ (yInt nv)) = false → (yNle (yNadd (nat_lit 0) nk) nk = true → ((yCol (CK.int IntKind.u64) nk fun (i : Nat) => AV.y IntKind.u64 (k i)) = true → (yNle (yNadd (nat_lit 0) nv) nv = true → ((yCol (CK.int IntKind.u64) nv fun (i : Nat) => AV.y IntKind.u64 (w i)) = true → (yAnd (rightC cs ct cf cl cp) (yAnd (yNle nv (nat_lit 80)) (yAnd (yNle (nat_lit 0) (nat_lit 1000)) (yAnd (yIn at_ nv) (yAnd (yIff true (yNeq (nat_lit 0) (nat_lit 0))) (yAnd (yNot i) (yNeq nk nv)))))) = true → (rightC cs ct cf cl cp = true → (yAnd (yLe (0 : Int) v) (yLt v (18446744073709551616 : Int)) = true → (yNeq (rN (goalRemP_0 cs ct cf s k w at_ nv)) (rN (goalRemP_0 cs ct cf s k w at_ nv)) = true → (yGrow (yNadd (rN (goalRemP_0 cs ct cf s k w at_ nv)) (nat_lit 1)) (nat_lit 16) = true → rE L = yAnd (rE (goalRemP_0 cs ct cf s k w at_ nv)) (yNeq (nat_lit 1) (nat_lit 0)) ∧ nat_lit 0 = nat_lit 0 ∧ rN L = yNadd (rN (goalRemP_0 cs ct cf s k w at_ nv)) (nat_lit 1) ∧ rN L = yNadd (rN (goalRemP_0 cs ct cf s k w at_ nv)) (nat_lit 1) ∧ (∀ (i : Nat), Nat.succ i ≤ rN L → rA L i = ySel (yNlt i (rN (goalRemP_0 cs ct cf s k w at_ nv))) (rA (goalRemP_0 cs ct cf s k w at_ nv) i) (verC cs ct cf s) ∧ rB L i = ySel (yNlt i (rN (goalRemP_0 cs ct cf s k w at_ nv))) (rB (goalRemP_0 cs ct cf s k w at_ nv) i) (bumpC v) ∧ True) ∧ true = true) ∧ (yGrow (yNadd (rN (goalRemP_0 cs ct cf s k w at_ nv)) (nat_lit 1)) (nat_lit 16) = false → False)) ∧ (yNeq (rN (goalRemP_0 cs ct cf s k w at_ nv)) (rN (goalRemP_0 cs ct cf s k w at_ nv)) = false → False)) ∧ (yAnd (yLe (0 : Int) v) (yLt v (18446744073709551616 : Int)) = false → False)) ∧ (rightC cs ct cf cl cp = false → False)) ∧ (yAnd (rightC cs ct cf cl cp) (yAnd (yNle nv (nat_lit 80)) (yAnd (yNle (nat_lit 0) (nat_lit 1000)) (yAnd (yIn at_ nv) (yAnd (yIff true (yNeq (nat_lit 0) (nat_lit 0))) (yAnd (yNot i) (yNeq nk nv)))))) = false → False)) ∧ ((yCol (CK.int IntKind.u64) nv fun (i : Nat) => AV.y IntKind.u64 (w i)) = false → False)) ∧ (yNle (yNadd (nat_lit 0) nv) nv = false → False)) ∧ ((yCol (CK.int IntKind.u64) nk fun (i : Nat) => AV.y IntKind.u64 (k i)) = false → False)) ∧ (yNle (yNadd (nat_lit 0) nk) nk = false → False))) ∧ (yLe (0 : Int) at_ = false → rE L = true ∧ rN L = nat_lit 0 ∧ rN L = nat_lit 0 ∧ true = true ∧ true = true)) ∧ (yNot i = false → rE L = true ∧ rN L = nat_lit 0 ∧ rN L = nat_lit 0 ∧ true = true ∧ true = true))) ∧ (yAnd (yNle nk (nat_lit 80)) (yNle nv (nat_lit 80)) = false → False)) ∧ ((yCol (CK.int IntKind.u64) nv fun (i : Nat) => AV.y IntKind.u64 (w i)) = false → False)) ∧ (yNle (yNadd (nat_lit 0) nv) nv = false → False)) ∧ ((yCol (CK.int IntKind.u64) nk fun (i : Nat) => AV.y IntKind.u64 (k i)) = false → False)) ∧ (yNle (yNadd (nat_lit 0) nk) nk = false → False)))) ∧ (rightC cs ct cf cl cp = false → False))
set_option maxRecDepth 100000 in
theorem goalRemP_eq : goalRemP = goalRemPV := by kernel_rfl
set_option maxRecDepth 100000 in
set_option maxHeartbeats 4000000 in
theorem goalRemP_vc : goalRemPV := by
  unfold goalRemPV goalRemP_0
  intro cs ct cf cl cp s v i kn nk k vn nv w l at_ L hr hv h8 hL
  have hv1 := verC_or (a := s) hr
  have hc := rightC_iff.1 hr
  simp only [yAnd_t, yLe_t, yLt_t, yNle_t] at hv h8
  unfold remL at hL
  by_cases hk : setOk cs s i nk k nv cf at_ = true
  · rw [if_pos hk] at hL
    subst hL
    unfold setOk at hk
    rw [decide_eq_true_iff] at hk
    obtain ⟨k1, k2, rfl, k4, k5⟩ := hk
    have k6 := (fits_t.1 k2).1
    have k7 : nv = nk := by have := (fits_t.1 k2).2.1; simpa using this
    have hlen := cloL_len (cs := cs) (ct := ct) (cf := cf) (s := s) (k := k) (w := w) (n0 := 0) (a0 := fun _ => 0) (b0 := fun _ => 0) (j := yNat at_) (nv := nv) (by unfold yNat; omega) h8.2 (by omega)
    have hT : (true = yNeq 0 0) = True := eq_true rfl
    have hl2 : rN (cloL cs ct cf s (fun i => k i) (fun i => w i) 0 (fun _ => 0) (fun _ => 0) (yNat at_) nv) ≤ 2000 := hlen
    clear hlen
    simp only [yNot_t, yNot_f, yEq_t, yEq_f, yAnd_t, yAnd_f, yIff_t, yIff_f, yLt_t, yLt_f, yLe_t, yLe_f, yIn_t, yIn_f, yNle_t, yNle_f, yNeq_t, yNeq_f, yGrow_t, yGrow_f, yInt_e, yNadd_e, yCol_int, true_and, and_true, Nat.zero_add, Nat.le_refl, forall_const, Bool.true_eq_false, Bool.false_eq_true, false_implies, hr, k2, false_or, ne_eq, hT, not_true_eq_false]
    repeat' (first | apply And.intro | intro _)
    all_goals first
      | rfl
      | (exfalso; omega)
      | omega
      | exact rE_snoc' _ _
      | exact rN_snoc _ _
      | (rename_i hq; rw [rN_snoc] at hq; first | exact rA_snoc _ _ hq | exact rB_snoc _ _ hq)
  · rw [if_neg hk] at hL
    subst hL
    simp only [yNot_t, yNot_f, yEq_t, yEq_f, yAnd_t, yAnd_f, yIff_t, yIff_f, yLt_t, yLt_f, yLe_t, yLe_f, yIn_t, yIn_f, yNle_t, yNle_f, yNeq_t, yNeq_f, yGrow_t, yGrow_f, yInt_e, yNadd_e, yCol_int, true_and, and_true, Nat.zero_add, Nat.le_refl, forall_const, Bool.true_eq_false, false_implies, hr, false_or]
    repeat' (first | apply And.intro | intro _)
    all_goals first
      | rfl
      | (exfalso; omega)
      | omega
      | (exfalso
         apply hk
         unfold setOk
         rw [decide_eq_true_iff]
         exact ⟨by omega, by assumption, by assumption, by omega, by omega⟩)
set_option maxRecDepth 100000 in
theorem goalRemP_tt : (goalRemP) = True := goalRemP_eq.trans (eq_true goalRemP_vc)
theorem goalRemP_ok : goalRemP := @ft' goalRemP goalRemP_tt
def goalRemR_0 (cs : Int) (ct : Int) (cf : Int) (s : Int) (k : Nat → Int) (w : Nat → Int) (at_ : Int) (nv : Nat) := cloL cs ct cf s (fun (i : Nat) => k i) (fun (i : Nat) => w i) (nat_lit 0) (fun (_ : Nat) => (0 : Int)) (fun (_ : Nat) => (0 : Int)) (yNat at_) nv
def goalRemRV : Prop := (∀ (cs ct cf cl cp s v : Int) (i _kn : Bool) (nk : Nat) (k : Nat → Int) (_vn : Bool) (nv : Nat) (w : Nat → Int) (_l at_ : Int) (L : List (Int × Int)), rightC cs ct cf cl cp = true → yAnd (yLe (0 : Int) v) (yLt v (18446744073709551616 : Int)) = true → yAnd (yNle nk (nat_lit 80)) (yNle nv (nat_lit 80)) = true → L = remL cs ct cf s v i nk k nv w at_ → (yLt s (0 : Int) = true → rE L = true ∧ rN L = nat_lit 0 ∧ rN L = nat_lit 0 ∧ true = true ∧ true = true) ∧ (yLt s (0 : Int) = false → (yLt cs s = true → rE L = true ∧ rN L = nat_lit 0 ∧ rN L = nat_lit 0 ∧ true = true ∧ true = true) ∧ (yLt cs s = false → (yEq s (0 : Int) = true → rE L = true ∧ rN L = nat_lit 0 ∧ rN L = nat_lit 0 ∧ true = true ∧ true = true) ∧ (yEq s (0 : Int) = false → (yNle (yNadd (nat_lit 0) nk) nk = true → ((yCol (CK.int IntKind.u64) nk fun (i : Nat) => AV.y IntKind.u64 (k i)) = true → (yNle (yNadd (nat_lit 0) nv) nv = true → ((yCol (CK.int IntKind.u64) nv fun (i : Nat) => AV.y IntKind.u64 (w i)) = true → (yAnd (yNle nk (nat_lit 80)) (yNle nv (nat_lit 80)) = true → (yNot (fitsC i nk (fun (i : Nat) => k i) nv cf) = true → rE L = true ∧ rN L = nat_lit 0 ∧ rN L = nat_lit 0 ∧ true = true ∧ true = true) ∧ (yNot (fitsC i nk (fun (i : Nat) => k i) nv cf) = false → (i = true → rE L = true ∧ rN L = nat_lit 0 ∧ rN L = nat_lit 0 ∧ true = true ∧ true = true) ∧ (i = false → (yLt at_ (0 : Int) = true → rE L = true ∧ rN L = nat_lit 0 ∧ rN L = nat_lit 0 ∧ true = true ∧ true = true) ∧ (yLt at_ (0 : Int) = false → (yLe (yInt nv) at_ = true → rE L = true ∧ rN L = nat_lit 0 ∧ rN L = nat_lit 0 ∧ true = true ∧ true = true) ∧ (yLe (yInt nv) at_ = false → (yNle (yNadd (nat_lit 0) nk) nk = true → ((yCol (CK.int IntKind.u64) nk fun (i : Nat) => AV.y IntKind.u64 (k i)) = true → (yNle (yNadd (nat_lit 0) nv) nv = true → ((yCol (CK.int IntKind.u64) nv fun (i : Nat) => AV.y IntKind.u64 (w i)) = true → (yAnd (rightC cs ct cf cl cp) (yAnd (yNle nv (nat_lit 80)) (yAnd (yNle (nat_lit 0) (nat_lit 1000)) (yAnd (yIn at_ nv) (yAnd (yIff true (yNeq (nat_lit 0) (nat_lit 0))) (yAnd (yNot i) (yAnd (yNeq nk nv) (yAnd (yAnd (yLe (0 : Int) s) (yLe s cs)) (yLe (yInt nv) cf)))))))) = true → (yAnd (rightC cs ct cf cl cp) (yAnd (yLe (0 : Int) s) (yLe s cs)) = true → (yAnd (yLe (0 : Int) v) (yLt v (18446744073709551616 : Int)) = true → (yNeq (rN (goalRemR_0 cs ct cf s k w at_ nv)) (rN (goalRemR_0 cs ct cf s k w at_ nv)) = true → (yGrow (yNadd (rN (goalRemR_0 cs ct cf s k w at_ nv)) (nat_lit 1)) (nat_lit 16) = true → rE L = yAnd (rE (goalRemR_0 cs ct cf s k w at_ nv)) (yNeq (nat_lit 1) (nat_lit 0)) ∧ nat_lit 0 = nat_lit 0 ∧ rN L = yNadd (rN (goalRemR_0 cs ct cf s k w at_ nv)) (nat_lit 1) ∧ rN L = yNadd (rN (goalRemR_0 cs ct cf s k w at_ nv)) (nat_lit 1) ∧ (∀ (i : Nat), Nat.succ i ≤ rN L → rA L i = ySel (yNlt i (rN (goalRemR_0 cs ct cf s k w at_ nv))) (rA (goalRemR_0 cs ct cf s k w at_ nv) i) (verC cs ct cf s) ∧ rB L i = ySel (yNlt i (rN (goalRemR_0 cs ct cf s k w at_ nv))) (rB (goalRemR_0 cs ct cf s k w at_ nv) i) (bumpC v) ∧ True) ∧ true = true) ∧ (yGrow (yNadd (rN (goalRemR_0 cs ct cf s k w at_ nv)) (nat_lit 1)) (nat_lit 16) = false → False)) ∧ (yNeq (rN (goalRemR_0 cs ct cf s k w at_ nv)) (rN (goalRemR_0 cs ct cf s k w at_ nv)) = false → False)) ∧ (yAnd (yLe (0 : Int) v) (yLt v (18446744073709551616 : Int)) = false → False)) ∧ (yAnd (rightC cs ct cf cl cp) (yAnd (yLe (0 : Int) s) (yLe s cs)) = false → False)) ∧ (yAnd (rightC cs ct cf cl cp) (yAnd (yNle nv (nat_lit 80)) (yAnd (yNle (nat_lit 0) (nat_lit 1000)) (yAnd (yIn at_ nv) (yAnd (yIff true (yNeq (nat_lit 0) (nat_lit 0))) (yAnd (yNot i) (yAnd (yNeq nk nv) (yAnd (yAnd (yLe (0 : Int) s) (yLe s cs)) (yLe (yInt nv) cf)))))))) = false → False)) ∧ ((yCol (CK.int IntKind.u64) nv fun (i : Nat) => AV.y IntKind.u64 (w i)) = false → False)) ∧ (yNle (yNadd (nat_lit 0) nv) nv = false → False)) ∧ ((yCol (CK.int IntKind.u64) nk fun (i : Nat) => AV.y IntKind.u64 (k i)) = false → False)) ∧ (yNle (yNadd (nat_lit 0) nk) nk = false → False)))))) ∧ (yAnd (yNle nk (nat_lit 80)) (yNle nv (nat_lit 80)) = false → False)) ∧ ((yCol (CK.int IntKind.u64) nv fun (i : Nat) => AV.y IntKind.u64 (w i)) = false → False)) ∧ (yNle (yNadd (nat_lit 0) nv) nv = false → False)) ∧ ((yCol (CK.int IntKind.u64) nk fun (i : Nat) => AV.y IntKind.u64 (k i)) = false → False)) ∧ (yNle (yNadd (nat_lit 0) nk) nk = false → False)))))
set_option maxRecDepth 100000 in
theorem goalRemR_eq : goalRemR = goalRemRV := by kernel_rfl
set_option maxRecDepth 100000 in
set_option maxHeartbeats 4000000 in
theorem goalRemR_vc : goalRemRV := by
  unfold goalRemRV goalRemR_0
  intro cs ct cf cl cp s v i kn nk k vn nv w l at_ L hr hv h8 hL
  have hv1 := verC_or (a := s) hr
  have hc := rightC_iff.1 hr
  simp only [yAnd_t, yLe_t, yLt_t, yNle_t] at hv h8
  unfold remL at hL
  by_cases hk : setOk cs s i nk k nv cf at_ = true
  · rw [if_pos hk] at hL
    subst hL
    unfold setOk at hk
    rw [decide_eq_true_iff] at hk
    obtain ⟨k1, k2, rfl, k4, k5⟩ := hk
    have k6 := (fits_t.1 k2).1
    have k7 : nv = nk := by have := (fits_t.1 k2).2.1; simpa using this
    have hlen := cloL_len (cs := cs) (ct := ct) (cf := cf) (s := s) (k := k) (w := w) (n0 := 0) (a0 := fun _ => 0) (b0 := fun _ => 0) (j := yNat at_) (nv := nv) (by unfold yNat; omega) h8.2 (by omega)
    have hT : (true = yNeq 0 0) = True := eq_true rfl
    have hl2 : rN (cloL cs ct cf s (fun i => k i) (fun i => w i) 0 (fun _ => 0) (fun _ => 0) (yNat at_) nv) ≤ 2000 := hlen
    clear hlen
    simp only [yNot_t, yNot_f, yEq_t, yEq_f, yAnd_t, yAnd_f, yIff_t, yIff_f, yLt_t, yLt_f, yLe_t, yLe_f, yIn_t, yIn_f, yNle_t, yNle_f, yNeq_t, yNeq_f, yGrow_t, yGrow_f, yInt_e, yNadd_e, yCol_int, true_and, and_true, Nat.zero_add, Nat.le_refl, forall_const, Bool.true_eq_false, Bool.false_eq_true, false_implies, hr, k2, false_or, ne_eq, hT, not_true_eq_false]
    repeat' (first | apply And.intro | intro _)
    all_goals first
      | rfl
      | (exfalso; omega)
      | omega
      | exact rE_snoc' _ _
      | exact rN_snoc _ _
      | (rename_i hq; rw [rN_snoc] at hq; first | exact rA_snoc _ _ hq | exact rB_snoc _ _ hq)
  · rw [if_neg hk] at hL
    subst hL
    simp only [yNot_t, yNot_f, yEq_t, yEq_f, yAnd_t, yAnd_f, yIff_t, yIff_f, yLt_t, yLt_f, yLe_t, yLe_f, yIn_t, yIn_f, yNle_t, yNle_f, yNeq_t, yNeq_f, yGrow_t, yGrow_f, yInt_e, yNadd_e, yCol_int, true_and, and_true, Nat.zero_add, Nat.le_refl, forall_const, Bool.true_eq_false, false_implies, hr, false_or]
    repeat' (first | apply And.intro | intro _)
    all_goals first
      | rfl
      | (exfalso; omega)
      | omega
      | (exfalso
         apply hk
         unfold setOk
         rw [decide_eq_true_iff]
         exact ⟨by omega, by assumption, by assumption, by omega, by omega⟩)
set_option maxRecDepth 100000 in
theorem goalRemR_tt : (goalRemR) = True := goalRemR_eq.trans (eq_true goalRemR_vc)
theorem goalRemR_ok : goalRemR := @ft' goalRemR goalRemR_tt
end Go.Proofs.YtlfehgagnelbhaaGreatDoor.Ex
namespace Go.Proofs.YtlfehgagnelbhaaGreatDoor.Ex
open Go

-- OPEN dnL opO opR opL prOp
/-- The entries that go up by one, from the last on, so many. -/
def dnL (cs ct cf s : Int) (k w : Nat → Int) (n : Nat) (d : Nat) : List (Int × Int) := (List.range d).flatMap fun e => layL cs ct cf s ((n - 1 - e : Nat) : Int) (k (n - 2 - e)) (w (n - 2 - e))
def opO (cs ct cf s : Int) (k w : Nat → Int) (n0 : Nat) (a0 b0 : Nat → Int) (n d : Nat) : List (Int × Int) :=
  prw n0 a0 b0 ++ (layL cs ct cf s (n : Int) (k (n - 1)) (w (n - 1)) ++ [(shapeC cs ct cf s, packC false ((n : Int) + 1))]) ++ dnL cs ct cf s k w n d
def opR (cs ct cf s : Int) (k w : Nat → Int) (n0 : Nat) (a0 b0 : Nat → Int) (n d : Nat) : List (Int × Int) :=
  match d with | 0 => prw n0 a0 b0 | d + 1 => opO cs ct cf s k w n0 a0 b0 n d
def opL (cs ct cf s : Int) (k w : Nat → Int) (n0 : Nat) (a0 b0 : Nat → Int) (n j : Nat) (key val : Int) : List (Int × Int) :=
  if j = n then prw n0 a0 b0 ++ layL cs ct cf s (n : Int) key val ++ [(shapeC cs ct cf s, packC false ((n : Int) + 1))]
  else opO cs ct cf s k w n0 a0 b0 n (n - 1 - j) ++ layL cs ct cf s (j : Int) key val
def prOp (j n d : Nat) : Prop := j + d ≤ n
def penId (h : AH) : List Nat := match h.get 1 with | some (.cells c _ _) => (match nthA c 5 with | some (.ysl _ _ id _ _ _) => [id] | some (.sl id _ _ _ _) => [id] | _ => []) | _ => []
def tmpId (tm : Tr AV) (t : Nat) : List Nat := match evT tm (.tmp t) with | .ysl _ _ id _ _ _ => [id] | .sl id _ _ _ _ => [id] | _ => []
def annOpn (cs ct cf cl cp : Int) (O : Nat → List (Int × Int)) (j nv : Nat) (b : Nat) : Option (St → LoopA) :=
  match b with
  | 0 => some fun z => { ι := Nat, tms := [12], tmU := fun d => [.y .i64 (yInt (yNsub nv (Nat.succ d)))], ids := [1, z.h.nx], hpU := fun d => [.cells [.y .i64 cs, .y .i64 ct, .y .i64 cf, .y .i64 cl, .y .i64 cp, slW z.h.nx (O d)] 147 none, arW (O d)], del := penId z.h, ex := 1, pre := fun d => prOp j nv (Nat.succ d), ms := msFit nv }
  | _ => none
def goalOpn : Prop := ∀ (cs ct cf cl cp s v : Int) (kn : Bool) (k : Nat → Int) (vn : Bool) (nv : Nat) (w : Nat → Int) (l : Int) (nil0 : Bool) (n0 : Nat) (a0 b0 : Nat → Int) (j : Nat) (key val : Int) (L : List (Int × Int)) (O : Nat → List (Int × Int)),
  rightC cs ct cf cl cp = true → yNle nv 80 = true → yNle n0 1000 = true → yNle j nv = true → yIff nil0 (yNeq n0 0) = true → L = opL cs ct cf s k w n0 a0 b0 nv j key val → O = opO cs ct cf s k w n0 a0 b0 nv →
  wxP Tryz.prog (smL lLay) (annOpn cs ct cf cl cp O j nv) 99 [sPen, sPart, .sc, .sc, .sc] [dPen cs ct cf cl cp (.rows nil0 n0 [.int .i64 a0, .int .u64 b0]), dPt s v false kn nv k vn nv w l, .v (.y .i64 (yInt j)), .v (.y .u64 key), .v (.y .u64 val)] (.tup []) (.l []) [[.v (.y .i64 cs), .v (.y .i64 ct), .v (.y .i64 cf), .v (.y .i64 cl), .v (.y .i64 cp), rowsW L]]
def annOpR (cs ct cf s : Int) (k w : Nat → Int) (n0 : Nat) (a0 b0 : Nat → Int) (j nv : Nat) (b : Nat) : Option (St → LoopA) :=
  match b with
  | 0 => some fun z => { ι := Nat, tms := [1, 14], tmU := fun d => [slW z.h.nx (opR cs ct cf s k w n0 a0 b0 nv d), .y .i64 (yInt (yNsub nv d))], ids := [z.h.nx], hpU := fun d => [arW (opR cs ct cf s k w n0 a0 b0 nv d)], del := tmpId z.tm 1, ex := 1, pre := prOp j nv, ms := msFit (Nat.succ nv) }
  | _ => none
def goalOpR : Prop := ∀ (cs ct cf cl cp s v : Int) (kn : Bool) (k : Nat → Int) (vn : Bool) (nv : Nat) (w : Nat → Int) (l : Int) (nil0 : Bool) (n0 : Nat) (a0 b0 : Nat → Int) (j : Nat) (key val : Int) (L : List (Int × Int)),
  rightC cs ct cf cl cp = true → yNle nv 80 = true → yNle n0 1000 = true → yNle j nv = true → yIff nil0 (yNeq n0 0) = true → yAnd (yLe 0 s) (yLe s cs) = true → yLt (yInt nv) cf = true → L = opL cs ct cf s k w n0 a0 b0 nv j key val →
  wxP Tryz.prog (smL lLay) (annOpR cs ct cf s k w n0 a0 b0 j nv) 106 [sConf, ownW, sPart, .sc, .sc, .sc] [dCf cs ct cf cl cp, .rows nil0 n0 [.int .i64 a0, .int .u64 b0], dPt s v false kn nv k vn nv w l, .v (.y .i64 (yInt j)), .v (.y .u64 key), .v (.y .u64 val)] ownW (rowsW L) []
theorem rA_snoc3 (l : List (Int × Int)) (x y z : Int × Int) {j : Nat} (h : j < rN l + 1 + 1 + 1) : rA (l ++ [x] ++ [y] ++ [z]) j = ySel (yNlt j (rN l + 1 + 1)) (ySel (yNlt j (rN l + 1)) (ySel (yNlt j (rN l)) (rA l j) x.1) y.1) z.1 := by
  rw [rA_snoc _ z (by rw [rN_snoc, rN_snoc]; exact h), rN_snoc, rN_snoc]
  by_cases hj : j < rN l + 1 + 1
  · rw [rA_snoc2 _ x y hj]
  · simp [ySel, yNlt, hj]
theorem rB_snoc3 (l : List (Int × Int)) (x y z : Int × Int) {j : Nat} (h : j < rN l + 1 + 1 + 1) : rB (l ++ [x] ++ [y] ++ [z]) j = ySel (yNlt j (rN l + 1 + 1)) (ySel (yNlt j (rN l + 1)) (ySel (yNlt j (rN l)) (rB l j) x.2) y.2) z.2 := by
  rw [rB_snoc _ z (by rw [rN_snoc, rN_snoc]; exact h), rN_snoc, rN_snoc]
  by_cases hj : j < rN l + 1 + 1
  · rw [rB_snoc2 _ x y hj]
  · simp [ySel, yNlt, hj]
theorem sel_old {q n : Nat} {a b c : Int} (h : q < n → a = b) : ySel (yNlt q n) b c = ySel (yNlt q n) a c := by
  by_cases hq : q < n
  · rw [h hq]
  · simp [ySel, yNlt, hq]
theorem opR_zero {cs ct cf s : Int} {k w : Nat → Int} {nil0 : Bool} {n0 : Nat} {a0 b0 : Nat → Int} {n : Nat} (h : nil0 = yNeq n0 0) : rE (opR cs ct cf s k w n0 a0 b0 n 0) = nil0 ∧ rN (opR cs ct cf s k w n0 a0 b0 n 0) = n0 ∧
    ∀ i, i + 1 ≤ rN (opR cs ct cf s k w n0 a0 b0 n 0) → rA (opR cs ct cf s k w n0 a0 b0 n 0) i = a0 i ∧ rB (opR cs ct cf s k w n0 a0 b0 n 0) i = b0 i := by
  have := cloO_zero (cs := cs) (ct := ct) (cf := cf) (s := s) (k := k) (w := w) (a0 := a0) (b0 := b0) (j := 0) h
  have e : cloO cs ct cf s k w n0 a0 b0 0 0 = prw n0 a0 b0 := by simp [cloO, shO_self]
  rw [e] at this
  exact this
theorem opR_one {cs ct cf s : Int} {k w : Nat → Int} {n0 : Nat} {a0 b0 : Nat → Int} {n : Nat} : opR cs ct cf s k w n0 a0 b0 n 1 = opR cs ct cf s k w n0 a0 b0 n 0 ++ [(keyC cs ct cf s n, k (n - 1))] ++ [(valC cs ct cf s n, w (n - 1))] ++ [(shapeC cs ct cf s, packC false ((n : Int) + 1))] := by
  simp [opR, opO, dnL, layL]
theorem opR_step {cs ct cf s : Int} {k w : Nat → Int} {n0 : Nat} {a0 b0 : Nat → Int} {n d : Nat} (h : 1 ≤ d) : opR cs ct cf s k w n0 a0 b0 n (d + 1) = opR cs ct cf s k w n0 a0 b0 n d ++ [(keyC cs ct cf s ((n - d : Nat) : Int), k (n - d - 1))] ++ [(valC cs ct cf s ((n - d : Nat) : Int), w (n - d - 1))] := by
  obtain ⟨e, rfl⟩ : ∃ e, d = e + 1 := ⟨d - 1, by omega⟩
  simp only [opR, opO, dnL, List.range_succ, List.flatMap_append, List.flatMap_cons, List.flatMap_nil, List.append_nil, layL]
  rw [show n - 1 - e = n - (e + 1) by omega, show n - 2 - e = n - (e + 1) - 1 by omega]
  simp
theorem opR_len {cs ct cf s : Int} {k w : Nat → Int} {n0 : Nat} {a0 b0 : Nat → Int} {n : Nat} : ∀ d, rN (opR cs ct cf s k w n0 a0 b0 n d) ≤ n0 + 2 * d + 1
  | 0 => by simp [opR, rN, prw_len]
  | 1 => by rw [opR_one, rN_snoc, rN_snoc, rN_snoc]; simp [opR, rN, prw_len]
  | d + 2 => by
    have := opR_len (cs := cs) (ct := ct) (cf := cf) (s := s) (k := k) (w := w) (n0 := n0) (a0 := a0) (b0 := b0) (n := n) (d + 1)
    rw [opR_step (by omega), rN_snoc, rN_snoc]; omega
def goalOpR_1 (cs : Int) (ct : Int) (cf : Int) (s : Int) (k : Nat → Int) (w : Nat → Int) (n0 : Nat) (a0 : Nat → Int) (b0 : Nat → Int) (nv : Nat) (i : Nat) := yNadd (yNadd (rN (opR cs ct cf s k w n0 a0 b0 nv i)) (nat_lit 1)) (nat_lit 1)
def goalOpR_10 (cs : Int) (ct : Int) (cf : Int) (cl : Int) (cp : Int) (s : Int) := yAnd (rightC cs ct cf cl cp) (yAnd (yLe (0 : Int) s) (yLe s cs)) = false → False
def goalOpR_11 (nv : Nat) := packC false (yWrap IntKind.i64 (yAdd (yInt nv) (1 : Int)))
def goalOpR_12 (cs : Int) (ct : Int) (cf : Int) (s : Int) (k : Nat → Int) (w : Nat → Int) (n0 : Nat) (a0 : Nat → Int) (b0 : Nat → Int) (nv : Nat) (i : Nat) := yNeq (rN (opR cs ct cf s k w n0 a0 b0 nv i)) (rN (opR cs ct cf s k w n0 a0 b0 nv i)) = false → False
def goalOpR_13 (cs : Int) (ct : Int) (cf : Int) (s : Int) (k : Nat → Int) (w : Nat → Int) (n0 : Nat) (a0 : Nat → Int) (b0 : Nat → Int) (nv : Nat) (i : Nat) := yAnd (rE (opR cs ct cf s k w n0 a0 b0 nv i)) (yNeq (nat_lit 1) (nat_lit 0))
def goalOpR_14 (cs : Int) (ct : Int) (cf : Int) (s : Int) (k : Nat → Int) (w : Nat → Int) (n0 : Nat) (a0 : Nat → Int) (b0 : Nat → Int) (nv : Nat) (i : Nat) := yGrow (yNadd (rN (opR cs ct cf s k w n0 a0 b0 nv i)) (nat_lit 1)) (nat_lit 16) = false → False
def goalOpR_2 (cs : Int) (ct : Int) (cf : Int) (cl : Int) (cp : Int) (s : Int) := yAnd (rightC cs ct cf cl cp) (yAnd (yLe (0 : Int) s) (yLe s cs))
def goalOpR_4 (nv : Nat) (i : Nat) (cf : Int) := yAnd (yLe (0 : Int) (yInt (yNsub nv i))) (yLt (yInt (yNsub nv i)) cf)
def goalOpR_16 (cs : Int) (ct : Int) (cf : Int) (cl : Int) (cp : Int) (s : Int) (nv : Nat) (i : Nat) := yAnd (goalOpR_2 cs ct cf cl cp s) (goalOpR_4 nv i cf) = false → False
def goalOpR_3 (nv : Nat) (i : Nat) := yNadd (nat_lit 0) (yNat (yWrap IntKind.i64 (ySub (yInt (yNsub nv i)) (1 : Int))))
def goalOpR_5 (i_1 : Nat) (cs : Int) (ct : Int) (cf : Int) (s : Int) (k : Nat → Int) (w : Nat → Int) (n0 : Nat) (a0 : Nat → Int) (b0 : Nat → Int) (nv : Nat) (i : Nat) := yNlt i_1 (yNadd (rN (opR cs ct cf s k w n0 a0 b0 nv i)) (nat_lit 1))
def goalOpR_6 (cs : Int) (ct : Int) (cf : Int) (s : Int) (k : Nat → Int) (w : Nat → Int) (n0 : Nat) (a0 : Nat → Int) (b0 : Nat → Int) (nv : Nat) (i : Nat) := yNeq (yNadd (rN (opR cs ct cf s k w n0 a0 b0 nv i)) (nat_lit 1)) (yNadd (rN (opR cs ct cf s k w n0 a0 b0 nv i)) (nat_lit 1)) = false → False
def goalOpR_0 (nv : Nat) (i : Nat) (cs : Int) (ct : Int) (cf : Int) (cl : Int) (cp : Int) (s : Int) (k : Nat → Int) (w : Nat → Int) (n0 : Nat) (a0 : Nat → Int) (b0 : Nat → Int) (j : Nat) := yLt (0 : Int) (yInt (yNsub nv i)) = false → (yAnd (goalOpR_2 cs ct cf cl cp s) (goalOpR_4 nv i cf) = true → (yNeq (rN (opR cs ct cf s k w n0 a0 b0 nv i)) (rN (opR cs ct cf s k w n0 a0 b0 nv i)) = true → (yGrow (yNadd (rN (opR cs ct cf s k w n0 a0 b0 nv i)) (nat_lit 1)) (nat_lit 16) = true → (yEq (yInt (yNsub nv i)) (yInt nv) = true → (yAnd (rightC cs ct cf cl cp) (yAnd (yLe (0 : Int) s) (yLe s cs)) = true → (true = true → (yNeq (yNadd (rN (opR cs ct cf s k w n0 a0 b0 nv i)) (nat_lit 1)) (yNadd (rN (opR cs ct cf s k w n0 a0 b0 nv i)) (nat_lit 1)) = true → (yGrow (goalOpR_1 cs ct cf s k w n0 a0 b0 nv i) (nat_lit 16) = true → true = true ∧ ∃ (i' : Nat), prOp j nv i' ∧ Nat.succ (msFit (Nat.succ nv) i') ≤ msFit (Nat.succ nv) i ∧ true = true ∧ rE (opR cs ct cf s k w n0 a0 b0 nv i') = yAnd (goalOpR_13 cs ct cf s k w n0 a0 b0 nv i) (yNeq (nat_lit 1) (nat_lit 0)) ∧ nat_lit 0 = nat_lit 0 ∧ rN (opR cs ct cf s k w n0 a0 b0 nv i') = yNadd (yNadd (rN (opR cs ct cf s k w n0 a0 b0 nv i)) (nat_lit 1)) (nat_lit 1) ∧ yInt (yNsub nv i') = yWrap IntKind.i64 (ySub (yInt (yNsub nv i)) (1 : Int)) ∧ rN (opR cs ct cf s k w n0 a0 b0 nv i') = yNadd (yNadd (rN (opR cs ct cf s k w n0 a0 b0 nv i)) (nat_lit 1)) (nat_lit 1) ∧ (∀ (i_1 : Nat), Nat.succ i_1 ≤ rN (opR cs ct cf s k w n0 a0 b0 nv i') → rA (opR cs ct cf s k w n0 a0 b0 nv i') i_1 = ySel (goalOpR_5 i_1 cs ct cf s k w n0 a0 b0 nv i) (ySel (yNlt i_1 (rN (opR cs ct cf s k w n0 a0 b0 nv i))) (rA (opR cs ct cf s k w n0 a0 b0 nv i) i_1) (valC cs ct cf s (yInt (yNsub nv i)))) (shapeC cs ct cf s) ∧ rB (opR cs ct cf s k w n0 a0 b0 nv i') i_1 = ySel (goalOpR_5 i_1 cs ct cf s k w n0 a0 b0 nv i) (ySel (yNlt i_1 (rN (opR cs ct cf s k w n0 a0 b0 nv i))) (rB (opR cs ct cf s k w n0 a0 b0 nv i) i_1) (w (goalOpR_3 nv i))) (goalOpR_11 nv) ∧ True) ∧ true = true) ∧ (yGrow (goalOpR_1 cs ct cf s k w n0 a0 b0 nv i) (nat_lit 16) = false → False)) ∧ (goalOpR_6 cs ct cf s k w n0 a0 b0 nv i)) ∧ (true = false → False)) ∧ (goalOpR_10 cs ct cf cl cp s)) ∧ (yEq (yInt (yNsub nv i)) (yInt nv) = false → true = true ∧ ∃ (i' : Nat), prOp j nv i' ∧ Nat.succ (msFit (Nat.succ nv) i') ≤ msFit (Nat.succ nv) i ∧ true = true ∧ rE (opR cs ct cf s k w n0 a0 b0 nv i') = yAnd (rE (opR cs ct cf s k w n0 a0 b0 nv i)) (yNeq (nat_lit 1) (nat_lit 0)) ∧ nat_lit 0 = nat_lit 0 ∧ rN (opR cs ct cf s k w n0 a0 b0 nv i') = yNadd (rN (opR cs ct cf s k w n0 a0 b0 nv i)) (nat_lit 1) ∧ yInt (yNsub nv i') = yWrap IntKind.i64 (ySub (yInt (yNsub nv i)) (1 : Int)) ∧ rN (opR cs ct cf s k w n0 a0 b0 nv i') = yNadd (rN (opR cs ct cf s k w n0 a0 b0 nv i)) (nat_lit 1) ∧ (∀ (i_1 : Nat), Nat.succ i_1 ≤ rN (opR cs ct cf s k w n0 a0 b0 nv i') → rA (opR cs ct cf s k w n0 a0 b0 nv i') i_1 = ySel (yNlt i_1 (rN (opR cs ct cf s k w n0 a0 b0 nv i))) (rA (opR cs ct cf s k w n0 a0 b0 nv i) i_1) (valC cs ct cf s (yInt (yNsub nv i))) ∧ rB (opR cs ct cf s k w n0 a0 b0 nv i') i_1 = ySel (yNlt i_1 (rN (opR cs ct cf s k w n0 a0 b0 nv i))) (rB (opR cs ct cf s k w n0 a0 b0 nv i) i_1) (w (goalOpR_3 nv i)) ∧ True) ∧ true = true)) ∧ (goalOpR_14 cs ct cf s k w n0 a0 b0 nv i)) ∧ (goalOpR_12 cs ct cf s k w n0 a0 b0 nv i)) ∧ (goalOpR_16 cs ct cf cl cp s nv i)
def goalOpR_7 (nv : Nat) (i : Nat) (cf : Int) := yAnd (yLe (0 : Int) (yWrap IntKind.i64 (ySub (yInt (yNsub nv i)) (1 : Int)))) (yLt (yWrap IntKind.i64 (ySub (yInt (yNsub nv i)) (1 : Int))) cf)
def goalOpR_8 (nv : Nat) (i : Nat) := yWrap IntKind.i64 (ySub (yWrap IntKind.i64 (ySub (yInt (yNsub nv i)) (1 : Int))) (1 : Int))
def goalOpR_9 (i_1 : Nat) (cs : Int) (ct : Int) (cf : Int) (s : Int) (k : Nat → Int) (w : Nat → Int) (n0 : Nat) (a0 : Nat → Int) (b0 : Nat → Int) (nv : Nat) (i : Nat) := ySel (yNlt i_1 (rN (opR cs ct cf s k w n0 a0 b0 nv i))) (rA (opR cs ct cf s k w n0 a0 b0 nv i) i_1) (keyC cs ct cf s (yWrap IntKind.i64 (ySub (yInt (yNsub nv i)) (1 : Int))))
def goalOpR_15 (i_1 : Nat) (cs : Int) (ct : Int) (cf : Int) (s : Int) (k : Nat → Int) (w : Nat → Int) (n0 : Nat) (a0 : Nat → Int) (b0 : Nat → Int) (nv : Nat) (i : Nat) := ySel (yNlt i_1 (rN (opR cs ct cf s k w n0 a0 b0 nv i))) (rA (opR cs ct cf s k w n0 a0 b0 nv i) i_1) (keyC cs ct cf s (yInt (yNsub nv i)))
def goalOpR_17 (nv : Nat) (i : Nat) := yIn (yWrap IntKind.i64 (ySub (yInt (yNsub nv i)) (1 : Int))) nv = false → False
def goalOpRV : Prop := (∀ (cs ct cf cl cp s v : Int) (kn : Bool) (k : Nat → Int) (vn : Bool) (nv : Nat) (w : Nat → Int) (l : Int) (nil0 : Bool) (n0 : Nat) (a0 b0 : Nat → Int) (j : Nat) (key val : Int) (L : List (Int × Int)), rightC cs ct cf cl cp = true → yNle nv (nat_lit 80) = true → yNle n0 (nat_lit 1000) = true → yNle j nv = true → yIff nil0 (yNeq n0 (nat_lit 0)) = true → yAnd (yLe (0 : Int) s) (yLe s cs) = true → yLt (yInt nv) cf = true → L = opL cs ct cf s k w n0 a0 b0 nv j key val → (yEq (yInt j) (yInt nv) = true → (yNot false = true → (yAnd (goalOpR_2 cs ct cf cl cp s) (yAnd (yLe (0 : Int) (yInt nv)) (yLt (yInt nv) cf)) = true → (yNeq n0 n0 = true → (yGrow (yNadd n0 (nat_lit 1)) (nat_lit 16) = true → (yAnd (goalOpR_2 cs ct cf cl cp s) (yAnd (yLe (0 : Int) (yInt nv)) (yLt (yInt nv) cf)) = true → (yNeq (yNadd n0 (nat_lit 1)) (yNadd n0 (nat_lit 1)) = true → (yGrow (yNadd (yNadd n0 (nat_lit 1)) (nat_lit 1)) (nat_lit 16) = true → (yAnd (rightC cs ct cf cl cp) (yAnd (yLe (0 : Int) s) (yLe s cs)) = true → (true = true → (yNeq (yNadd (yNadd n0 (nat_lit 1)) (nat_lit 1)) (yNadd (yNadd n0 (nat_lit 1)) (nat_lit 1)) = true → (yGrow (yNadd (yNadd (yNadd n0 (nat_lit 1)) (nat_lit 1)) (nat_lit 1)) (nat_lit 16) = true → rE L = yAnd (yAnd (yAnd nil0 (yNeq (nat_lit 1) (nat_lit 0))) (yNeq (nat_lit 1) (nat_lit 0))) (yNeq (nat_lit 1) (nat_lit 0)) ∧ nat_lit 0 = nat_lit 0 ∧ rN L = yNadd (yNadd (yNadd n0 (nat_lit 1)) (nat_lit 1)) (nat_lit 1) ∧ rN L = yNadd (yNadd (yNadd n0 (nat_lit 1)) (nat_lit 1)) (nat_lit 1) ∧ (∀ (i : Nat), Nat.succ i ≤ rN L → rA L i = ySel (yNlt i (yNadd (yNadd n0 (nat_lit 1)) (nat_lit 1))) (ySel (yNlt i (yNadd n0 (nat_lit 1))) (ySel (yNlt i n0) (a0 i) (keyC cs ct cf s (yInt nv))) (valC cs ct cf s (yInt nv))) (shapeC cs ct cf s) ∧ rB L i = ySel (yNlt i (yNadd (yNadd n0 (nat_lit 1)) (nat_lit 1))) (ySel (yNlt i (yNadd n0 (nat_lit 1))) (ySel (yNlt i n0) (b0 i) key) val) (goalOpR_11 nv) ∧ True) ∧ true = true) ∧ (yGrow (yNadd (yNadd (yNadd n0 (nat_lit 1)) (nat_lit 1)) (nat_lit 1)) (nat_lit 16) = false → False)) ∧ (yNeq (yNadd (yNadd n0 (nat_lit 1)) (nat_lit 1)) (yNadd (yNadd n0 (nat_lit 1)) (nat_lit 1)) = false → False)) ∧ (true = false → False)) ∧ (goalOpR_10 cs ct cf cl cp s)) ∧ (yGrow (yNadd (yNadd n0 (nat_lit 1)) (nat_lit 1)) (nat_lit 16) = false → False)) ∧ (yNeq (yNadd n0 (nat_lit 1)) (yNadd n0 (nat_lit 1)) = false → False)) ∧ (yAnd (goalOpR_2 cs ct cf cl cp s) (yAnd (yLe (0 : Int) (yInt nv)) (yLt (yInt nv) cf)) = false → False)) ∧ (yGrow (yNadd n0 (nat_lit 1)) (nat_lit 16) = false → False)) ∧ (yNeq n0 n0 = false → False)) ∧ (yAnd (goalOpR_2 cs ct cf cl cp s) (yAnd (yLe (0 : Int) (yInt nv)) (yLt (yInt nv) cf)) = false → False)) ∧ (yNot false = false → (yLt (0 : Int) (yInt nv) = true → (yAnd (goalOpR_2 cs ct cf cl cp s) (yAnd (yLe (0 : Int) (yWrap IntKind.i64 (ySub (yInt nv) (1 : Int)))) (yLt (yWrap IntKind.i64 (ySub (yInt nv) (1 : Int))) cf)) = true → (yNeq n0 n0 = true → (yGrow (yNadd n0 (nat_lit 1)) (nat_lit 16) = true → (yAnd (goalOpR_2 cs ct cf cl cp s) (yAnd (yLe (0 : Int) (yInt nv)) (yLt (yInt nv) cf)) = true → (yNeq (yNadd n0 (nat_lit 1)) (yNadd n0 (nat_lit 1)) = true → (yGrow (yNadd (yNadd n0 (nat_lit 1)) (nat_lit 1)) (nat_lit 16) = true → (yAnd (rightC cs ct cf cl cp) (yAnd (yLe (0 : Int) s) (yLe s cs)) = true → (true = true → (yNeq (yNadd (yNadd n0 (nat_lit 1)) (nat_lit 1)) (yNadd (yNadd n0 (nat_lit 1)) (nat_lit 1)) = true → (yGrow (yNadd (yNadd (yNadd n0 (nat_lit 1)) (nat_lit 1)) (nat_lit 1)) (nat_lit 16) = true → rE L = yAnd (yAnd (yAnd nil0 (yNeq (nat_lit 1) (nat_lit 0))) (yNeq (nat_lit 1) (nat_lit 0))) (yNeq (nat_lit 1) (nat_lit 0)) ∧ nat_lit 0 = nat_lit 0 ∧ rN L = yNadd (yNadd (yNadd n0 (nat_lit 1)) (nat_lit 1)) (nat_lit 1) ∧ rN L = yNadd (yNadd (yNadd n0 (nat_lit 1)) (nat_lit 1)) (nat_lit 1) ∧ (∀ (i : Nat), Nat.succ i ≤ rN L → rA L i = ySel (yNlt i (yNadd (yNadd n0 (nat_lit 1)) (nat_lit 1))) (ySel (yNlt i (yNadd n0 (nat_lit 1))) (ySel (yNlt i n0) (a0 i) (keyC cs ct cf s (yWrap IntKind.i64 (ySub (yInt nv) (1 : Int))))) (valC cs ct cf s (yInt nv))) (shapeC cs ct cf s) ∧ rB L i = ySel (yNlt i (yNadd (yNadd n0 (nat_lit 1)) (nat_lit 1))) (ySel (yNlt i (yNadd n0 (nat_lit 1))) (ySel (yNlt i n0) (b0 i) key) val) (goalOpR_11 nv) ∧ True) ∧ true = true) ∧ (yGrow (yNadd (yNadd (yNadd n0 (nat_lit 1)) (nat_lit 1)) (nat_lit 1)) (nat_lit 16) = false → False)) ∧ (yNeq (yNadd (yNadd n0 (nat_lit 1)) (nat_lit 1)) (yNadd (yNadd n0 (nat_lit 1)) (nat_lit 1)) = false → False)) ∧ (true = false → False)) ∧ (goalOpR_10 cs ct cf cl cp s)) ∧ (yGrow (yNadd (yNadd n0 (nat_lit 1)) (nat_lit 1)) (nat_lit 16) = false → False)) ∧ (yNeq (yNadd n0 (nat_lit 1)) (yNadd n0 (nat_lit 1)) = false → False)) ∧ (yAnd (goalOpR_2 cs ct cf cl cp s) (yAnd (yLe (0 : Int) (yInt nv)) (yLt (yInt nv) cf)) = false → False)) ∧ (yGrow (yNadd n0 (nat_lit 1)) (nat_lit 16) = false → False)) ∧ (yNeq n0 n0 = false → False)) ∧ (yAnd (goalOpR_2 cs ct cf cl cp s) (yAnd (yLe (0 : Int) (yWrap IntKind.i64 (ySub (yInt nv) (1 : Int)))) (yLt (yWrap IntKind.i64 (ySub (yInt nv) (1 : Int))) cf)) = false → False)) ∧ (yLt (0 : Int) (yInt nv) = false → (yAnd (goalOpR_2 cs ct cf cl cp s) (yAnd (yLe (0 : Int) (yInt nv)) (yLt (yInt nv) cf)) = true → (yNeq n0 n0 = true → (yGrow (yNadd n0 (nat_lit 1)) (nat_lit 16) = true → (yAnd (rightC cs ct cf cl cp) (yAnd (yLe (0 : Int) s) (yLe s cs)) = true → (true = true → (yNeq (yNadd n0 (nat_lit 1)) (yNadd n0 (nat_lit 1)) = true → (yGrow (yNadd (yNadd n0 (nat_lit 1)) (nat_lit 1)) (nat_lit 16) = true → rE L = yAnd (yAnd nil0 (yNeq (nat_lit 1) (nat_lit 0))) (yNeq (nat_lit 1) (nat_lit 0)) ∧ nat_lit 0 = nat_lit 0 ∧ rN L = yNadd (yNadd n0 (nat_lit 1)) (nat_lit 1) ∧ rN L = yNadd (yNadd n0 (nat_lit 1)) (nat_lit 1) ∧ (∀ (i : Nat), Nat.succ i ≤ rN L → rA L i = ySel (yNlt i (yNadd n0 (nat_lit 1))) (ySel (yNlt i n0) (a0 i) (valC cs ct cf s (yInt nv))) (shapeC cs ct cf s) ∧ rB L i = ySel (yNlt i (yNadd n0 (nat_lit 1))) (ySel (yNlt i n0) (b0 i) val) (goalOpR_11 nv) ∧ True) ∧ true = true) ∧ (yGrow (yNadd (yNadd n0 (nat_lit 1)) (nat_lit 1)) (nat_lit 16) = false → False)) ∧ (yNeq (yNadd n0 (nat_lit 1)) (yNadd n0 (nat_lit 1)) = false → False)) ∧ (true = false → False)) ∧ (goalOpR_10 cs ct cf cl cp s)) ∧ (yGrow (yNadd n0 (nat_lit 1)) (nat_lit 16) = false → False)) ∧ (yNeq n0 n0 = false → False)) ∧ (yAnd (goalOpR_2 cs ct cf cl cp s) (yAnd (yLe (0 : Int) (yInt nv)) (yLt (yInt nv) cf)) = false → False)))) ∧ (yEq (yInt j) (yInt nv) = false → true = true ∧ (∃ (i0 : Nat), prOp j nv i0 ∧ true = true ∧ rE (opR cs ct cf s k w n0 a0 b0 nv i0) = nil0 ∧ nat_lit 0 = nat_lit 0 ∧ rN (opR cs ct cf s k w n0 a0 b0 nv i0) = n0 ∧ yInt (yNsub nv i0) = yInt nv ∧ rN (opR cs ct cf s k w n0 a0 b0 nv i0) = n0 ∧ (∀ (i : Nat), Nat.succ i ≤ rN (opR cs ct cf s k w n0 a0 b0 nv i0) → rA (opR cs ct cf s k w n0 a0 b0 nv i0) i = a0 i ∧ rB (opR cs ct cf s k w n0 a0 b0 nv i0) i = b0 i ∧ True) ∧ true = true) ∧ ∀ (g : Nat → AV) (i : Nat), prOp j nv i → (yLt (yInt j) (yInt (yNsub nv i)) = true → (yNot false = true → (yIn (yWrap IntKind.i64 (ySub (yInt (yNsub nv i)) (1 : Int))) nv = true → (yNlt (goalOpR_3 nv i) nv = true → (yIn (yWrap IntKind.i64 (ySub (yInt (yNsub nv i)) (1 : Int))) nv = true → (yNlt (goalOpR_3 nv i) nv = true → (yNot false = true → (yAnd (goalOpR_2 cs ct cf cl cp s) (goalOpR_4 nv i cf) = true → (yNeq (rN (opR cs ct cf s k w n0 a0 b0 nv i)) (rN (opR cs ct cf s k w n0 a0 b0 nv i)) = true → (yGrow (yNadd (rN (opR cs ct cf s k w n0 a0 b0 nv i)) (nat_lit 1)) (nat_lit 16) = true → (yAnd (goalOpR_2 cs ct cf cl cp s) (goalOpR_4 nv i cf) = true → (yNeq (yNadd (rN (opR cs ct cf s k w n0 a0 b0 nv i)) (nat_lit 1)) (yNadd (rN (opR cs ct cf s k w n0 a0 b0 nv i)) (nat_lit 1)) = true → (yGrow (goalOpR_1 cs ct cf s k w n0 a0 b0 nv i) (nat_lit 16) = true → (yEq (yInt (yNsub nv i)) (yInt nv) = true → (yAnd (rightC cs ct cf cl cp) (yAnd (yLe (0 : Int) s) (yLe s cs)) = true → (true = true → (yNeq (goalOpR_1 cs ct cf s k w n0 a0 b0 nv i) (goalOpR_1 cs ct cf s k w n0 a0 b0 nv i) = true → (yGrow (yNadd (goalOpR_1 cs ct cf s k w n0 a0 b0 nv i) (nat_lit 1)) (nat_lit 16) = true → true = true ∧ ∃ (i' : Nat), prOp j nv i' ∧ Nat.succ (msFit (Nat.succ nv) i') ≤ msFit (Nat.succ nv) i ∧ true = true ∧ rE (opR cs ct cf s k w n0 a0 b0 nv i') = yAnd (yAnd (goalOpR_13 cs ct cf s k w n0 a0 b0 nv i) (yNeq (nat_lit 1) (nat_lit 0))) (yNeq (nat_lit 1) (nat_lit 0)) ∧ nat_lit 0 = nat_lit 0 ∧ rN (opR cs ct cf s k w n0 a0 b0 nv i') = yNadd (goalOpR_1 cs ct cf s k w n0 a0 b0 nv i) (nat_lit 1) ∧ yInt (yNsub nv i') = yWrap IntKind.i64 (ySub (yInt (yNsub nv i)) (1 : Int)) ∧ rN (opR cs ct cf s k w n0 a0 b0 nv i') = yNadd (goalOpR_1 cs ct cf s k w n0 a0 b0 nv i) (nat_lit 1) ∧ (∀ (i_1 : Nat), Nat.succ i_1 ≤ rN (opR cs ct cf s k w n0 a0 b0 nv i') → rA (opR cs ct cf s k w n0 a0 b0 nv i') i_1 = ySel (yNlt i_1 (goalOpR_1 cs ct cf s k w n0 a0 b0 nv i)) (ySel (goalOpR_5 i_1 cs ct cf s k w n0 a0 b0 nv i) (goalOpR_15 i_1 cs ct cf s k w n0 a0 b0 nv i) (valC cs ct cf s (yInt (yNsub nv i)))) (shapeC cs ct cf s) ∧ rB (opR cs ct cf s k w n0 a0 b0 nv i') i_1 = ySel (yNlt i_1 (goalOpR_1 cs ct cf s k w n0 a0 b0 nv i)) (ySel (goalOpR_5 i_1 cs ct cf s k w n0 a0 b0 nv i) (ySel (yNlt i_1 (rN (opR cs ct cf s k w n0 a0 b0 nv i))) (rB (opR cs ct cf s k w n0 a0 b0 nv i) i_1) (k (goalOpR_3 nv i))) (w (goalOpR_3 nv i))) (goalOpR_11 nv) ∧ True) ∧ true = true) ∧ (yGrow (yNadd (goalOpR_1 cs ct cf s k w n0 a0 b0 nv i) (nat_lit 1)) (nat_lit 16) = false → False)) ∧ (yNeq (goalOpR_1 cs ct cf s k w n0 a0 b0 nv i) (goalOpR_1 cs ct cf s k w n0 a0 b0 nv i) = false → False)) ∧ (true = false → False)) ∧ (goalOpR_10 cs ct cf cl cp s)) ∧ (yEq (yInt (yNsub nv i)) (yInt nv) = false → true = true ∧ ∃ (i' : Nat), prOp j nv i' ∧ Nat.succ (msFit (Nat.succ nv) i') ≤ msFit (Nat.succ nv) i ∧ true = true ∧ rE (opR cs ct cf s k w n0 a0 b0 nv i') = yAnd (goalOpR_13 cs ct cf s k w n0 a0 b0 nv i) (yNeq (nat_lit 1) (nat_lit 0)) ∧ nat_lit 0 = nat_lit 0 ∧ rN (opR cs ct cf s k w n0 a0 b0 nv i') = yNadd (yNadd (rN (opR cs ct cf s k w n0 a0 b0 nv i)) (nat_lit 1)) (nat_lit 1) ∧ yInt (yNsub nv i') = yWrap IntKind.i64 (ySub (yInt (yNsub nv i)) (1 : Int)) ∧ rN (opR cs ct cf s k w n0 a0 b0 nv i') = yNadd (yNadd (rN (opR cs ct cf s k w n0 a0 b0 nv i)) (nat_lit 1)) (nat_lit 1) ∧ (∀ (i_1 : Nat), Nat.succ i_1 ≤ rN (opR cs ct cf s k w n0 a0 b0 nv i') → rA (opR cs ct cf s k w n0 a0 b0 nv i') i_1 = ySel (goalOpR_5 i_1 cs ct cf s k w n0 a0 b0 nv i) (goalOpR_15 i_1 cs ct cf s k w n0 a0 b0 nv i) (valC cs ct cf s (yInt (yNsub nv i))) ∧ rB (opR cs ct cf s k w n0 a0 b0 nv i') i_1 = ySel (goalOpR_5 i_1 cs ct cf s k w n0 a0 b0 nv i) (ySel (yNlt i_1 (rN (opR cs ct cf s k w n0 a0 b0 nv i))) (rB (opR cs ct cf s k w n0 a0 b0 nv i) i_1) (k (goalOpR_3 nv i))) (w (goalOpR_3 nv i)) ∧ True) ∧ true = true)) ∧ (yGrow (goalOpR_1 cs ct cf s k w n0 a0 b0 nv i) (nat_lit 16) = false → False)) ∧ (goalOpR_6 cs ct cf s k w n0 a0 b0 nv i)) ∧ (goalOpR_16 cs ct cf cl cp s nv i)) ∧ (goalOpR_14 cs ct cf s k w n0 a0 b0 nv i)) ∧ (goalOpR_12 cs ct cf s k w n0 a0 b0 nv i)) ∧ (goalOpR_16 cs ct cf cl cp s nv i)) ∧ (yNot false = false → (yLt (0 : Int) (yInt (yNsub nv i)) = true → (yAnd (goalOpR_2 cs ct cf cl cp s) (goalOpR_7 nv i cf) = true → (yNeq (rN (opR cs ct cf s k w n0 a0 b0 nv i)) (rN (opR cs ct cf s k w n0 a0 b0 nv i)) = true → (yGrow (yNadd (rN (opR cs ct cf s k w n0 a0 b0 nv i)) (nat_lit 1)) (nat_lit 16) = true → (yAnd (goalOpR_2 cs ct cf cl cp s) (goalOpR_4 nv i cf) = true → (yNeq (yNadd (rN (opR cs ct cf s k w n0 a0 b0 nv i)) (nat_lit 1)) (yNadd (rN (opR cs ct cf s k w n0 a0 b0 nv i)) (nat_lit 1)) = true → (yGrow (goalOpR_1 cs ct cf s k w n0 a0 b0 nv i) (nat_lit 16) = true → (yEq (yInt (yNsub nv i)) (yInt nv) = true → (yAnd (rightC cs ct cf cl cp) (yAnd (yLe (0 : Int) s) (yLe s cs)) = true → (true = true → (yNeq (goalOpR_1 cs ct cf s k w n0 a0 b0 nv i) (goalOpR_1 cs ct cf s k w n0 a0 b0 nv i) = true → (yGrow (yNadd (goalOpR_1 cs ct cf s k w n0 a0 b0 nv i) (nat_lit 1)) (nat_lit 16) = true → true = true ∧ ∃ (i' : Nat), prOp j nv i' ∧ Nat.succ (msFit (Nat.succ nv) i') ≤ msFit (Nat.succ nv) i ∧ true = true ∧ rE (opR cs ct cf s k w n0 a0 b0 nv i') = yAnd (yAnd (goalOpR_13 cs ct cf s k w n0 a0 b0 nv i) (yNeq (nat_lit 1) (nat_lit 0))) (yNeq (nat_lit 1) (nat_lit 0)) ∧ nat_lit 0 = nat_lit 0 ∧ rN (opR cs ct cf s k w n0 a0 b0 nv i') = yNadd (goalOpR_1 cs ct cf s k w n0 a0 b0 nv i) (nat_lit 1) ∧ yInt (yNsub nv i') = yWrap IntKind.i64 (ySub (yInt (yNsub nv i)) (1 : Int)) ∧ rN (opR cs ct cf s k w n0 a0 b0 nv i') = yNadd (goalOpR_1 cs ct cf s k w n0 a0 b0 nv i) (nat_lit 1) ∧ (∀ (i_1 : Nat), Nat.succ i_1 ≤ rN (opR cs ct cf s k w n0 a0 b0 nv i') → rA (opR cs ct cf s k w n0 a0 b0 nv i') i_1 = ySel (yNlt i_1 (goalOpR_1 cs ct cf s k w n0 a0 b0 nv i)) (ySel (goalOpR_5 i_1 cs ct cf s k w n0 a0 b0 nv i) (goalOpR_9 i_1 cs ct cf s k w n0 a0 b0 nv i) (valC cs ct cf s (yInt (yNsub nv i)))) (shapeC cs ct cf s) ∧ rB (opR cs ct cf s k w n0 a0 b0 nv i') i_1 = ySel (yNlt i_1 (goalOpR_1 cs ct cf s k w n0 a0 b0 nv i)) (ySel (goalOpR_5 i_1 cs ct cf s k w n0 a0 b0 nv i) (ySel (yNlt i_1 (rN (opR cs ct cf s k w n0 a0 b0 nv i))) (rB (opR cs ct cf s k w n0 a0 b0 nv i) i_1) (k (goalOpR_3 nv i))) (w (goalOpR_3 nv i))) (goalOpR_11 nv) ∧ True) ∧ true = true) ∧ (yGrow (yNadd (goalOpR_1 cs ct cf s k w n0 a0 b0 nv i) (nat_lit 1)) (nat_lit 16) = false → False)) ∧ (yNeq (goalOpR_1 cs ct cf s k w n0 a0 b0 nv i) (goalOpR_1 cs ct cf s k w n0 a0 b0 nv i) = false → False)) ∧ (true = false → False)) ∧ (goalOpR_10 cs ct cf cl cp s)) ∧ (yEq (yInt (yNsub nv i)) (yInt nv) = false → true = true ∧ ∃ (i' : Nat), prOp j nv i' ∧ Nat.succ (msFit (Nat.succ nv) i') ≤ msFit (Nat.succ nv) i ∧ true = true ∧ rE (opR cs ct cf s k w n0 a0 b0 nv i') = yAnd (goalOpR_13 cs ct cf s k w n0 a0 b0 nv i) (yNeq (nat_lit 1) (nat_lit 0)) ∧ nat_lit 0 = nat_lit 0 ∧ rN (opR cs ct cf s k w n0 a0 b0 nv i') = yNadd (yNadd (rN (opR cs ct cf s k w n0 a0 b0 nv i)) (nat_lit 1)) (nat_lit 1) ∧ yInt (yNsub nv i') = yWrap IntKind.i64 (ySub (yInt (yNsub nv i)) (1 : Int)) ∧ rN (opR cs ct cf s k w n0 a0 b0 nv i') = yNadd (yNadd (rN (opR cs ct cf s k w n0 a0 b0 nv i)) (nat_lit 1)) (nat_lit 1) ∧ (∀ (i_1 : Nat), Nat.succ i_1 ≤ rN (opR cs ct cf s k w n0 a0 b0 nv i') → rA (opR cs ct cf s k w n0 a0 b0 nv i') i_1 = ySel (goalOpR_5 i_1 cs ct cf s k w n0 a0 b0 nv i) (goalOpR_9 i_1 cs ct cf s k w n0 a0 b0 nv i) (valC cs ct cf s (yInt (yNsub nv i))) ∧ rB (opR cs ct cf s k w n0 a0 b0 nv i') i_1 = ySel (goalOpR_5 i_1 cs ct cf s k w n0 a0 b0 nv i) (ySel (yNlt i_1 (rN (opR cs ct cf s k w n0 a0 b0 nv i))) (rB (opR cs ct cf s k w n0 a0 b0 nv i) i_1) (k (goalOpR_3 nv i))) (w (goalOpR_3 nv i)) ∧ True) ∧ true = true)) ∧ (yGrow (goalOpR_1 cs ct cf s k w n0 a0 b0 nv i) (nat_lit 16) = false → False)) ∧ (goalOpR_6 cs ct cf s k w n0 a0 b0 nv i)) ∧ (goalOpR_16 cs ct cf cl cp s nv i)) ∧ (goalOpR_14 cs ct cf s k w n0 a0 b0 nv i)) ∧ (goalOpR_12 cs ct cf s k w n0 a0 b0 nv i)) ∧ (yAnd (goalOpR_2 cs ct cf cl cp s) (goalOpR_7 nv i cf) = false → False)) ∧ (goalOpR_0 nv i cs ct cf cl cp s k w n0 a0 b0 j))) ∧ (yNlt (goalOpR_3 nv i) nv = false → False)) ∧ (goalOpR_17 nv i)) ∧ (yNlt (goalOpR_3 nv i) nv = false → False)) ∧ (goalOpR_17 nv i)) ∧ (yNot false = false → (yEq (yWrap IntKind.i64 (ySub (yInt (yNsub nv i)) (1 : Int))) (0 : Int) = true → (yIn (yWrap IntKind.i64 (ySub (yInt (yNsub nv i)) (1 : Int))) nv = true → (yNlt (goalOpR_3 nv i) nv = true → (yNot false = true → (yAnd (goalOpR_2 cs ct cf cl cp s) (goalOpR_4 nv i cf) = true → (yNeq (rN (opR cs ct cf s k w n0 a0 b0 nv i)) (rN (opR cs ct cf s k w n0 a0 b0 nv i)) = true → (yGrow (yNadd (rN (opR cs ct cf s k w n0 a0 b0 nv i)) (nat_lit 1)) (nat_lit 16) = true → (yAnd (goalOpR_2 cs ct cf cl cp s) (goalOpR_4 nv i cf) = true → (yNeq (yNadd (rN (opR cs ct cf s k w n0 a0 b0 nv i)) (nat_lit 1)) (yNadd (rN (opR cs ct cf s k w n0 a0 b0 nv i)) (nat_lit 1)) = true → (yGrow (goalOpR_1 cs ct cf s k w n0 a0 b0 nv i) (nat_lit 16) = true → (yEq (yInt (yNsub nv i)) (yInt nv) = true → (yAnd (rightC cs ct cf cl cp) (yAnd (yLe (0 : Int) s) (yLe s cs)) = true → (true = true → (yNeq (goalOpR_1 cs ct cf s k w n0 a0 b0 nv i) (goalOpR_1 cs ct cf s k w n0 a0 b0 nv i) = true → (yGrow (yNadd (goalOpR_1 cs ct cf s k w n0 a0 b0 nv i) (nat_lit 1)) (nat_lit 16) = true → true = true ∧ ∃ (i' : Nat), prOp j nv i' ∧ Nat.succ (msFit (Nat.succ nv) i') ≤ msFit (Nat.succ nv) i ∧ true = true ∧ rE (opR cs ct cf s k w n0 a0 b0 nv i') = yAnd (yAnd (goalOpR_13 cs ct cf s k w n0 a0 b0 nv i) (yNeq (nat_lit 1) (nat_lit 0))) (yNeq (nat_lit 1) (nat_lit 0)) ∧ nat_lit 0 = nat_lit 0 ∧ rN (opR cs ct cf s k w n0 a0 b0 nv i') = yNadd (goalOpR_1 cs ct cf s k w n0 a0 b0 nv i) (nat_lit 1) ∧ yInt (yNsub nv i') = yWrap IntKind.i64 (ySub (yInt (yNsub nv i)) (1 : Int)) ∧ rN (opR cs ct cf s k w n0 a0 b0 nv i') = yNadd (goalOpR_1 cs ct cf s k w n0 a0 b0 nv i) (nat_lit 1) ∧ (∀ (i_1 : Nat), Nat.succ i_1 ≤ rN (opR cs ct cf s k w n0 a0 b0 nv i') → rA (opR cs ct cf s k w n0 a0 b0 nv i') i_1 = ySel (yNlt i_1 (goalOpR_1 cs ct cf s k w n0 a0 b0 nv i)) (ySel (goalOpR_5 i_1 cs ct cf s k w n0 a0 b0 nv i) (goalOpR_15 i_1 cs ct cf s k w n0 a0 b0 nv i) (valC cs ct cf s (yInt (yNsub nv i)))) (shapeC cs ct cf s) ∧ rB (opR cs ct cf s k w n0 a0 b0 nv i') i_1 = ySel (yNlt i_1 (goalOpR_1 cs ct cf s k w n0 a0 b0 nv i)) (ySel (goalOpR_5 i_1 cs ct cf s k w n0 a0 b0 nv i) (ySel (yNlt i_1 (rN (opR cs ct cf s k w n0 a0 b0 nv i))) (rB (opR cs ct cf s k w n0 a0 b0 nv i) i_1) key) (w (goalOpR_3 nv i))) (goalOpR_11 nv) ∧ True) ∧ true = true) ∧ (yGrow (yNadd (goalOpR_1 cs ct cf s k w n0 a0 b0 nv i) (nat_lit 1)) (nat_lit 16) = false → False)) ∧ (yNeq (goalOpR_1 cs ct cf s k w n0 a0 b0 nv i) (goalOpR_1 cs ct cf s k w n0 a0 b0 nv i) = false → False)) ∧ (true = false → False)) ∧ (goalOpR_10 cs ct cf cl cp s)) ∧ (yEq (yInt (yNsub nv i)) (yInt nv) = false → true = true ∧ ∃ (i' : Nat), prOp j nv i' ∧ Nat.succ (msFit (Nat.succ nv) i') ≤ msFit (Nat.succ nv) i ∧ true = true ∧ rE (opR cs ct cf s k w n0 a0 b0 nv i') = yAnd (goalOpR_13 cs ct cf s k w n0 a0 b0 nv i) (yNeq (nat_lit 1) (nat_lit 0)) ∧ nat_lit 0 = nat_lit 0 ∧ rN (opR cs ct cf s k w n0 a0 b0 nv i') = yNadd (yNadd (rN (opR cs ct cf s k w n0 a0 b0 nv i)) (nat_lit 1)) (nat_lit 1) ∧ yInt (yNsub nv i') = yWrap IntKind.i64 (ySub (yInt (yNsub nv i)) (1 : Int)) ∧ rN (opR cs ct cf s k w n0 a0 b0 nv i') = yNadd (yNadd (rN (opR cs ct cf s k w n0 a0 b0 nv i)) (nat_lit 1)) (nat_lit 1) ∧ (∀ (i_1 : Nat), Nat.succ i_1 ≤ rN (opR cs ct cf s k w n0 a0 b0 nv i') → rA (opR cs ct cf s k w n0 a0 b0 nv i') i_1 = ySel (goalOpR_5 i_1 cs ct cf s k w n0 a0 b0 nv i) (goalOpR_15 i_1 cs ct cf s k w n0 a0 b0 nv i) (valC cs ct cf s (yInt (yNsub nv i))) ∧ rB (opR cs ct cf s k w n0 a0 b0 nv i') i_1 = ySel (goalOpR_5 i_1 cs ct cf s k w n0 a0 b0 nv i) (ySel (yNlt i_1 (rN (opR cs ct cf s k w n0 a0 b0 nv i))) (rB (opR cs ct cf s k w n0 a0 b0 nv i) i_1) key) (w (goalOpR_3 nv i)) ∧ True) ∧ true = true)) ∧ (yGrow (goalOpR_1 cs ct cf s k w n0 a0 b0 nv i) (nat_lit 16) = false → False)) ∧ (goalOpR_6 cs ct cf s k w n0 a0 b0 nv i)) ∧ (goalOpR_16 cs ct cf cl cp s nv i)) ∧ (goalOpR_14 cs ct cf s k w n0 a0 b0 nv i)) ∧ (goalOpR_12 cs ct cf s k w n0 a0 b0 nv i)) ∧ (goalOpR_16 cs ct cf cl cp s nv i)) ∧ (yNot false = false → (yLt (0 : Int) (yInt (yNsub nv i)) = true → (yAnd (goalOpR_2 cs ct cf cl cp s) (goalOpR_7 nv i cf) = true → (yNeq (rN (opR cs ct cf s k w n0 a0 b0 nv i)) (rN (opR cs ct cf s k w n0 a0 b0 nv i)) = true → (yGrow (yNadd (rN (opR cs ct cf s k w n0 a0 b0 nv i)) (nat_lit 1)) (nat_lit 16) = true → (yAnd (goalOpR_2 cs ct cf cl cp s) (goalOpR_4 nv i cf) = true → (yNeq (yNadd (rN (opR cs ct cf s k w n0 a0 b0 nv i)) (nat_lit 1)) (yNadd (rN (opR cs ct cf s k w n0 a0 b0 nv i)) (nat_lit 1)) = true → (yGrow (goalOpR_1 cs ct cf s k w n0 a0 b0 nv i) (nat_lit 16) = true → (yEq (yInt (yNsub nv i)) (yInt nv) = true → (yAnd (rightC cs ct cf cl cp) (yAnd (yLe (0 : Int) s) (yLe s cs)) = true → (true = true → (yNeq (goalOpR_1 cs ct cf s k w n0 a0 b0 nv i) (goalOpR_1 cs ct cf s k w n0 a0 b0 nv i) = true → (yGrow (yNadd (goalOpR_1 cs ct cf s k w n0 a0 b0 nv i) (nat_lit 1)) (nat_lit 16) = true → true = true ∧ ∃ (i' : Nat), prOp j nv i' ∧ Nat.succ (msFit (Nat.succ nv) i') ≤ msFit (Nat.succ nv) i ∧ true = true ∧ rE (opR cs ct cf s k w n0 a0 b0 nv i') = yAnd (yAnd (goalOpR_13 cs ct cf s k w n0 a0 b0 nv i) (yNeq (nat_lit 1) (nat_lit 0))) (yNeq (nat_lit 1) (nat_lit 0)) ∧ nat_lit 0 = nat_lit 0 ∧ rN (opR cs ct cf s k w n0 a0 b0 nv i') = yNadd (goalOpR_1 cs ct cf s k w n0 a0 b0 nv i) (nat_lit 1) ∧ yInt (yNsub nv i') = yWrap IntKind.i64 (ySub (yInt (yNsub nv i)) (1 : Int)) ∧ rN (opR cs ct cf s k w n0 a0 b0 nv i') = yNadd (goalOpR_1 cs ct cf s k w n0 a0 b0 nv i) (nat_lit 1) ∧ (∀ (i_1 : Nat), Nat.succ i_1 ≤ rN (opR cs ct cf s k w n0 a0 b0 nv i') → rA (opR cs ct cf s k w n0 a0 b0 nv i') i_1 = ySel (yNlt i_1 (goalOpR_1 cs ct cf s k w n0 a0 b0 nv i)) (ySel (goalOpR_5 i_1 cs ct cf s k w n0 a0 b0 nv i) (goalOpR_9 i_1 cs ct cf s k w n0 a0 b0 nv i) (valC cs ct cf s (yInt (yNsub nv i)))) (shapeC cs ct cf s) ∧ rB (opR cs ct cf s k w n0 a0 b0 nv i') i_1 = ySel (yNlt i_1 (goalOpR_1 cs ct cf s k w n0 a0 b0 nv i)) (ySel (goalOpR_5 i_1 cs ct cf s k w n0 a0 b0 nv i) (ySel (yNlt i_1 (rN (opR cs ct cf s k w n0 a0 b0 nv i))) (rB (opR cs ct cf s k w n0 a0 b0 nv i) i_1) key) (w (goalOpR_3 nv i))) (goalOpR_11 nv) ∧ True) ∧ true = true) ∧ (yGrow (yNadd (goalOpR_1 cs ct cf s k w n0 a0 b0 nv i) (nat_lit 1)) (nat_lit 16) = false → False)) ∧ (yNeq (goalOpR_1 cs ct cf s k w n0 a0 b0 nv i) (goalOpR_1 cs ct cf s k w n0 a0 b0 nv i) = false → False)) ∧ (true = false → False)) ∧ (goalOpR_10 cs ct cf cl cp s)) ∧ (yEq (yInt (yNsub nv i)) (yInt nv) = false → true = true ∧ ∃ (i' : Nat), prOp j nv i' ∧ Nat.succ (msFit (Nat.succ nv) i') ≤ msFit (Nat.succ nv) i ∧ true = true ∧ rE (opR cs ct cf s k w n0 a0 b0 nv i') = yAnd (goalOpR_13 cs ct cf s k w n0 a0 b0 nv i) (yNeq (nat_lit 1) (nat_lit 0)) ∧ nat_lit 0 = nat_lit 0 ∧ rN (opR cs ct cf s k w n0 a0 b0 nv i') = yNadd (yNadd (rN (opR cs ct cf s k w n0 a0 b0 nv i)) (nat_lit 1)) (nat_lit 1) ∧ yInt (yNsub nv i') = yWrap IntKind.i64 (ySub (yInt (yNsub nv i)) (1 : Int)) ∧ rN (opR cs ct cf s k w n0 a0 b0 nv i') = yNadd (yNadd (rN (opR cs ct cf s k w n0 a0 b0 nv i)) (nat_lit 1)) (nat_lit 1) ∧ (∀ (i_1 : Nat), Nat.succ i_1 ≤ rN (opR cs ct cf s k w n0 a0 b0 nv i') → rA (opR cs ct cf s k w n0 a0 b0 nv i') i_1 = ySel (goalOpR_5 i_1 cs ct cf s k w n0 a0 b0 nv i) (goalOpR_9 i_1 cs ct cf s k w n0 a0 b0 nv i) (valC cs ct cf s (yInt (yNsub nv i))) ∧ rB (opR cs ct cf s k w n0 a0 b0 nv i') i_1 = ySel (goalOpR_5 i_1 cs ct cf s k w n0 a0 b0 nv i) (ySel (yNlt i_1 (rN (opR cs ct cf s k w n0 a0 b0 nv i))) (rB (opR cs ct cf s k w n0 a0 b0 nv i) i_1) key) (w (goalOpR_3 nv i)) ∧ True) ∧ true = true)) ∧ (yGrow (goalOpR_1 cs ct cf s k w n0 a0 b0 nv i) (nat_lit 16) = false → False)) ∧ (goalOpR_6 cs ct cf s k w n0 a0 b0 nv i)) ∧ (goalOpR_16 cs ct cf cl cp s nv i)) ∧ (goalOpR_14 cs ct cf s k w n0 a0 b0 nv i)) ∧ (goalOpR_12 cs ct cf s k w n0 a0 b0 nv i)) ∧ (yAnd (goalOpR_2 cs ct cf cl cp s) (goalOpR_7 nv i cf) = false → False)) ∧ (goalOpR_0 nv i cs ct cf cl cp s k w n0 a0 b0 j))) ∧ (yNlt (goalOpR_3 nv i) nv = false → False)) ∧ (goalOpR_17 nv i)) ∧ (yEq (yWrap IntKind.i64 (ySub (yInt (yNsub nv i)) (1 : Int))) (0 : Int) = false → (yIn (goalOpR_8 nv i) nv = true → (yNlt (yNadd (nat_lit 0) (yNat (goalOpR_8 nv i))) nv = true → (yIn (yWrap IntKind.i64 (ySub (yInt (yNsub nv i)) (1 : Int))) nv = true → (yNlt (goalOpR_3 nv i) nv = true → (yNot false = true → (yAnd (goalOpR_2 cs ct cf cl cp s) (goalOpR_4 nv i cf) = true → (yNeq (rN (opR cs ct cf s k w n0 a0 b0 nv i)) (rN (opR cs ct cf s k w n0 a0 b0 nv i)) = true → (yGrow (yNadd (rN (opR cs ct cf s k w n0 a0 b0 nv i)) (nat_lit 1)) (nat_lit 16) = true → (yAnd (goalOpR_2 cs ct cf cl cp s) (goalOpR_4 nv i cf) = true → (yNeq (yNadd (rN (opR cs ct cf s k w n0 a0 b0 nv i)) (nat_lit 1)) (yNadd (rN (opR cs ct cf s k w n0 a0 b0 nv i)) (nat_lit 1)) = true → (yGrow (goalOpR_1 cs ct cf s k w n0 a0 b0 nv i) (nat_lit 16) = true → (yEq (yInt (yNsub nv i)) (yInt nv) = true → (yAnd (rightC cs ct cf cl cp) (yAnd (yLe (0 : Int) s) (yLe s cs)) = true → (true = true → (yNeq (goalOpR_1 cs ct cf s k w n0 a0 b0 nv i) (goalOpR_1 cs ct cf s k w n0 a0 b0 nv i) = true → (yGrow (yNadd (goalOpR_1 cs ct cf s k w n0 a0 b0 nv i) (nat_lit 1)) (nat_lit 16) = true → true = true ∧ ∃ (i' : Nat), prOp j nv i' ∧ Nat.succ (msFit (Nat.succ nv) i') ≤ msFit (Nat.succ nv) i ∧ true = true ∧ rE (opR cs ct cf s k w n0 a0 b0 nv i') = yAnd (yAnd (goalOpR_13 cs ct cf s k w n0 a0 b0 nv i) (yNeq (nat_lit 1) (nat_lit 0))) (yNeq (nat_lit 1) (nat_lit 0)) ∧ nat_lit 0 = nat_lit 0 ∧ rN (opR cs ct cf s k w n0 a0 b0 nv i') = yNadd (goalOpR_1 cs ct cf s k w n0 a0 b0 nv i) (nat_lit 1) ∧ yInt (yNsub nv i') = yWrap IntKind.i64 (ySub (yInt (yNsub nv i)) (1 : Int)) ∧ rN (opR cs ct cf s k w n0 a0 b0 nv i') = yNadd (goalOpR_1 cs ct cf s k w n0 a0 b0 nv i) (nat_lit 1) ∧ (∀ (i_1 : Nat), Nat.succ i_1 ≤ rN (opR cs ct cf s k w n0 a0 b0 nv i') → rA (opR cs ct cf s k w n0 a0 b0 nv i') i_1 = ySel (yNlt i_1 (goalOpR_1 cs ct cf s k w n0 a0 b0 nv i)) (ySel (goalOpR_5 i_1 cs ct cf s k w n0 a0 b0 nv i) (goalOpR_15 i_1 cs ct cf s k w n0 a0 b0 nv i) (valC cs ct cf s (yInt (yNsub nv i)))) (shapeC cs ct cf s) ∧ rB (opR cs ct cf s k w n0 a0 b0 nv i') i_1 = ySel (yNlt i_1 (goalOpR_1 cs ct cf s k w n0 a0 b0 nv i)) (ySel (goalOpR_5 i_1 cs ct cf s k w n0 a0 b0 nv i) (ySel (yNlt i_1 (rN (opR cs ct cf s k w n0 a0 b0 nv i))) (rB (opR cs ct cf s k w n0 a0 b0 nv i) i_1) (k (yNadd (nat_lit 0) (yNat (goalOpR_8 nv i))))) (w (goalOpR_3 nv i))) (goalOpR_11 nv) ∧ True) ∧ true = true) ∧ (yGrow (yNadd (goalOpR_1 cs ct cf s k w n0 a0 b0 nv i) (nat_lit 1)) (nat_lit 16) = false → False)) ∧ (yNeq (goalOpR_1 cs ct cf s k w n0 a0 b0 nv i) (goalOpR_1 cs ct cf s k w n0 a0 b0 nv i) = false → False)) ∧ (true = false → False)) ∧ (goalOpR_10 cs ct cf cl cp s)) ∧ (yEq (yInt (yNsub nv i)) (yInt nv) = false → true = true ∧ ∃ (i' : Nat), prOp j nv i' ∧ Nat.succ (msFit (Nat.succ nv) i') ≤ msFit (Nat.succ nv) i ∧ true = true ∧ rE (opR cs ct cf s k w n0 a0 b0 nv i') = yAnd (goalOpR_13 cs ct cf s k w n0 a0 b0 nv i) (yNeq (nat_lit 1) (nat_lit 0)) ∧ nat_lit 0 = nat_lit 0 ∧ rN (opR cs ct cf s k w n0 a0 b0 nv i') = yNadd (yNadd (rN (opR cs ct cf s k w n0 a0 b0 nv i)) (nat_lit 1)) (nat_lit 1) ∧ yInt (yNsub nv i') = yWrap IntKind.i64 (ySub (yInt (yNsub nv i)) (1 : Int)) ∧ rN (opR cs ct cf s k w n0 a0 b0 nv i') = yNadd (yNadd (rN (opR cs ct cf s k w n0 a0 b0 nv i)) (nat_lit 1)) (nat_lit 1) ∧ (∀ (i_1 : Nat), Nat.succ i_1 ≤ rN (opR cs ct cf s k w n0 a0 b0 nv i') → rA (opR cs ct cf s k w n0 a0 b0 nv i') i_1 = ySel (goalOpR_5 i_1 cs ct cf s k w n0 a0 b0 nv i) (goalOpR_15 i_1 cs ct cf s k w n0 a0 b0 nv i) (valC cs ct cf s (yInt (yNsub nv i))) ∧ rB (opR cs ct cf s k w n0 a0 b0 nv i') i_1 = ySel (goalOpR_5 i_1 cs ct cf s k w n0 a0 b0 nv i) (ySel (yNlt i_1 (rN (opR cs ct cf s k w n0 a0 b0 nv i))) (rB (opR cs ct cf s k w n0 a0 b0 nv i) i_1) (k (yNadd (nat_lit 0) (yNat (goalOpR_8 nv i))))) (w (goalOpR_3 nv i)) ∧ True) ∧ true = true)) ∧ (yGrow (goalOpR_1 cs ct cf s k w n0 a0 b0 nv i) (nat_lit 16) = false → False)) ∧ (goalOpR_6 cs ct cf s k w n0 a0 b0 nv i)) ∧ (goalOpR_16 cs ct cf cl cp s nv i)) ∧ (goalOpR_14 cs ct cf s k w n0 a0 b0 nv i)) ∧ (goalOpR_12 cs ct cf s k w n0 a0 b0 nv i)) ∧ (goalOpR_16 cs ct cf cl cp s nv i)) ∧ (yNot false = false → (yLt (0 : Int) (yInt (yNsub nv i)) = true → (yAnd (goalOpR_2 cs ct cf cl cp s) (goalOpR_7 nv i cf) = true → (yNeq (rN (opR cs ct cf s k w n0 a0 b0 nv i)) (rN (opR cs ct cf s k w n0 a0 b0 nv i)) = true → (yGrow (yNadd (rN (opR cs ct cf s k w n0 a0 b0 nv i)) (nat_lit 1)) (nat_lit 16) = true → (yAnd (goalOpR_2 cs ct cf cl cp s) (goalOpR_4 nv i cf) = true → (yNeq (yNadd (rN (opR cs ct cf s k w n0 a0 b0 nv i)) (nat_lit 1)) (yNadd (rN (opR cs ct cf s k w n0 a0 b0 nv i)) (nat_lit 1)) = true → (yGrow (goalOpR_1 cs ct cf s k w n0 a0 b0 nv i) (nat_lit 16) = true → (yEq (yInt (yNsub nv i)) (yInt nv) = true → (yAnd (rightC cs ct cf cl cp) (yAnd (yLe (0 : Int) s) (yLe s cs)) = true → (true = true → (yNeq (goalOpR_1 cs ct cf s k w n0 a0 b0 nv i) (goalOpR_1 cs ct cf s k w n0 a0 b0 nv i) = true → (yGrow (yNadd (goalOpR_1 cs ct cf s k w n0 a0 b0 nv i) (nat_lit 1)) (nat_lit 16) = true → true = true ∧ ∃ (i' : Nat), prOp j nv i' ∧ Nat.succ (msFit (Nat.succ nv) i') ≤ msFit (Nat.succ nv) i ∧ true = true ∧ rE (opR cs ct cf s k w n0 a0 b0 nv i') = yAnd (yAnd (goalOpR_13 cs ct cf s k w n0 a0 b0 nv i) (yNeq (nat_lit 1) (nat_lit 0))) (yNeq (nat_lit 1) (nat_lit 0)) ∧ nat_lit 0 = nat_lit 0 ∧ rN (opR cs ct cf s k w n0 a0 b0 nv i') = yNadd (goalOpR_1 cs ct cf s k w n0 a0 b0 nv i) (nat_lit 1) ∧ yInt (yNsub nv i') = yWrap IntKind.i64 (ySub (yInt (yNsub nv i)) (1 : Int)) ∧ rN (opR cs ct cf s k w n0 a0 b0 nv i') = yNadd (goalOpR_1 cs ct cf s k w n0 a0 b0 nv i) (nat_lit 1) ∧ (∀ (i_1 : Nat), Nat.succ i_1 ≤ rN (opR cs ct cf s k w n0 a0 b0 nv i') → rA (opR cs ct cf s k w n0 a0 b0 nv i') i_1 = ySel (yNlt i_1 (goalOpR_1 cs ct cf s k w n0 a0 b0 nv i)) (ySel (goalOpR_5 i_1 cs ct cf s k w n0 a0 b0 nv i) (goalOpR_9 i_1 cs ct cf s k w n0 a0 b0 nv i) (valC cs ct cf s (yInt (yNsub nv i)))) (shapeC cs ct cf s) ∧ rB (opR cs ct cf s k w n0 a0 b0 nv i') i_1 = ySel (yNlt i_1 (goalOpR_1 cs ct cf s k w n0 a0 b0 nv i)) (ySel (goalOpR_5 i_1 cs ct cf s k w n0 a0 b0 nv i) (ySel (yNlt i_1 (rN (opR cs ct cf s k w n0 a0 b0 nv i))) (rB (opR cs ct cf s k w n0 a0 b0 nv i) i_1) (k (yNadd (nat_lit 0) (yNat (goalOpR_8 nv i))))) (w (goalOpR_3 nv i))) (goalOpR_11 nv) ∧ True) ∧ true = true) ∧ (yGrow (yNadd (goalOpR_1 cs ct cf s k w n0 a0 b0 nv i) (nat_lit 1)) (nat_lit 16) = false → False)) ∧ (yNeq (goalOpR_1 cs ct cf s k w n0 a0 b0 nv i) (goalOpR_1 cs ct cf s k w n0 a0 b0 nv i) = false → False)) ∧ (true = false → False)) ∧ (goalOpR_10 cs ct cf cl cp s)) ∧ (yEq (yInt (yNsub nv i)) (yInt nv) = false → true = true ∧ ∃ (i' : Nat), prOp j nv i' ∧ Nat.succ (msFit (Nat.succ nv) i') ≤ msFit (Nat.succ nv) i ∧ true = true ∧ rE (opR cs ct cf s k w n0 a0 b0 nv i') = yAnd (goalOpR_13 cs ct cf s k w n0 a0 b0 nv i) (yNeq (nat_lit 1) (nat_lit 0)) ∧ nat_lit 0 = nat_lit 0 ∧ rN (opR cs ct cf s k w n0 a0 b0 nv i') = yNadd (yNadd (rN (opR cs ct cf s k w n0 a0 b0 nv i)) (nat_lit 1)) (nat_lit 1) ∧ yInt (yNsub nv i') = yWrap IntKind.i64 (ySub (yInt (yNsub nv i)) (1 : Int)) ∧ rN (opR cs ct cf s k w n0 a0 b0 nv i') = yNadd (yNadd (rN (opR cs ct cf s k w n0 a0 b0 nv i)) (nat_lit 1)) (nat_lit 1) ∧ (∀ (i_1 : Nat), Nat.succ i_1 ≤ rN (opR cs ct cf s k w n0 a0 b0 nv i') → rA (opR cs ct cf s k w n0 a0 b0 nv i') i_1 = ySel (goalOpR_5 i_1 cs ct cf s k w n0 a0 b0 nv i) (goalOpR_9 i_1 cs ct cf s k w n0 a0 b0 nv i) (valC cs ct cf s (yInt (yNsub nv i))) ∧ rB (opR cs ct cf s k w n0 a0 b0 nv i') i_1 = ySel (goalOpR_5 i_1 cs ct cf s k w n0 a0 b0 nv i) (ySel (yNlt i_1 (rN (opR cs ct cf s k w n0 a0 b0 nv i))) (rB (opR cs ct cf s k w n0 a0 b0 nv i) i_1) (k (yNadd (nat_lit 0) (yNat (goalOpR_8 nv i))))) (w (goalOpR_3 nv i)) ∧ True) ∧ true = true)) ∧ (yGrow (goalOpR_1 cs ct cf s k w n0 a0 b0 nv i) (nat_lit 16) = false → False)) ∧ (goalOpR_6 cs ct cf s k w n0 a0 b0 nv i)) ∧ (goalOpR_16 cs ct cf cl cp s nv i)) ∧ (goalOpR_14 cs ct cf s k w n0 a0 b0 nv i)) ∧ (goalOpR_12 cs ct cf s k w n0 a0 b0 nv i)) ∧ (yAnd (goalOpR_2 cs ct cf cl cp s) (goalOpR_7 nv i cf) = false → False)) ∧ (goalOpR_0 nv i cs ct cf cl cp s k w n0 a0 b0 j))) ∧ (yNlt (goalOpR_3 nv i) nv = false → False)) ∧ (goalOpR_17 nv i)) ∧ (yNlt (yNadd (nat_lit 0) (yNat (goalOpR_8 nv i))) nv = false → False)) ∧ (yIn (goalOpR_8 nv i) nv = false → False)))) ∧ (yLt (yInt j) (yInt (yNsub nv i)) = false → (yNot false = true → (yAnd (goalOpR_2 cs ct cf cl cp s) (yAnd (yLe (0 : Int) (yInt j)) (yLt (yInt j) cf)) = true → (yNeq (rN (opR cs ct cf s k w n0 a0 b0 nv i)) (rN (opR cs ct cf s k w n0 a0 b0 nv i)) = true → (yGrow (yNadd (rN (opR cs ct cf s k w n0 a0 b0 nv i)) (nat_lit 1)) (nat_lit 16) = true → (yAnd (goalOpR_2 cs ct cf cl cp s) (yAnd (yLe (0 : Int) (yInt j)) (yLt (yInt j) cf)) = true → (yNeq (yNadd (rN (opR cs ct cf s k w n0 a0 b0 nv i)) (nat_lit 1)) (yNadd (rN (opR cs ct cf s k w n0 a0 b0 nv i)) (nat_lit 1)) = true → (yGrow (goalOpR_1 cs ct cf s k w n0 a0 b0 nv i) (nat_lit 16) = true → rE L = yAnd (goalOpR_13 cs ct cf s k w n0 a0 b0 nv i) (yNeq (nat_lit 1) (nat_lit 0)) ∧ nat_lit 0 = nat_lit 0 ∧ rN L = yNadd (yNadd (rN (opR cs ct cf s k w n0 a0 b0 nv i)) (nat_lit 1)) (nat_lit 1) ∧ rN L = yNadd (yNadd (rN (opR cs ct cf s k w n0 a0 b0 nv i)) (nat_lit 1)) (nat_lit 1) ∧ (∀ (i_1 : Nat), Nat.succ i_1 ≤ rN L → rA L i_1 = ySel (goalOpR_5 i_1 cs ct cf s k w n0 a0 b0 nv i) (ySel (yNlt i_1 (rN (opR cs ct cf s k w n0 a0 b0 nv i))) (rA (opR cs ct cf s k w n0 a0 b0 nv i) i_1) (keyC cs ct cf s (yInt j))) (valC cs ct cf s (yInt j)) ∧ rB L i_1 = ySel (goalOpR_5 i_1 cs ct cf s k w n0 a0 b0 nv i) (ySel (yNlt i_1 (rN (opR cs ct cf s k w n0 a0 b0 nv i))) (rB (opR cs ct cf s k w n0 a0 b0 nv i) i_1) key) val ∧ True) ∧ true = true) ∧ (yGrow (goalOpR_1 cs ct cf s k w n0 a0 b0 nv i) (nat_lit 16) = false → False)) ∧ (goalOpR_6 cs ct cf s k w n0 a0 b0 nv i)) ∧ (yAnd (goalOpR_2 cs ct cf cl cp s) (yAnd (yLe (0 : Int) (yInt j)) (yLt (yInt j) cf)) = false → False)) ∧ (goalOpR_14 cs ct cf s k w n0 a0 b0 nv i)) ∧ (goalOpR_12 cs ct cf s k w n0 a0 b0 nv i)) ∧ (yAnd (goalOpR_2 cs ct cf cl cp s) (yAnd (yLe (0 : Int) (yInt j)) (yLt (yInt j) cf)) = false → False)) ∧ (yNot false = false → (yLt (0 : Int) (yInt j) = true → (yAnd (goalOpR_2 cs ct cf cl cp s) (yAnd (yLe (0 : Int) (yWrap IntKind.i64 (ySub (yInt j) (1 : Int)))) (yLt (yWrap IntKind.i64 (ySub (yInt j) (1 : Int))) cf)) = true → (yNeq (rN (opR cs ct cf s k w n0 a0 b0 nv i)) (rN (opR cs ct cf s k w n0 a0 b0 nv i)) = true → (yGrow (yNadd (rN (opR cs ct cf s k w n0 a0 b0 nv i)) (nat_lit 1)) (nat_lit 16) = true → (yAnd (goalOpR_2 cs ct cf cl cp s) (yAnd (yLe (0 : Int) (yInt j)) (yLt (yInt j) cf)) = true → (yNeq (yNadd (rN (opR cs ct cf s k w n0 a0 b0 nv i)) (nat_lit 1)) (yNadd (rN (opR cs ct cf s k w n0 a0 b0 nv i)) (nat_lit 1)) = true → (yGrow (goalOpR_1 cs ct cf s k w n0 a0 b0 nv i) (nat_lit 16) = true → rE L = yAnd (goalOpR_13 cs ct cf s k w n0 a0 b0 nv i) (yNeq (nat_lit 1) (nat_lit 0)) ∧ nat_lit 0 = nat_lit 0 ∧ rN L = yNadd (yNadd (rN (opR cs ct cf s k w n0 a0 b0 nv i)) (nat_lit 1)) (nat_lit 1) ∧ rN L = yNadd (yNadd (rN (opR cs ct cf s k w n0 a0 b0 nv i)) (nat_lit 1)) (nat_lit 1) ∧ (∀ (i_1 : Nat), Nat.succ i_1 ≤ rN L → rA L i_1 = ySel (goalOpR_5 i_1 cs ct cf s k w n0 a0 b0 nv i) (ySel (yNlt i_1 (rN (opR cs ct cf s k w n0 a0 b0 nv i))) (rA (opR cs ct cf s k w n0 a0 b0 nv i) i_1) (keyC cs ct cf s (yWrap IntKind.i64 (ySub (yInt j) (1 : Int))))) (valC cs ct cf s (yInt j)) ∧ rB L i_1 = ySel (goalOpR_5 i_1 cs ct cf s k w n0 a0 b0 nv i) (ySel (yNlt i_1 (rN (opR cs ct cf s k w n0 a0 b0 nv i))) (rB (opR cs ct cf s k w n0 a0 b0 nv i) i_1) key) val ∧ True) ∧ true = true) ∧ (yGrow (goalOpR_1 cs ct cf s k w n0 a0 b0 nv i) (nat_lit 16) = false → False)) ∧ (goalOpR_6 cs ct cf s k w n0 a0 b0 nv i)) ∧ (yAnd (goalOpR_2 cs ct cf cl cp s) (yAnd (yLe (0 : Int) (yInt j)) (yLt (yInt j) cf)) = false → False)) ∧ (goalOpR_14 cs ct cf s k w n0 a0 b0 nv i)) ∧ (goalOpR_12 cs ct cf s k w n0 a0 b0 nv i)) ∧ (yAnd (goalOpR_2 cs ct cf cl cp s) (yAnd (yLe (0 : Int) (yWrap IntKind.i64 (ySub (yInt j) (1 : Int)))) (yLt (yWrap IntKind.i64 (ySub (yInt j) (1 : Int))) cf)) = false → False)) ∧ (yLt (0 : Int) (yInt j) = false → (yAnd (goalOpR_2 cs ct cf cl cp s) (yAnd (yLe (0 : Int) (yInt j)) (yLt (yInt j) cf)) = true → (yNeq (rN (opR cs ct cf s k w n0 a0 b0 nv i)) (rN (opR cs ct cf s k w n0 a0 b0 nv i)) = true → (yGrow (yNadd (rN (opR cs ct cf s k w n0 a0 b0 nv i)) (nat_lit 1)) (nat_lit 16) = true → rE L = yAnd (rE (opR cs ct cf s k w n0 a0 b0 nv i)) (yNeq (nat_lit 1) (nat_lit 0)) ∧ nat_lit 0 = nat_lit 0 ∧ rN L = yNadd (rN (opR cs ct cf s k w n0 a0 b0 nv i)) (nat_lit 1) ∧ rN L = yNadd (rN (opR cs ct cf s k w n0 a0 b0 nv i)) (nat_lit 1) ∧ (∀ (i_1 : Nat), Nat.succ i_1 ≤ rN L → rA L i_1 = ySel (yNlt i_1 (rN (opR cs ct cf s k w n0 a0 b0 nv i))) (rA (opR cs ct cf s k w n0 a0 b0 nv i) i_1) (valC cs ct cf s (yInt j)) ∧ rB L i_1 = ySel (yNlt i_1 (rN (opR cs ct cf s k w n0 a0 b0 nv i))) (rB (opR cs ct cf s k w n0 a0 b0 nv i) i_1) val ∧ True) ∧ true = true) ∧ (goalOpR_14 cs ct cf s k w n0 a0 b0 nv i)) ∧ (goalOpR_12 cs ct cf s k w n0 a0 b0 nv i)) ∧ (yAnd (goalOpR_2 cs ct cf cl cp s) (yAnd (yLe (0 : Int) (yInt j)) (yLt (yInt j) cf)) = false → False))))))
set_option maxRecDepth 100000 in
theorem goalOpR_eq : goalOpR = goalOpRV := by kernel_rfl
set_option maxRecDepth 100000 in
set_option maxHeartbeats 8000000 in
theorem goalOpR_vc : goalOpRV := by
  unfold goalOpRV goalOpR_17 goalOpR_15 goalOpR_9 goalOpR_8 goalOpR_7 goalOpR_0 goalOpR_6 goalOpR_5 goalOpR_3 goalOpR_16 goalOpR_4 goalOpR_2 goalOpR_14 goalOpR_13 goalOpR_12 goalOpR_11 goalOpR_10 goalOpR_1
  intro cs ct cf cl cp s v kn k vn nv w l nil0 n0 a0 b0 j key val L hr hnv hn0 hj h0 hs hf hL
  simp only [yNle_t, yIff_t, yAnd_t, yLe_t, yLt_t, yInt_e] at hnv hn0 hj h0 hs hf
  obtain ⟨z1, z2, z3⟩ := opR_zero (cs := cs) (ct := ct) (cf := cf) (s := s) (k := k) (w := w) (n0 := n0) (a0 := a0) (b0 := b0) (n := nv) h0
  have hlen := fun d => opR_len (cs := cs) (ct := ct) (cf := cf) (s := s) (k := k) (w := w) (n0 := n0) (a0 := a0) (b0 := b0) (n := nv) d
  have e0 : yWrap .i64 ((nv : Int) + 1) = (nv : Int) + 1 := wrap64 (by omega) (by omega)
  simp only [yNot_t, yNot_f, yEq_t, yEq_f, yAnd_t, yAnd_f, yLt_t, yLt_f, yLe_t, yLe_f, yIn_t, yIn_f, yNlt_t, yNlt_f, yNeq_t, yNeq_f, yGrow_t, yGrow_f, yInt_e, yNadd_e, yNsub_e, yAdd_e, ySub_e, true_and, and_true, Nat.zero_add, forall_const, Bool.true_eq_false, Bool.false_eq_true, false_implies, hr, msFit, prOp, e0, false_or]
  refine ⟨fun hjn => ?_, fun hjn => ⟨⟨0, by omega, z1, z2, rfl, z2, z3⟩, fun _ i hi => ?_⟩⟩
  · have hj2 : j = nv := by omega
    have hL2 : L = opR cs ct cf s k w n0 a0 b0 nv 0 ++ [(keyC cs ct cf s nv, key)] ++ [(valC cs ct cf s nv, val)] ++ [(shapeC cs ct cf s, packC false ((nv : Int) + 1))] := by
      rw [hL]; unfold opL; rw [if_pos hj2]; simp [opR, layL]
    clear hL
    subst hL2
    clear hlen
    generalize opR cs ct cf s k w n0 a0 b0 nv 0 = B at z1 z2 z3 ⊢
    repeat' (first | apply And.intro | intro _)
    all_goals first
      | omega
      | (rw [rE_snoc, yAnd10]; done)
      | (rw [rN_snoc, rN_snoc, rN_snoc, z2]; done)
      | (rename_i q hq
         rw [rN_snoc, rN_snoc, rN_snoc] at hq
         first
           | (rw [rA_snoc3 _ _ _ _ hq, z2]
              rw [sel_old (a := a0 q) (b := rA B q) (fun h => ((z3 q (by omega)).1).symm)]; done)
           | (rw [rB_snoc3 _ _ _ _ hq, z2]
              rw [sel_old (a := b0 q) (b := rB B q) (fun h => ((z3 q (by omega)).2).symm)]; done))
  · have hln := hlen i
    have e1 : yWrap .i64 (((nv - i : Nat) : Int) - 1) = ((nv - i : Nat) : Int) - 1 := wrap64 (by omega) (by omega)
    simp only [e1]
    refine ⟨fun hlt => ?_, fun hge => ?_⟩
    · have hk1 : yNat (((nv - i : Nat) : Int) - 1) = nv - i - 1 := by unfold yNat; omega
      simp only [hk1]
      by_cases hi0 : i = 0
      · subst hi0
        have hst := opR_one (cs := cs) (ct := ct) (cf := cf) (s := s) (k := k) (w := w) (n0 := n0) (a0 := a0) (b0 := b0) (n := nv)
        repeat' (first | apply And.intro | intro _)
        all_goals first
          | omega
          | (refine ⟨1, by omega, by omega, ?_⟩
             rw [hst]
             refine ⟨by rw [rE_snoc, yAnd10], by rw [rN_snoc, rN_snoc, rN_snoc], by omega, by rw [rN_snoc, rN_snoc, rN_snoc], fun q hq => ?_⟩
             rw [rN_snoc, rN_snoc, rN_snoc] at hq
             exact ⟨rA_snoc3 _ _ _ _ hq, rB_snoc3 _ _ _ _ hq⟩)
      · have hst := opR_step (cs := cs) (ct := ct) (cf := cf) (s := s) (k := k) (w := w) (n0 := n0) (a0 := a0) (b0 := b0) (n := nv) (d := i) (by omega)
        repeat' (first | apply And.intro | intro _)
        all_goals first
          | omega
          | (refine ⟨i + 1, by omega, by omega, ?_⟩
             rw [hst]
             refine ⟨by rw [rE_snoc, yAnd10], by rw [rN_snoc, rN_snoc], by omega, by rw [rN_snoc, rN_snoc], fun q hq => ?_⟩
             rw [rN_snoc, rN_snoc] at hq
             exact ⟨rA_snoc2 _ _ _ hq, rB_snoc2 _ _ _ hq⟩)
    · have hi1 : i = nv - j := by omega
      have hL2 : L = opR cs ct cf s k w n0 a0 b0 nv i ++ [(keyC cs ct cf s j, key)] ++ [(valC cs ct cf s j, val)] := by
        rw [hL]; unfold opL; rw [if_neg (by omega)]
        obtain ⟨e, he⟩ : ∃ e, i = e + 1 := ⟨i - 1, by omega⟩
        rw [he, show nv - 1 - j = e by omega]
        simp [opR, layL]
      clear hL
      subst hL2
      repeat' (first | apply And.intro | intro _)
      all_goals first
        | omega
        | (rw [rE_snoc, yAnd10]; done)
        | (rw [rN_snoc, rN_snoc]; done)
        | (rename_i hq; rw [rN_snoc, rN_snoc] at hq; first | exact rA_snoc2 _ _ _ hq | exact rB_snoc2 _ _ _ hq)
set_option maxRecDepth 100000 in
theorem goalOpR_tt : (goalOpR) = True := goalOpR_eq.trans (eq_true goalOpR_vc)
theorem goalOpR_ok : goalOpR := @ft' goalOpR goalOpR_tt
end Go.Proofs.YtlfehgagnelbhaaGreatDoor.Ex
