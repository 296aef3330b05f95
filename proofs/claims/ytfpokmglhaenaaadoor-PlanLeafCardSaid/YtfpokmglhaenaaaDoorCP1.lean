/- Contracts: a shape, packed. Contracts: version words renewed, handles made; a part's handle, and its handle begun anew. Contracts: a leaf closed at an entry, as the pen writes it. (under way) -/
import Derived.Test.YtfpokmglhaenaaaDoorCShr
namespace Go.Proofs.YtfpokmglhaenaaaDoor.Ex
open Go

-- OPEN packC
def packC (b : Bool) (n : Int) : Int := (if 0 ≤ n ∧ n ≤ 255 then n * 2 else 0) + (if b then 1 else 0)
abbrev gPk : List Ag := [.cell none, .cell none]
abbrev dPk (b : Bool) (n : Int) : List Da := [.cell (.v (.yb b)), .cell (.v (.y .i64 n))]
def fPk (ds : List Da) : Option (Bool × AV) :=
  match ds with
  | [.cell (.v (.yb b)), .cell (.v (.y .i64 n))] => some (true, .y .u64 (packC b n))
  | _ => none
def gPkgoal (P : Program) (f : FuncId) : Prop := ∀ (b : Bool) (n : Int), wxF P noSm (fun _ => none) 1000 f (canA gPk (dPk b n) []).1 (heapOf (canA gPk (dPk b n) []).2) (fun v _ => cmpC (.y .u64 (packC b n)) v)
def goalPack : Prop := gPkgoal Tryd.prog 128
def goalPackR : Prop := gPkgoal Tryd.prog 131
theorem or_one : ∀ m, m < 256 → (m * 2 ||| 1) = m * 2 + 1 := by decide +kernel
theorem pack_put {m : Nat} (h : m < 256) : yBits .or .u64 0 (yBits .and .u64 (yShl .u64 (m : Int) 1) 510) = ((m * 2 : Nat) : Int) := by
  have e2 : yShl .u64 (m : Int) 1 = ((m * 2 % 18446744073709551616 : Nat) : Int) := shl_u (n := 1) (by omega)
  rw [e2]
  have h1 : yBits .or .u64 (yBits .andNot .u64 ((0 : Nat) : Int) 510) (yBits .and .u64 ((m * 2 % 18446744073709551616 : Nat) : Int) 510) = ((512 * (0 / 512) + (2 * (m % 256) + 0 % 2) : Nat) : Int) := field_put (w := 0) (v := m) (at_ := 1) (n := 8) (by omega) (by omega) (by omega) rfl rfl
  have h0 : yBits .andNot .u64 ((0 : Nat) : Int) 510 = 0 := by decide +kernel
  rw [h0] at h1
  rw [h1]; congr 1; omega
theorem pack_one {m : Nat} (h : m < 256) : yBits .or .u64 ((m * 2 : Nat) : Int) 1 = ((m * 2 + 1 : Nat) : Int) := by
  have h1 : yBits .or .u64 ((m * 2 : Nat) : Int) ((1 : Nat) : Int) = ((m * 2 ||| 1 : Nat) : Int) := bits_or (by omega) (by omega)
  rw [or_one m h] at h1
  exact h1
def goalPackV : Prop := (∀ (b : Bool) (n : Int), (yLe (0 : Int) n = true → (yNot (yLt n (256 : Int)) = true → (b = true → packC b n = (1 : Int)) ∧ (b = false → packC b n = (0 : Int))) ∧ (yNot (yLt n (256 : Int)) = false → (yLe (0 : Int) (1 : Int) = true → (b = true → packC b n = yBits BinOp.or IntKind.u64 (yBits BinOp.or IntKind.u64 (0 : Int) (yBits BinOp.and IntKind.u64 (yShl IntKind.u64 (yWrap IntKind.u64 n) (1 : Int)) (510 : Int))) (1 : Int)) ∧ (b = false → packC b n = yBits BinOp.or IntKind.u64 (0 : Int) (yBits BinOp.and IntKind.u64 (yShl IntKind.u64 (yWrap IntKind.u64 n) (1 : Int)) (510 : Int)))) ∧ (yLe (0 : Int) (1 : Int) = false → False))) ∧ (yLe (0 : Int) n = false → (b = true → packC b n = (1 : Int)) ∧ (b = false → packC b n = (0 : Int))))
set_option maxRecDepth 100000 in
theorem goalPack_eq : goalPack = goalPackV := by kernel_rfl
set_option maxRecDepth 100000 in
theorem goalPack_vc : goalPackV := by
  unfold goalPackV
  intro b n
  by_cases hn : 0 ≤ n ∧ n ≤ 255
  · obtain ⟨m, rfl⟩ : ∃ m : Nat, n = (m : Int) := ⟨n.toNat, by omega⟩
    rw [yWrapN (n := m) (by omega), pack_put (m := m) (by omega), pack_one (m := m) (by omega)]
    unfold packC
    rw [if_pos hn]
    simp only [yLe_t, yLe_f, yLt_t, yLt_f, yNot_t, yNot_f]
    cases b
    all_goals repeat' (first | apply And.intro | intro _)
    all_goals first
      | contradiction
      | (exfalso; omega)
      | (simp only [if_true, if_false, Bool.false_eq_true]; done)
      | (simp only [if_true, if_false, Bool.false_eq_true]; omega)
  · unfold packC
    rw [if_neg hn]
    simp only [yLe_t, yLe_f, yLt_t, yLt_f, yNot_t, yNot_f]
    cases b
    all_goals repeat' (first | apply And.intro | intro _)
    all_goals first
      | contradiction
      | (exfalso; omega)
      | rfl
set_option maxRecDepth 100000 in
theorem goalPack_tt : (goalPack) = True := goalPack_eq.trans (eq_true goalPack_vc)
theorem goalPack_ok : goalPack := @ft' goalPack goalPack_tt
def goalPackRV : Prop := (∀ (b : Bool) (n : Int), (yLt n (0 : Int) = true → (b = true → packC b n = (1 : Int)) ∧ (b = false → packC b n = (0 : Int))) ∧ (yLt n (0 : Int) = false → (yLt (255 : Int) n = true → (b = true → packC b n = (1 : Int)) ∧ (b = false → packC b n = (0 : Int))) ∧ (yLt (255 : Int) n = false → (b = true → packC b n = yWrap IntKind.u64 (yAdd (yWrap IntKind.u64 (yMul (yWrap IntKind.u64 n) (2 : Int))) (1 : Int))) ∧ (b = false → packC b n = yWrap IntKind.u64 (yMul (yWrap IntKind.u64 n) (2 : Int))))))
set_option maxRecDepth 100000 in
theorem goalPackR_eq : goalPackR = goalPackRV := by kernel_rfl
set_option maxRecDepth 100000 in
theorem goalPackR_vc : goalPackRV := by
  unfold goalPackRV
  intro b n
  by_cases hn : 0 ≤ n ∧ n ≤ 255
  · simp only [yLt_t, yLt_f, yAdd_e, yMul_e]
    rw [wrapU64 (n := n) (by omega) (by omega), wrapU64 (n := n * 2) (by omega) (by omega), wrapU64 (n := n * 2 + 1) (by omega) (by omega)]
    unfold packC
    rw [if_pos hn]
    cases b
    all_goals repeat' (first | apply And.intro | intro _)
    all_goals first
      | contradiction
      | (exfalso; omega)
      | (simp only [if_true, if_false, Bool.false_eq_true]; done)
      | (simp only [if_true, if_false, Bool.false_eq_true]; omega)
  · unfold packC
    rw [if_neg hn]
    simp only [yLt_t, yLt_f]
    cases b
    all_goals repeat' (first | apply And.intro | intro _)
    all_goals first
      | contradiction
      | (exfalso; omega)
      | rfl
set_option maxRecDepth 100000 in
theorem goalPackR_tt : (goalPackR) = True := goalPackR_eq.trans (eq_true goalPackR_vc)
theorem goalPackR_ok : goalPackR := @ft' goalPackR goalPackR_tt
end Go.Proofs.YtfpokmglhaenaaaDoor.Ex
namespace Go.Proofs.YtfpokmglhaenaaaDoor.Ex
open Go

-- OPEN renewC genC makeC handC freshC
def renewC (v : Int) : Int := (v / 1099511627776 + 1) % 16777216 * 1099511627776 + (v / 4 + 1) % 274877906944 * 4 + 1
def genC (v : Int) : Int := v / 1099511627776
def makeC (g s : Int) : Int := if 1 ≤ s ∧ s ≤ 65535 then g % 16777216 * 65536 + s else 0
def handC (s v : Int) : Int := makeC (genC v) s
def freshC (s v : Int) : Int := makeC (genC (renewC v)) s
def goalRenew : Prop := gWgoal Tryd.prog 80 renewC
def goalRenewR : Prop := gWgoal Tryd.prog 81 renewC
def goalGen : Prop := gWgoal Tryd.prog 77 genC
abbrev gMk : List Ag := [.cell none, .cell none]
abbrev dMk (g s : Int) : List Da := [.cell (.v (.y .u64 g)), .cell (.v (.y .i64 s))]
def fMk (ds : List Da) : Option (Bool × AV) :=
  match ds with
  | [.cell (.v (.y .u64 g)), .cell (.v (.y .i64 s))] => some (inU g, .y .u64 (makeC g s))
  | _ => none
def gMkgoal (P : Program) (f : FuncId) : Prop := ∀ (g s : Int), inU g = true → wxF P noSm (fun _ => none) 1000 f (canA gMk (dMk g s) []).1 (heapOf (canA gMk (dMk g s) []).2) (fun v _ => cmpC (.y .u64 (makeC g s)) v)
def goalMk : Prop := gMkgoal Tryd.prog 76
def goalMkR : Prop := gMkgoal Tryd.prog 78
abbrev gPart : List Ag := [.agg [none, none, none, cU, cU, none]]
abbrev dPart (s v : Int) (i kn : Bool) (nk : Nat) (k : Nat → Int) (vn : Bool) (nv : Nat) (w : Nat → Int) (l : Int) : List Da := [.agg [.v (.y .i64 s), .v (.y .u64 v), .v (.yb i), .rows kn nk [.int .u64 k], .rows vn nv [.int .u64 w], .v (.y .u64 l)]]
def fHan (F : Int → Int → Int) (ds : List Da) : Option (Bool × AV) :=
  match ds with
  | [.agg [.v (.y .i64 s), .v (.y .u64 v), .v (.yb _), .rows _ _ [.int .u64 _], .rows _ _ [.int .u64 _], .v (.y .u64 _)]] => some (inU v, .y .u64 (F s v))
  | _ => none
def lHan : List (Nat × Sm) := [(80, .ct (ctS gW (fW renewC))), (81, .ct (ctS gW (fW renewC))), (77, .ct (ctS gW (fW genC))), (76, .ct (ctS gMk fMk)), (78, .ct (ctS gMk fMk))]
def goalHan (P : Program) (f : FuncId) (F : Int → Int → Int) : Prop := ∀ (s v : Int) (i kn : Bool) (nk : Nat) (k : Nat → Int) (vn : Bool) (nv : Nat) (w : Nat → Int) (l : Int), inU v = true → inU (renewC v) = true → inU (genC v) = true → inU (genC (renewC v)) = true →
  wxF P (smL lHan) (fun _ => none) 1000 f (canA gPart (dPart s v i kn nk k vn nv w l) []).1 (heapOf (canA gPart (dPart s v i kn nk k vn nv w l) []).2) (fun r _ => cmpC (.y .u64 (F s v)) r)
def goalHand : Prop := goalHan Tryd.prog 29 handC
def goalFresh : Prop := goalHan Tryd.prog 31 freshC
def goalHandR : Prop := goalHan Tryd.prog 30 handC
def goalFreshR : Prop := goalHan Tryd.prog 32 freshC
theorem lockB {w : Nat} (hw : w < 18446744073709551616) : yBits .or .u64 (yBits .andNot .u64 (w : Int) 1) 1 = ((w / 2 * 2 + 1 : Nat) : Int) := by
  have := field_put' (at_ := 0) (n := 1) (v := 1) (M := 1) (S := 1) (R := 1) hw (by omega) (by omega) rfl rfl (by decide +kernel)
  rw [this]; congr 1
  show 2 * (w / 2) + (1 * 1 + w % 1) = _
  omega
theorem undead {w : Nat} (hw : w < 18446744073709551616) : yBits .or .u64 (yBits .andNot .u64 (w : Int) 2) 0 = ((w / 4 * 4 + w % 2 : Nat) : Int) := by
  have := field_put' (at_ := 1) (n := 1) (v := 0) (M := 2) (S := 0) (R := 0) hw (by omega) (by omega) rfl rfl (by decide +kernel)
  rw [this]; congr 1
  show 4 * (w / 4) + (2 * 0 + w % 2) = _
  omega
theorem genGet {w : Nat} (hw : w < 18446744073709551616) : yBits .and .u64 (yShr .u64 (w : Int) 40) 16777215 = ((w / 1099511627776 : Nat) : Int) := by
  have h : yBits .and .u64 (yShr .u64 (w : Int) 40) 16777215 = ((w / 1099511627776 % 16777216 : Nat) : Int) := field_get (at_ := 40) (n := 24) hw (by omega) (by omega) rfl
  rw [h, Nat.mod_eq_of_lt (by omega)]
theorem genPut {w v : Nat} (hw : w < 18446744073709551616) (hv : v < 18446744073709551616) : yBits .or .u64 (yBits .andNot .u64 (w : Int) 18446742974197923840) (yBits .and .u64 (yShl .u64 (v : Int) 40) 18446742974197923840) = ((1099511627776 * (v % 16777216) + w % 1099511627776 : Nat) : Int) := by
  have e2 : yShl .u64 (v : Int) 40 = ((v * 1099511627776 % 18446744073709551616 : Nat) : Int) := shl_u (n := 40) (by omega)
  rw [e2]
  have h : yBits .or .u64 (yBits .andNot .u64 (w : Int) 18446742974197923840) (yBits .and .u64 ((v * 1099511627776 % 18446744073709551616 : Nat) : Int) 18446742974197923840) = ((18446744073709551616 * (w / 18446744073709551616) + (1099511627776 * (v % 16777216) + w % 1099511627776) : Nat) : Int) := field_put (at_ := 40) (n := 24) hw hv (by omega) rfl rfl
  rw [h]; congr 1; omega
theorem slotPut {w v : Nat} (hw : w < 65536) (hv : v < 18446744073709551616) : yBits .or .u64 (yBits .andNot .u64 (w : Int) 1099511562240) (yBits .and .u64 (yShl .u64 (v : Int) 16) 1099511562240) = ((65536 * (v % 16777216) + w : Nat) : Int) := by
  have e2 : yShl .u64 (v : Int) 16 = ((v * 65536 % 18446744073709551616 : Nat) : Int) := shl_u (n := 16) (by omega)
  rw [e2]
  have h : yBits .or .u64 (yBits .andNot .u64 (w : Int) 1099511562240) (yBits .and .u64 ((v * 65536 % 18446744073709551616 : Nat) : Int) 1099511562240) = ((1099511627776 * (w / 1099511627776) + (65536 * (v % 16777216) + w % 65536) : Nat) : Int) := field_put (at_ := 16) (n := 24) (by omega) hv (by omega) rfl rfl
  rw [h]; congr 1; omega
def goalRenewV : Prop := (∀ (w : Int), yAnd (yLe (0 : Int) w) (yLt w (18446744073709551616 : Int)) = true → (yLe (0 : Int) (2 : Int) = true → (yLe (0 : Int) (2 : Int) = true → (yLe (0 : Int) (40 : Int) = true → (yLe (0 : Int) (40 : Int) = true → renewC w = yBits BinOp.or IntKind.u64 (yBits BinOp.andNot IntKind.u64 (yBits BinOp.or IntKind.u64 (yBits BinOp.andNot IntKind.u64 (yBits BinOp.or IntKind.u64 (yBits BinOp.andNot IntKind.u64 (yBits BinOp.or IntKind.u64 (yBits BinOp.andNot IntKind.u64 w (1099511627772 : Int)) (yBits BinOp.and IntKind.u64 (yShl IntKind.u64 (yWrap IntKind.u64 (yAdd (yBits BinOp.and IntKind.u64 (yShr IntKind.u64 w (2 : Int)) (274877906943 : Int)) (1 : Int))) (2 : Int)) (1099511627772 : Int))) (1 : Int)) (1 : Int)) (2 : Int)) (0 : Int)) (18446742974197923840 : Int)) (yBits BinOp.and IntKind.u64 (yShl IntKind.u64 (yWrap IntKind.u64 (yAdd (yBits BinOp.and IntKind.u64 (yShr IntKind.u64 (yBits BinOp.or IntKind.u64 (yBits BinOp.andNot IntKind.u64 (yBits BinOp.or IntKind.u64 (yBits BinOp.andNot IntKind.u64 w (1099511627772 : Int)) (yBits BinOp.and IntKind.u64 (yShl IntKind.u64 (yWrap IntKind.u64 (yAdd (yBits BinOp.and IntKind.u64 (yShr IntKind.u64 w (2 : Int)) (274877906943 : Int)) (1 : Int))) (2 : Int)) (1099511627772 : Int))) (1 : Int)) (1 : Int)) (40 : Int)) (16777215 : Int)) (1 : Int))) (40 : Int)) (18446742974197923840 : Int))) ∧ (yLe (0 : Int) (40 : Int) = false → False)) ∧ (yLe (0 : Int) (40 : Int) = false → False)) ∧ (yLe (0 : Int) (2 : Int) = false → False)) ∧ (yLe (0 : Int) (2 : Int) = false → False))
set_option maxRecDepth 100000 in
theorem goalRenew_eq : goalRenew = goalRenewV := by kernel_rfl
set_option maxRecDepth 100000 in
set_option maxHeartbeats 4000000 in
theorem goalRenew_vc : goalRenewV := by
  unfold goalRenewV
  intro w h
  obtain ⟨n, rfl, hn⟩ := inU_nat h
  have e1 := counted hn
  generalize hA : 1099511627776 * (n / 1099511627776) + (4 * ((n / 4 % 274877906944 + 1) % 274877906944) + n % 4) = A at e1
  have hA2 : A < 18446744073709551616 := by omega
  have e2 := lockB hA2
  have e3 := undead (w := A / 2 * 2 + 1) (by omega)
  have e4 := genGet (w := A / 2 * 2 + 1) (by omega)
  have e5 : yWrap .u64 (yAdd (((A / 2 * 2 + 1) / 1099511627776 : Nat) : Int) 1) = (((A / 2 * 2 + 1) / 1099511627776 + 1 : Nat) : Int) := yWrapN (n := (A / 2 * 2 + 1) / 1099511627776 + 1) (by omega)
  have e6 := genPut (w := (A / 2 * 2 + 1) / 4 * 4 + (A / 2 * 2 + 1) % 2) (v := (A / 2 * 2 + 1) / 1099511627776 + 1) (by omega) (by omega)
  rw [e1, e2, e3, e4, e5, e6]
  have hf : renewC (n : Int) = ((1099511627776 * (((A / 2 * 2 + 1) / 1099511627776 + 1) % 16777216) + ((A / 2 * 2 + 1) / 4 * 4 + (A / 2 * 2 + 1) % 2) % 1099511627776 : Nat) : Int) := by unfold renewC; omega
  repeat' (first | apply And.intro | intro _)
  all_goals first
    | exact hf
    | (rename_i h; cases h)
set_option maxRecDepth 100000 in
theorem goalRenew_tt : (goalRenew) = True := goalRenew_eq.trans (eq_true goalRenew_vc)
theorem goalRenew_ok : goalRenew := @ft' goalRenew goalRenew_tt
def goalGenV : Prop := (∀ (w : Int), yAnd (yLe (0 : Int) w) (yLt w (18446744073709551616 : Int)) = true → (yLe (0 : Int) (40 : Int) = true → genC w = yBits BinOp.and IntKind.u64 (yShr IntKind.u64 w (40 : Int)) (16777215 : Int)) ∧ (yLe (0 : Int) (40 : Int) = false → False))
set_option maxRecDepth 100000 in
theorem goalGen_eq : goalGen = goalGenV := by kernel_rfl
set_option maxRecDepth 100000 in
set_option maxHeartbeats 4000000 in
theorem goalGen_vc : goalGenV := by
  unfold goalGenV
  intro w h
  obtain ⟨n, rfl, hn⟩ := inU_nat h
  rw [genGet hn]
  have hf : genC (n : Int) = ((n / 1099511627776 : Nat) : Int) := by unfold genC; omega
  repeat' (first | apply And.intro | intro _)
  all_goals first
    | exact hf
    | (rename_i h; cases h)
set_option maxRecDepth 100000 in
theorem goalGen_tt : (goalGen) = True := goalGen_eq.trans (eq_true goalGen_vc)
theorem goalGen_ok : goalGen := @ft' goalGen goalGen_tt
def goalMkV : Prop := (∀ (g s : Int), yAnd (yLe (0 : Int) g) (yLt g (18446744073709551616 : Int)) = true → (yLt s (1 : Int) = true → makeC g s = (0 : Int)) ∧ (yLt s (1 : Int) = false → (yLt (65535 : Int) s = true → makeC g s = (0 : Int)) ∧ (yLt (65535 : Int) s = false → (yLe (0 : Int) (16 : Int) = true → makeC g s = yBits BinOp.or IntKind.u64 (yBits BinOp.andNot IntKind.u64 (yWrap IntKind.u64 s) (1099511562240 : Int)) (yBits BinOp.and IntKind.u64 (yShl IntKind.u64 g (16 : Int)) (1099511562240 : Int))) ∧ (yLe (0 : Int) (16 : Int) = false → False))))
set_option maxRecDepth 100000 in
theorem goalMk_eq : goalMk = goalMkV := by kernel_rfl
set_option maxRecDepth 100000 in
set_option maxHeartbeats 4000000 in
theorem goalMk_vc : goalMkV := by
  unfold goalMkV
  intro g s h
  obtain ⟨n, rfl, hn⟩ := inU_nat h
  by_cases hs : 1 ≤ s ∧ s ≤ 65535
  · obtain ⟨m, rfl⟩ : ∃ m : Nat, s = (m : Int) := ⟨s.toNat, by omega⟩
    rw [yWrapN (n := m) (by omega), slotPut (w := m) (by omega) hn]
    have hf : makeC (n : Int) (m : Int) = ((65536 * (n % 16777216) + m : Nat) : Int) := by unfold makeC; rw [if_pos hs]; omega
    simp only [yLt_t, yLt_f, yLe_t, yLe_f]
    repeat' (first | apply And.intro | intro _)
    all_goals first
      | exact hf
      | (exfalso; omega)
  · have hf : makeC (n : Int) s = 0 := by unfold makeC; rw [if_neg hs]
    simp only [yLt_t, yLt_f, yLe_t, yLe_f]
    repeat' (first | apply And.intro | intro _)
    all_goals first
      | exact hf
      | (exfalso; omega)
set_option maxRecDepth 100000 in
theorem goalMk_tt : (goalMk) = True := goalMk_eq.trans (eq_true goalMk_vc)
theorem goalMk_ok : goalMk := @ft' goalMk goalMk_tt
def goalMkRV : Prop := (∀ (g s : Int), yAnd (yLe (0 : Int) g) (yLt g (18446744073709551616 : Int)) = true → (yLt s (1 : Int) = true → makeC g s = (0 : Int)) ∧ (yLt s (1 : Int) = false → (yLt (65535 : Int) s = true → makeC g s = (0 : Int)) ∧ (yLt (65535 : Int) s = false → (yEq (16777216 : Int) (0 : Int) = true → False) ∧ (yEq (16777216 : Int) (0 : Int) = false → makeC g s = yWrap IntKind.u64 (yAdd (yWrap IntKind.u64 (yMul (yRem g (16777216 : Int)) (65536 : Int))) (yWrap IntKind.u64 s))))))
set_option maxRecDepth 100000 in
theorem goalMkR_eq : goalMkR = goalMkRV := by kernel_rfl
set_option maxRecDepth 100000 in
set_option maxHeartbeats 4000000 in
theorem goalMkR_vc : goalMkRV := by
  unfold goalMkRV
  intro g s h
  obtain ⟨n, rfl, hn⟩ := inU_nat h
  have a1 : yRem (n : Int) 16777216 = ((n % 16777216 : Nat) : Int) := rem_u (c := 16777216)
  rw [a1]
  by_cases hs : 1 ≤ s ∧ s ≤ 65535
  · simp only [yEq_t, yEq_f, yLt_t, yLt_f, yAdd_e, yMul_e]
    rw [wrapU64 (n := s) (by omega) (by omega), wrapU64 (n := ((n % 16777216 : Nat) : Int) * 65536) (by omega) (by omega), wrapU64 (by omega) (by omega)]
    have hf : makeC (n : Int) s = ((n % 16777216 : Nat) : Int) * 65536 + s := by unfold makeC; rw [if_pos hs]; omega
    repeat' (first | apply And.intro | intro _)
    all_goals first
      | exact hf
      | (exfalso; omega)
  · have hf : makeC (n : Int) s = 0 := by unfold makeC; rw [if_neg hs]
    simp only [yEq_t, yEq_f, yLt_t, yLt_f, yAdd_e, yMul_e]
    repeat' (first | apply And.intro | intro _)
    all_goals first
      | exact hf
      | (exfalso; omega)
set_option maxRecDepth 100000 in
theorem goalMkR_tt : (goalMkR) = True := goalMkR_eq.trans (eq_true goalMkR_vc)
theorem goalMkR_ok : goalMkR := @ft' goalMkR goalMkR_tt
def goalRenewRV : Prop := (∀ (w : Int), yAnd (yLe (0 : Int) w) (yLt w (18446744073709551616 : Int)) = true → (yEq (2 : Int) (0 : Int) = true → False) ∧ (yEq (2 : Int) (0 : Int) = false → (yEq (2 : Int) (0 : Int) = true → False) ∧ (yEq (2 : Int) (0 : Int) = false → (yEq (2 : Int) (0 : Int) = true → False) ∧ (yEq (2 : Int) (0 : Int) = false → (yEq (4 : Int) (0 : Int) = true → False) ∧ (yEq (4 : Int) (0 : Int) = false → (yEq (274877906944 : Int) (0 : Int) = true → False) ∧ (yEq (274877906944 : Int) (0 : Int) = false → (yEq (1099511627776 : Int) (0 : Int) = true → False) ∧ (yEq (1099511627776 : Int) (0 : Int) = false → (yEq (16777216 : Int) (0 : Int) = true → False) ∧ (yEq (16777216 : Int) (0 : Int) = false → (yEq (274877906944 : Int) (0 : Int) = true → False) ∧ (yEq (274877906944 : Int) (0 : Int) = false → renewC w = yWrap IntKind.u64 (yAdd (yWrap IntKind.u64 (yAdd (yWrap IntKind.u64 (yMul (yRem (yWrap IntKind.u64 (yAdd (yQuo IntKind.u64 w (1099511627776 : Int)) (1 : Int))) (16777216 : Int)) (1099511627776 : Int))) (yWrap IntKind.u64 (yMul (yRem (yWrap IntKind.u64 (yAdd (yRem (yQuo IntKind.u64 w (4 : Int)) (274877906944 : Int)) (1 : Int))) (274877906944 : Int)) (4 : Int))))) (1 : Int)))))))))))
set_option maxRecDepth 100000 in
theorem goalRenewR_eq : goalRenewR = goalRenewRV := by kernel_rfl
set_option maxRecDepth 100000 in
set_option maxHeartbeats 4000000 in
theorem goalRenewR_vc : goalRenewRV := by
  unfold goalRenewRV
  intro w h
  obtain ⟨n, rfl, hn⟩ := inU_nat h
  have a2 : yQuo .u64 (n : Int) 4 = ((n / 4 : Nat) : Int) := quo_u (c := 4) hn
  have a3 : yQuo .u64 (n : Int) 1099511627776 = ((n / 1099511627776 : Nat) : Int) := quo_u (c := 1099511627776) hn
  have a5 : yRem ((n / 4 : Nat) : Int) 274877906944 = ((n / 4 % 274877906944 : Nat) : Int) := rem_u (c := 274877906944)
  have a7 : yWrap .u64 (yAdd ((n / 4 % 274877906944 : Nat) : Int) 1) = ((n / 4 % 274877906944 + 1 : Nat) : Int) := yWrapN (n := n / 4 % 274877906944 + 1) (by omega)
  have a8 : yRem ((n / 4 % 274877906944 + 1 : Nat) : Int) 274877906944 = (((n / 4 % 274877906944 + 1) % 274877906944 : Nat) : Int) := rem_u (c := 274877906944)
  have a9 : yWrap .u64 (yAdd ((n / 1099511627776 : Nat) : Int) 1) = ((n / 1099511627776 + 1 : Nat) : Int) := yWrapN (n := n / 1099511627776 + 1) (by omega)
  have a6 : yRem ((n / 1099511627776 + 1 : Nat) : Int) 16777216 = (((n / 1099511627776 + 1) % 16777216 : Nat) : Int) := rem_u (c := 16777216)
  simp only [a2, a3, a5, a6, a7, a8, a9]
  have b1 : yWrap .u64 (yMul (((n / 1099511627776 + 1) % 16777216 : Nat) : Int) 1099511627776) = (((n / 1099511627776 + 1) % 16777216 * 1099511627776 : Nat) : Int) := yWrapN (n := (n / 1099511627776 + 1) % 16777216 * 1099511627776) (by omega)
  have b2 : yWrap .u64 (yMul (((n / 4 % 274877906944 + 1) % 274877906944 : Nat) : Int) 4) = (((n / 4 % 274877906944 + 1) % 274877906944 * 4 : Nat) : Int) := yWrapN (n := (n / 4 % 274877906944 + 1) % 274877906944 * 4) (by omega)
  have b3 : yWrap .u64 (yAdd (((n / 1099511627776 + 1) % 16777216 * 1099511627776 : Nat) : Int) (((n / 4 % 274877906944 + 1) % 274877906944 * 4 : Nat) : Int)) = (((n / 1099511627776 + 1) % 16777216 * 1099511627776 + (n / 4 % 274877906944 + 1) % 274877906944 * 4 : Nat) : Int) := yWrapN (n := (n / 1099511627776 + 1) % 16777216 * 1099511627776 + (n / 4 % 274877906944 + 1) % 274877906944 * 4) (by omega)
  have b4 : yWrap .u64 (yAdd (((n / 1099511627776 + 1) % 16777216 * 1099511627776 + (n / 4 % 274877906944 + 1) % 274877906944 * 4 : Nat) : Int) 1) = (((n / 1099511627776 + 1) % 16777216 * 1099511627776 + (n / 4 % 274877906944 + 1) % 274877906944 * 4 + 1 : Nat) : Int) := yWrapN (n := (n / 1099511627776 + 1) % 16777216 * 1099511627776 + (n / 4 % 274877906944 + 1) % 274877906944 * 4 + 1) (by omega)
  simp only [b1, b2, b3, b4]
  have hf : renewC (n : Int) = (((n / 1099511627776 + 1) % 16777216 * 1099511627776 + (n / 4 % 274877906944 + 1) % 274877906944 * 4 + 1 : Nat) : Int) := by unfold renewC; omega
  simp only [yEq_t, yEq_f]
  repeat' (first | apply And.intro | intro _)
  all_goals first
    | (exfalso; omega)
    | exact hf
set_option maxRecDepth 100000 in
theorem goalRenewR_tt : (goalRenewR) = True := goalRenewR_eq.trans (eq_true goalRenewR_vc)
theorem goalRenewR_ok : goalRenewR := @ft' goalRenewR goalRenewR_tt
theorem quo_gen {v : Int} (h : inU v = true) : yQuo .u64 v 1099511627776 = genC v := by
  obtain ⟨n, rfl, hn⟩ := inU_nat h
  have a3 : yQuo .u64 (n : Int) 1099511627776 = ((n / 1099511627776 : Nat) : Int) := quo_u (c := 1099511627776) hn
  rw [a3]; unfold genC; omega
theorem inU_gen {v : Int} (h : inU v = true) : inU (genC v) = true := by
  obtain ⟨n, rfl, hn⟩ := inU_nat h
  simp only [inU, yAnd_t, yLe_t, yLt_t]; unfold genC; omega
theorem inU_renew {v : Int} (h : inU v = true) : inU (renewC v) = true := by
  obtain ⟨n, rfl, hn⟩ := inU_nat h
  simp only [inU, yAnd_t, yLe_t, yLt_t]; unfold renewC; omega
def goalHandV : Prop := (∀ (s v : Int) (_i _kn : Bool) (_nk : Nat) (_k : Nat → Int) (_vn : Bool) (_nv : Nat) (_w : Nat → Int) (_l : Int), yAnd (yLe (0 : Int) v) (yLt v (18446744073709551616 : Int)) = true → yAnd (yLe (0 : Int) (renewC v)) (yLt (renewC v) (18446744073709551616 : Int)) = true → yAnd (yLe (0 : Int) (genC v)) (yLt (genC v) (18446744073709551616 : Int)) = true → yAnd (yLe (0 : Int) (genC (renewC v))) (yLt (genC (renewC v)) (18446744073709551616 : Int)) = true → (yAnd (yLe (0 : Int) v) (yLt v (18446744073709551616 : Int)) = true → (yAnd (yLe (0 : Int) (genC v)) (yLt (genC v) (18446744073709551616 : Int)) = true → handC s v = makeC (genC v) s) ∧ (yAnd (yLe (0 : Int) (genC v)) (yLt (genC v) (18446744073709551616 : Int)) = false → False)) ∧ (yAnd (yLe (0 : Int) v) (yLt v (18446744073709551616 : Int)) = false → False))
set_option maxRecDepth 100000 in
theorem goalHand_eq : goalHand = goalHandV := by kernel_rfl
set_option maxRecDepth 100000 in
theorem goalHand_vc : goalHandV := by
  unfold goalHandV
  intro s v _ _ _ _ _ _ _ _ h1 h2 h3 h4
  have hf : handC s v = makeC (genC v) s := rfl
  simp only [h1, h2, h3, h4, hf, Bool.true_eq_false, false_implies, true_implies, and_true, true_and]
set_option maxRecDepth 100000 in
theorem goalHand_tt : (goalHand) = True := goalHand_eq.trans (eq_true goalHand_vc)
theorem goalHand_ok : goalHand := @ft' goalHand goalHand_tt
def goalFreshV : Prop := (∀ (s v : Int) (_i _kn : Bool) (_nk : Nat) (_k : Nat → Int) (_vn : Bool) (_nv : Nat) (_w : Nat → Int) (_l : Int), yAnd (yLe (0 : Int) v) (yLt v (18446744073709551616 : Int)) = true → yAnd (yLe (0 : Int) (renewC v)) (yLt (renewC v) (18446744073709551616 : Int)) = true → yAnd (yLe (0 : Int) (genC v)) (yLt (genC v) (18446744073709551616 : Int)) = true → yAnd (yLe (0 : Int) (genC (renewC v))) (yLt (genC (renewC v)) (18446744073709551616 : Int)) = true → (yAnd (yLe (0 : Int) v) (yLt v (18446744073709551616 : Int)) = true → (yAnd (yLe (0 : Int) (renewC v)) (yLt (renewC v) (18446744073709551616 : Int)) = true → (yAnd (yLe (0 : Int) (genC (renewC v))) (yLt (genC (renewC v)) (18446744073709551616 : Int)) = true → freshC s v = makeC (genC (renewC v)) s) ∧ (yAnd (yLe (0 : Int) (genC (renewC v))) (yLt (genC (renewC v)) (18446744073709551616 : Int)) = false → False)) ∧ (yAnd (yLe (0 : Int) (renewC v)) (yLt (renewC v) (18446744073709551616 : Int)) = false → False)) ∧ (yAnd (yLe (0 : Int) v) (yLt v (18446744073709551616 : Int)) = false → False))
set_option maxRecDepth 100000 in
theorem goalFresh_eq : goalFresh = goalFreshV := by kernel_rfl
set_option maxRecDepth 100000 in
theorem goalFresh_vc : goalFreshV := by
  unfold goalFreshV
  intro s v _ _ _ _ _ _ _ _ h1 h2 h3 h4
  have hf : freshC s v = makeC (genC (renewC v)) s := rfl
  simp only [h1, h2, h3, h4, hf, Bool.true_eq_false, false_implies, true_implies, and_true, true_and]
set_option maxRecDepth 100000 in
theorem goalFresh_tt : (goalFresh) = True := goalFresh_eq.trans (eq_true goalFresh_vc)
theorem goalFresh_ok : goalFresh := @ft' goalFresh goalFresh_tt
def goalHandRV : Prop := (∀ (s v : Int) (_i _kn : Bool) (_nk : Nat) (_k : Nat → Int) (_vn : Bool) (_nv : Nat) (_w : Nat → Int) (_l : Int), yAnd (yLe (0 : Int) v) (yLt v (18446744073709551616 : Int)) = true → yAnd (yLe (0 : Int) (renewC v)) (yLt (renewC v) (18446744073709551616 : Int)) = true → yAnd (yLe (0 : Int) (genC v)) (yLt (genC v) (18446744073709551616 : Int)) = true → yAnd (yLe (0 : Int) (genC (renewC v))) (yLt (genC (renewC v)) (18446744073709551616 : Int)) = true → (yEq (2 : Int) (0 : Int) = true → False) ∧ (yEq (2 : Int) (0 : Int) = false → (yEq (2 : Int) (0 : Int) = true → False) ∧ (yEq (2 : Int) (0 : Int) = false → (yEq (2 : Int) (0 : Int) = true → False) ∧ (yEq (2 : Int) (0 : Int) = false → (yEq (4 : Int) (0 : Int) = true → False) ∧ (yEq (4 : Int) (0 : Int) = false → (yEq (274877906944 : Int) (0 : Int) = true → False) ∧ (yEq (274877906944 : Int) (0 : Int) = false → (yEq (1099511627776 : Int) (0 : Int) = true → False) ∧ (yEq (1099511627776 : Int) (0 : Int) = false → (yAnd (yLe (0 : Int) (yQuo IntKind.u64 v (1099511627776 : Int))) (yLt (yQuo IntKind.u64 v (1099511627776 : Int)) (18446744073709551616 : Int)) = true → handC s v = makeC (yQuo IntKind.u64 v (1099511627776 : Int)) s) ∧ (yAnd (yLe (0 : Int) (yQuo IntKind.u64 v (1099511627776 : Int))) (yLt (yQuo IntKind.u64 v (1099511627776 : Int)) (18446744073709551616 : Int)) = false → False))))))))
set_option maxRecDepth 100000 in
theorem goalHandR_eq : goalHandR = goalHandRV := by kernel_rfl
set_option maxRecDepth 100000 in
theorem goalHandR_vc : goalHandRV := by
  unfold goalHandRV
  intro s v _ _ _ _ _ _ _ _ h1 h2 h3 h4
  have hf : handC s v = makeC (genC v) s := rfl
  have hq := quo_gen (v := v) h1
  rw [hq]
  simp only [h1, h2, h3, h4, hf, Bool.true_eq_false, false_implies, true_implies, and_true, true_and, yEq_t, yEq_f, ne_eq]
  repeat' (first | apply And.intro | intro _)
  all_goals first
    | trivial
    | (exfalso; omega)
set_option maxRecDepth 100000 in
theorem goalHandR_tt : (goalHandR) = True := goalHandR_eq.trans (eq_true goalHandR_vc)
theorem goalHandR_ok : goalHandR := @ft' goalHandR goalHandR_tt
def goalFreshRV : Prop := (∀ (s v : Int) (_i _kn : Bool) (_nk : Nat) (_k : Nat → Int) (_vn : Bool) (_nv : Nat) (_w : Nat → Int) (_l : Int), yAnd (yLe (0 : Int) v) (yLt v (18446744073709551616 : Int)) = true → yAnd (yLe (0 : Int) (renewC v)) (yLt (renewC v) (18446744073709551616 : Int)) = true → yAnd (yLe (0 : Int) (genC v)) (yLt (genC v) (18446744073709551616 : Int)) = true → yAnd (yLe (0 : Int) (genC (renewC v))) (yLt (genC (renewC v)) (18446744073709551616 : Int)) = true → (yAnd (yLe (0 : Int) v) (yLt v (18446744073709551616 : Int)) = true → (yEq (2 : Int) (0 : Int) = true → False) ∧ (yEq (2 : Int) (0 : Int) = false → (yEq (2 : Int) (0 : Int) = true → False) ∧ (yEq (2 : Int) (0 : Int) = false → (yEq (2 : Int) (0 : Int) = true → False) ∧ (yEq (2 : Int) (0 : Int) = false → (yEq (4 : Int) (0 : Int) = true → False) ∧ (yEq (4 : Int) (0 : Int) = false → (yEq (274877906944 : Int) (0 : Int) = true → False) ∧ (yEq (274877906944 : Int) (0 : Int) = false → (yEq (1099511627776 : Int) (0 : Int) = true → False) ∧ (yEq (1099511627776 : Int) (0 : Int) = false → (yAnd (yLe (0 : Int) (yQuo IntKind.u64 (renewC v) (1099511627776 : Int))) (yLt (yQuo IntKind.u64 (renewC v) (1099511627776 : Int)) (18446744073709551616 : Int)) = true → freshC s v = makeC (yQuo IntKind.u64 (renewC v) (1099511627776 : Int)) s) ∧ (yAnd (yLe (0 : Int) (yQuo IntKind.u64 (renewC v) (1099511627776 : Int))) (yLt (yQuo IntKind.u64 (renewC v) (1099511627776 : Int)) (18446744073709551616 : Int)) = false → False)))))))) ∧ (yAnd (yLe (0 : Int) v) (yLt v (18446744073709551616 : Int)) = false → False))
set_option maxRecDepth 100000 in
theorem goalFreshR_eq : goalFreshR = goalFreshRV := by kernel_rfl
set_option maxRecDepth 100000 in
theorem goalFreshR_vc : goalFreshRV := by
  unfold goalFreshRV
  intro s v _ _ _ _ _ _ _ _ h1 h2 h3 h4
  have hf : freshC s v = makeC (genC (renewC v)) s := rfl
  have hq := quo_gen (v := renewC v) h2
  rw [hq]
  simp only [h1, h2, h3, h4, hf, Bool.true_eq_false, false_implies, true_implies, and_true, true_and, yEq_t, yEq_f, ne_eq]
  repeat' (first | apply And.intro | intro _)
  all_goals first
    | trivial
    | (exfalso; omega)
set_option maxRecDepth 100000 in
theorem goalFreshR_tt : (goalFreshR) = True := goalFreshR_eq.trans (eq_true goalFreshR_vc)
theorem goalFreshR_ok : goalFreshR := @ft' goalFreshR goalFreshR_tt
end Go.Proofs.YtfpokmglhaenaaaDoor.Ex
namespace Go.Proofs.YtfpokmglhaenaaaDoor.Ex
open Go

-- OPEN layL shO prw cloO cloL
/-- The writes that lay a leaf's entry. -/
def layL (cs ct cf s j key val : Int) : List (Int × Int) := [(keyC cs ct cf s j, key), (valC cs ct cf s j, val)]
def prw (n : Nat) (a b : Nat → Int) : List (Int × Int) := (List.range n).map fun j => (a j, b j)
def shO (cs ct cf s : Int) (k w : Nat → Int) (j : Nat) (i : Nat) : List (Int × Int) := (List.range (i - j)).flatMap fun d => layL cs ct cf s ((j + d : Nat) : Int) (k (j + d + 1)) (w (j + d + 1))
def cloO (cs ct cf s : Int) (k w : Nat → Int) (n0 : Nat) (a0 b0 : Nat → Int) (j i : Nat) : List (Int × Int) := prw n0 a0 b0 ++ shO cs ct cf s k w j i
def cloL (cs ct cf s : Int) (k w : Nat → Int) (n0 : Nat) (a0 b0 : Nat → Int) (j nv : Nat) : List (Int × Int) := cloO cs ct cf s k w n0 a0 b0 j (nv - 1) ++ [(shapeC cs ct cf s, packC false ((nv : Int) - 1))]
abbrev slW (id : Nat) (l : List (Int × Int)) : AV := .ysl false (rE l) id 2 0 (rN l)
abbrev arW (l : List (Int × Int)) : AO := .arr false 88 2 (rN l) (colF [.int .i64 (rA l), .int .u64 (rB l)])
abbrev sPen : Sx := .ptr 94 [.sc, .sc, .sc, .sc, .sc, ownW]
abbrev dPen (cs ct cf cl cp : Int) (r : Dx) : Dx := .l [.v (.y .i64 cs), .v (.y .i64 ct), .v (.y .i64 cf), .v (.y .i64 cl), .v (.y .i64 cp), r]
def lLay : List (Nat × Sm) := [(126, .ct (ctS gL2 (fL2 keyC))), (52, .ct (ctS gL2 (fL2 valC))), (127, .ct (ctS gL1 (fL1 shapeC))), (128, .ct (ctS gPk fPk)),
  (129, .ct (ctS gL2 (fR2 keyC))), (63, .ct (ctS gL2 (fR2 valC))), (130, .ct (ctS gL1 (fR1 shapeC))), (131, .ct (ctS gPk fPk))]
def annClo (cs ct cf cl cp s : Int) (k w : Nat → Int) (n0 : Nat) (a0 b0 : Nat → Int) (j nv : Nat) (b : Nat) : Option (St → LoopA) :=
  match b with
  | 0 => some fun _ => { ι := Nat, tms := [7], tmU := fun i => [.y .i64 (yInt i)], ids := [1, 6], hpU := fun i => [.cells [.y .i64 cs, .y .i64 ct, .y .i64 cf, .y .i64 cl, .y .i64 cp, slW 6 (cloO cs ct cf s k w n0 a0 b0 j i)] 94 none, arW (cloO cs ct cf s k w n0 a0 b0 j i)], del := [0], ex := 1, pre := fun i => j ≤ i ∧ i + 1 ≤ nv, ms := msFit nv }
  | _ => none
def goalClo : Prop := ∀ (cs ct cf cl cp s v : Int) (kn : Bool) (k : Nat → Int) (vn : Bool) (nv : Nat) (w : Nat → Int) (l : Int) (nil0 : Bool) (n0 : Nat) (a0 b0 : Nat → Int) (j : Nat),
  rightC cs ct cf cl cp = true → yNle nv 80 = true → yNle n0 1000 = true → yNlt j nv = true → yIff nil0 (yNeq n0 0) = true →
  wxP Tryd.prog (smL lLay) (annClo cs ct cf cl cp s k w n0 a0 b0 j nv) 74 [sPen, sPart, .sc] [dPen cs ct cf cl cp (.rows nil0 n0 [.int .i64 a0, .int .u64 b0]), dPt s v false kn nv k vn nv w l, .v (.y .i64 (yInt j))] (.tup []) (.l []) [[.v (.y .i64 cs), .v (.y .i64 ct), .v (.y .i64 cf), .v (.y .i64 cl), .v (.y .i64 cp), rowsW (cloL cs ct cf s k w n0 a0 b0 j nv)]]
/-- The document's: the writes so far come in, and go on. -/
def annShut (cs ct cf s : Int) (k w : Nat → Int) (n0 : Nat) (a0 b0 : Nat → Int) (j nv : Nat) (b : Nat) : Option (St → LoopA) :=
  match b with
  | 0 => some fun _ => { ι := Nat, tms := [1, 10], tmU := fun i => [slW 5 (cloO cs ct cf s k w n0 a0 b0 j i), .y .i64 (yInt (Nat.succ i))], ids := [5], hpU := fun i => [arW (cloO cs ct cf s k w n0 a0 b0 j i)], del := [0], ex := 1, pre := fun i => j ≤ i ∧ i + 1 ≤ nv, ms := msFit nv }
  | _ => none
def goalShut : Prop := ∀ (cs ct cf cl cp s v : Int) (kn : Bool) (k : Nat → Int) (vn : Bool) (nv : Nat) (w : Nat → Int) (l : Int) (nil0 : Bool) (n0 : Nat) (a0 b0 : Nat → Int) (j : Nat),
  rightC cs ct cf cl cp = true → yNle nv 80 = true → yNle n0 1000 = true → yNlt j nv = true → yIff nil0 (yNeq n0 0) = true → yAnd (yLe 0 s) (yLe s cs) = true → yLe (yInt nv) cf = true →
  wxP Tryd.prog (smL lLay) (annShut cs ct cf s k w n0 a0 b0 j nv) 75 [sConf, ownW, sPart, .sc] [dCf cs ct cf cl cp, .rows nil0 n0 [.int .i64 a0, .int .u64 b0], dPt s v false kn nv k vn nv w l, .v (.y .i64 (yInt j))] ownW (rowsW (cloL cs ct cf s k w n0 a0 b0 j nv)) []
theorem rN_snoc (l : List (Int × Int)) (x : Int × Int) : rN (l ++ [x]) = rN l + 1 := by simp [rN]
theorem rE_snoc (l : List (Int × Int)) (x : Int × Int) : rE (l ++ [x]) = false := by simp [rE]
theorem rA_snoc (l : List (Int × Int)) (x : Int × Int) {j : Nat} (h : j < rN l + 1) : rA (l ++ [x]) j = ySel (yNlt j (rN l)) (rA l j) x.1 := by
  unfold rN at h
  unfold rA ySel yNlt rN
  rw [List.getD_eq_getElem?_getD, List.getD_eq_getElem?_getD, List.getElem?_append]
  by_cases hj : j < l.length
  · simp [hj]
  · have : j = l.length := by omega
    subst this; simp
theorem rB_snoc (l : List (Int × Int)) (x : Int × Int) {j : Nat} (h : j < rN l + 1) : rB (l ++ [x]) j = ySel (yNlt j (rN l)) (rB l j) x.2 := by
  unfold rN at h
  unfold rB ySel yNlt rN
  rw [List.getD_eq_getElem?_getD, List.getD_eq_getElem?_getD, List.getElem?_append]
  by_cases hj : j < l.length
  · simp [hj]
  · have : j = l.length := by omega
    subst this; simp
theorem rA_snoc2 (l : List (Int × Int)) (x y : Int × Int) {j : Nat} (h : j < rN l + 1 + 1) : rA (l ++ [x] ++ [y]) j = ySel (yNlt j (rN l + 1)) (ySel (yNlt j (rN l)) (rA l j) x.1) y.1 := by
  rw [rA_snoc _ y (by rw [rN_snoc]; exact h), rN_snoc]
  by_cases hj : j < rN l + 1
  · rw [rA_snoc _ x hj]
  · simp [ySel, yNlt, hj]
theorem rB_snoc2 (l : List (Int × Int)) (x y : Int × Int) {j : Nat} (h : j < rN l + 1 + 1) : rB (l ++ [x] ++ [y]) j = ySel (yNlt j (rN l + 1)) (ySel (yNlt j (rN l)) (rB l j) x.2) y.2 := by
  rw [rB_snoc _ y (by rw [rN_snoc]; exact h), rN_snoc]
  by_cases hj : j < rN l + 1
  · rw [rB_snoc _ x hj]
  · simp [ySel, yNlt, hj]
theorem yAnd10 (b : Bool) : yAnd b (yNeq 1 0) = false := by cases b <;> rfl
theorem shO_self (cs ct cf s : Int) (k w : Nat → Int) (j : Nat) : shO cs ct cf s k w j j = [] := by simp [shO]
theorem cloO_step {cs ct cf s : Int} {k w : Nat → Int} {n0 : Nat} {a0 b0 : Nat → Int} {j i : Nat} (h : j ≤ i) :
    cloO cs ct cf s k w n0 a0 b0 j (i + 1) = cloO cs ct cf s k w n0 a0 b0 j i ++ [(keyC cs ct cf s i, k (i + 1))] ++ [(valC cs ct cf s i, w (i + 1))] := by
  unfold cloO shO
  rw [show i + 1 - j = (i - j) + 1 by omega, List.range_succ, List.flatMap_append]
  simp only [List.flatMap_cons, List.flatMap_nil, List.append_nil, layL, show j + (i - j) = i by omega]
  simp
theorem prw_len (n : Nat) (a b : Nat → Int) : (prw n a b).length = n := by simp [prw]
theorem prw_A {n : Nat} {a b : Nat → Int} {i : Nat} (h : i < n) : rA (prw n a b) i = a i ∧ rB (prw n a b) i = b i := by
  unfold rA rB prw
  simp [List.getD_eq_getElem?_getD, h]
theorem cloO_len {cs ct cf s : Int} {k w : Nat → Int} {n0 : Nat} {a0 b0 : Nat → Int} {j : Nat} : ∀ d, rN (cloO cs ct cf s k w n0 a0 b0 j (j + d)) = n0 + 2 * d
  | 0 => by simp [cloO, shO_self, rN, prw_len]
  | d + 1 => by
    have := cloO_len (cs := cs) (ct := ct) (cf := cf) (s := s) (k := k) (w := w) (n0 := n0) (a0 := a0) (b0 := b0) (j := j) d
    rw [show j + (d + 1) = j + d + 1 by omega, cloO_step (by omega), rN_snoc, rN_snoc, this]; omega
theorem cloO_zero {cs ct cf s : Int} {k w : Nat → Int} {nil0 : Bool} {n0 : Nat} {a0 b0 : Nat → Int} {j : Nat} (h : nil0 = yNeq n0 0) : rE (cloO cs ct cf s k w n0 a0 b0 j j) = nil0 ∧ rN (cloO cs ct cf s k w n0 a0 b0 j j) = n0 ∧
    ∀ i, i + 1 ≤ rN (cloO cs ct cf s k w n0 a0 b0 j j) → rA (cloO cs ct cf s k w n0 a0 b0 j j) i = a0 i ∧ rB (cloO cs ct cf s k w n0 a0 b0 j j) i = b0 i := by
  have e : cloO cs ct cf s k w n0 a0 b0 j j = prw n0 a0 b0 := by simp [cloO, shO_self]
  rw [e]
  have hn : rN (prw n0 a0 b0) = n0 := by simp [rN, prw_len]
  refine ⟨?_, hn, fun i hi => prw_A (by omega)⟩
  subst h
  unfold rE yNeq
  cases n0 with
  | zero => rfl
  | succ n => simp [prw, List.range_succ]
def goalCloV : Prop := (∀ (cs ct cf cl cp s v : Int) (kn : Bool) (k : Nat → Int) (vn : Bool) (nv : Nat) (w : Nat → Int) (l : Int) (nil0 : Bool) (n0 : Nat) (a0 b0 : Nat → Int) (j : Nat), rightC cs ct cf cl cp = true → yNle nv (nat_lit 80) = true → yNle n0 (nat_lit 1000) = true → yNlt j nv = true → yIff nil0 (yNeq n0 (nat_lit 0)) = true → true = true ∧ (∃ (i0 : Nat), (j ≤ i0 ∧ Nat.succ i0 ≤ nv) ∧ true = true ∧ yInt i0 = yInt j ∧ cs = cs ∧ ct = ct ∧ cf = cf ∧ cl = cl ∧ cp = cp ∧ rE (cloO cs ct cf s k w n0 a0 b0 j i0) = nil0 ∧ nat_lit 0 = nat_lit 0 ∧ rN (cloO cs ct cf s k w n0 a0 b0 j i0) = n0 ∧ rN (cloO cs ct cf s k w n0 a0 b0 j i0) = n0 ∧ (∀ (i : Nat), Nat.succ i ≤ rN (cloO cs ct cf s k w n0 a0 b0 j i0) → rA (cloO cs ct cf s k w n0 a0 b0 j i0) i = a0 i ∧ rB (cloO cs ct cf s k w n0 a0 b0 j i0) i = b0 i ∧ True) ∧ true = true) ∧ ∀ (g : Nat → AV) (i : Nat), j ≤ i ∧ Nat.succ i ≤ nv → (yLt (yInt i) (yWrap IntKind.i64 (ySub (yInt nv) (1 : Int))) = true → (yNot false = true → (yIn (yWrap IntKind.i64 (yAdd (yInt i) (1 : Int))) nv = true → (yNlt (yNadd (nat_lit 0) (yNat (yWrap IntKind.i64 (yAdd (yInt i) (1 : Int))))) nv = true → (yIn (yWrap IntKind.i64 (yAdd (yInt i) (1 : Int))) nv = true → (yNlt (yNadd (nat_lit 0) (yNat (yWrap IntKind.i64 (yAdd (yInt i) (1 : Int))))) nv = true → (yNot false = true → (rightC cs ct cf cl cp = true → (yNeq (rN (cloO cs ct cf s k w n0 a0 b0 j i)) (rN (cloO cs ct cf s k w n0 a0 b0 j i)) = true → (yGrow (yNadd (rN (cloO cs ct cf s k w n0 a0 b0 j i)) (nat_lit 1)) (nat_lit 16) = true → (rightC cs ct cf cl cp = true → (yNeq (yNadd (rN (cloO cs ct cf s k w n0 a0 b0 j i)) (nat_lit 1)) (yNadd (rN (cloO cs ct cf s k w n0 a0 b0 j i)) (nat_lit 1)) = true → (yGrow (yNadd (yNadd (rN (cloO cs ct cf s k w n0 a0 b0 j i)) (nat_lit 1)) (nat_lit 1)) (nat_lit 16) = true → true = true ∧ ∃ (i' : Nat), (j ≤ i' ∧ Nat.succ i' ≤ nv) ∧ Nat.succ (msFit nv i') ≤ msFit nv i ∧ true = true ∧ yInt i' = yWrap IntKind.i64 (yAdd (yInt i) (1 : Int)) ∧ cs = cs ∧ ct = ct ∧ cf = cf ∧ cl = cl ∧ cp = cp ∧ rE (cloO cs ct cf s k w n0 a0 b0 j i') = yAnd (yAnd (rE (cloO cs ct cf s k w n0 a0 b0 j i)) (yNeq (nat_lit 1) (nat_lit 0))) (yNeq (nat_lit 1) (nat_lit 0)) ∧ nat_lit 0 = nat_lit 0 ∧ rN (cloO cs ct cf s k w n0 a0 b0 j i') = yNadd (yNadd (rN (cloO cs ct cf s k w n0 a0 b0 j i)) (nat_lit 1)) (nat_lit 1) ∧ rN (cloO cs ct cf s k w n0 a0 b0 j i') = yNadd (yNadd (rN (cloO cs ct cf s k w n0 a0 b0 j i)) (nat_lit 1)) (nat_lit 1) ∧ (∀ (i_1 : Nat), Nat.succ i_1 ≤ rN (cloO cs ct cf s k w n0 a0 b0 j i') → rA (cloO cs ct cf s k w n0 a0 b0 j i') i_1 = ySel (yNlt i_1 (yNadd (rN (cloO cs ct cf s k w n0 a0 b0 j i)) (nat_lit 1))) (ySel (yNlt i_1 (rN (cloO cs ct cf s k w n0 a0 b0 j i))) (rA (cloO cs ct cf s k w n0 a0 b0 j i) i_1) (keyC cs ct cf s (yInt i))) (valC cs ct cf s (yInt i)) ∧ rB (cloO cs ct cf s k w n0 a0 b0 j i') i_1 = ySel (yNlt i_1 (yNadd (rN (cloO cs ct cf s k w n0 a0 b0 j i)) (nat_lit 1))) (ySel (yNlt i_1 (rN (cloO cs ct cf s k w n0 a0 b0 j i))) (rB (cloO cs ct cf s k w n0 a0 b0 j i) i_1) (k (yNadd (nat_lit 0) (yNat (yWrap IntKind.i64 (yAdd (yInt i) (1 : Int))))))) (w (yNadd (nat_lit 0) (yNat (yWrap IntKind.i64 (yAdd (yInt i) (1 : Int)))))) ∧ True) ∧ true = true) ∧ (yGrow (yNadd (yNadd (rN (cloO cs ct cf s k w n0 a0 b0 j i)) (nat_lit 1)) (nat_lit 1)) (nat_lit 16) = false → False)) ∧ (yNeq (yNadd (rN (cloO cs ct cf s k w n0 a0 b0 j i)) (nat_lit 1)) (yNadd (rN (cloO cs ct cf s k w n0 a0 b0 j i)) (nat_lit 1)) = false → False)) ∧ (rightC cs ct cf cl cp = false → False)) ∧ (yGrow (yNadd (rN (cloO cs ct cf s k w n0 a0 b0 j i)) (nat_lit 1)) (nat_lit 16) = false → False)) ∧ (yNeq (rN (cloO cs ct cf s k w n0 a0 b0 j i)) (rN (cloO cs ct cf s k w n0 a0 b0 j i)) = false → False)) ∧ (rightC cs ct cf cl cp = false → False)) ∧ (yNot false = false → (yLt (0 : Int) (yInt i) = true → (rightC cs ct cf cl cp = true → (yNeq (rN (cloO cs ct cf s k w n0 a0 b0 j i)) (rN (cloO cs ct cf s k w n0 a0 b0 j i)) = true → (yGrow (yNadd (rN (cloO cs ct cf s k w n0 a0 b0 j i)) (nat_lit 1)) (nat_lit 16) = true → (rightC cs ct cf cl cp = true → (yNeq (yNadd (rN (cloO cs ct cf s k w n0 a0 b0 j i)) (nat_lit 1)) (yNadd (rN (cloO cs ct cf s k w n0 a0 b0 j i)) (nat_lit 1)) = true → (yGrow (yNadd (yNadd (rN (cloO cs ct cf s k w n0 a0 b0 j i)) (nat_lit 1)) (nat_lit 1)) (nat_lit 16) = true → true = true ∧ ∃ (i' : Nat), (j ≤ i' ∧ Nat.succ i' ≤ nv) ∧ Nat.succ (msFit nv i') ≤ msFit nv i ∧ true = true ∧ yInt i' = yWrap IntKind.i64 (yAdd (yInt i) (1 : Int)) ∧ cs = cs ∧ ct = ct ∧ cf = cf ∧ cl = cl ∧ cp = cp ∧ rE (cloO cs ct cf s k w n0 a0 b0 j i') = yAnd (yAnd (rE (cloO cs ct cf s k w n0 a0 b0 j i)) (yNeq (nat_lit 1) (nat_lit 0))) (yNeq (nat_lit 1) (nat_lit 0)) ∧ nat_lit 0 = nat_lit 0 ∧ rN (cloO cs ct cf s k w n0 a0 b0 j i') = yNadd (yNadd (rN (cloO cs ct cf s k w n0 a0 b0 j i)) (nat_lit 1)) (nat_lit 1) ∧ rN (cloO cs ct cf s k w n0 a0 b0 j i') = yNadd (yNadd (rN (cloO cs ct cf s k w n0 a0 b0 j i)) (nat_lit 1)) (nat_lit 1) ∧ (∀ (i_1 : Nat), Nat.succ i_1 ≤ rN (cloO cs ct cf s k w n0 a0 b0 j i') → rA (cloO cs ct cf s k w n0 a0 b0 j i') i_1 = ySel (yNlt i_1 (yNadd (rN (cloO cs ct cf s k w n0 a0 b0 j i)) (nat_lit 1))) (ySel (yNlt i_1 (rN (cloO cs ct cf s k w n0 a0 b0 j i))) (rA (cloO cs ct cf s k w n0 a0 b0 j i) i_1) (keyC cs ct cf s (yWrap IntKind.i64 (ySub (yInt i) (1 : Int))))) (valC cs ct cf s (yInt i)) ∧ rB (cloO cs ct cf s k w n0 a0 b0 j i') i_1 = ySel (yNlt i_1 (yNadd (rN (cloO cs ct cf s k w n0 a0 b0 j i)) (nat_lit 1))) (ySel (yNlt i_1 (rN (cloO cs ct cf s k w n0 a0 b0 j i))) (rB (cloO cs ct cf s k w n0 a0 b0 j i) i_1) (k (yNadd (nat_lit 0) (yNat (yWrap IntKind.i64 (yAdd (yInt i) (1 : Int))))))) (w (yNadd (nat_lit 0) (yNat (yWrap IntKind.i64 (yAdd (yInt i) (1 : Int)))))) ∧ True) ∧ true = true) ∧ (yGrow (yNadd (yNadd (rN (cloO cs ct cf s k w n0 a0 b0 j i)) (nat_lit 1)) (nat_lit 1)) (nat_lit 16) = false → False)) ∧ (yNeq (yNadd (rN (cloO cs ct cf s k w n0 a0 b0 j i)) (nat_lit 1)) (yNadd (rN (cloO cs ct cf s k w n0 a0 b0 j i)) (nat_lit 1)) = false → False)) ∧ (rightC cs ct cf cl cp = false → False)) ∧ (yGrow (yNadd (rN (cloO cs ct cf s k w n0 a0 b0 j i)) (nat_lit 1)) (nat_lit 16) = false → False)) ∧ (yNeq (rN (cloO cs ct cf s k w n0 a0 b0 j i)) (rN (cloO cs ct cf s k w n0 a0 b0 j i)) = false → False)) ∧ (rightC cs ct cf cl cp = false → False)) ∧ (yLt (0 : Int) (yInt i) = false → (rightC cs ct cf cl cp = true → (yNeq (rN (cloO cs ct cf s k w n0 a0 b0 j i)) (rN (cloO cs ct cf s k w n0 a0 b0 j i)) = true → (yGrow (yNadd (rN (cloO cs ct cf s k w n0 a0 b0 j i)) (nat_lit 1)) (nat_lit 16) = true → true = true ∧ ∃ (i' : Nat), (j ≤ i' ∧ Nat.succ i' ≤ nv) ∧ Nat.succ (msFit nv i') ≤ msFit nv i ∧ true = true ∧ yInt i' = yWrap IntKind.i64 (yAdd (yInt i) (1 : Int)) ∧ cs = cs ∧ ct = ct ∧ cf = cf ∧ cl = cl ∧ cp = cp ∧ rE (cloO cs ct cf s k w n0 a0 b0 j i') = yAnd (rE (cloO cs ct cf s k w n0 a0 b0 j i)) (yNeq (nat_lit 1) (nat_lit 0)) ∧ nat_lit 0 = nat_lit 0 ∧ rN (cloO cs ct cf s k w n0 a0 b0 j i') = yNadd (rN (cloO cs ct cf s k w n0 a0 b0 j i)) (nat_lit 1) ∧ rN (cloO cs ct cf s k w n0 a0 b0 j i') = yNadd (rN (cloO cs ct cf s k w n0 a0 b0 j i)) (nat_lit 1) ∧ (∀ (i_1 : Nat), Nat.succ i_1 ≤ rN (cloO cs ct cf s k w n0 a0 b0 j i') → rA (cloO cs ct cf s k w n0 a0 b0 j i') i_1 = ySel (yNlt i_1 (rN (cloO cs ct cf s k w n0 a0 b0 j i))) (rA (cloO cs ct cf s k w n0 a0 b0 j i) i_1) (valC cs ct cf s (yInt i)) ∧ rB (cloO cs ct cf s k w n0 a0 b0 j i') i_1 = ySel (yNlt i_1 (rN (cloO cs ct cf s k w n0 a0 b0 j i))) (rB (cloO cs ct cf s k w n0 a0 b0 j i) i_1) (w (yNadd (nat_lit 0) (yNat (yWrap IntKind.i64 (yAdd (yInt i) (1 : Int)))))) ∧ True) ∧ true = true) ∧ (yGrow (yNadd (rN (cloO cs ct cf s k w n0 a0 b0 j i)) (nat_lit 1)) (nat_lit 16) = false → False)) ∧ (yNeq (rN (cloO cs ct cf s k w n0 a0 b0 j i)) (rN (cloO cs ct cf s k w n0 a0 b0 j i)) = false → False)) ∧ (rightC cs ct cf cl cp = false → False)))) ∧ (yNlt (yNadd (nat_lit 0) (yNat (yWrap IntKind.i64 (yAdd (yInt i) (1 : Int))))) nv = false → False)) ∧ (yIn (yWrap IntKind.i64 (yAdd (yInt i) (1 : Int))) nv = false → False)) ∧ (yNlt (yNadd (nat_lit 0) (yNat (yWrap IntKind.i64 (yAdd (yInt i) (1 : Int))))) nv = false → False)) ∧ (yIn (yWrap IntKind.i64 (yAdd (yInt i) (1 : Int))) nv = false → False)) ∧ (yNot false = false → (yEq (yWrap IntKind.i64 (yAdd (yInt i) (1 : Int))) (0 : Int) = true → (yIn (yWrap IntKind.i64 (yAdd (yInt i) (1 : Int))) nv = true → (yNlt (yNadd (nat_lit 0) (yNat (yWrap IntKind.i64 (yAdd (yInt i) (1 : Int))))) nv = true → (yNot false = true → (rightC cs ct cf cl cp = true → (yNeq (rN (cloO cs ct cf s k w n0 a0 b0 j i)) (rN (cloO cs ct cf s k w n0 a0 b0 j i)) = true → (yGrow (yNadd (rN (cloO cs ct cf s k w n0 a0 b0 j i)) (nat_lit 1)) (nat_lit 16) = true → (rightC cs ct cf cl cp = true → (yNeq (yNadd (rN (cloO cs ct cf s k w n0 a0 b0 j i)) (nat_lit 1)) (yNadd (rN (cloO cs ct cf s k w n0 a0 b0 j i)) (nat_lit 1)) = true → (yGrow (yNadd (yNadd (rN (cloO cs ct cf s k w n0 a0 b0 j i)) (nat_lit 1)) (nat_lit 1)) (nat_lit 16) = true → true = true ∧ ∃ (i' : Nat), (j ≤ i' ∧ Nat.succ i' ≤ nv) ∧ Nat.succ (msFit nv i') ≤ msFit nv i ∧ true = true ∧ yInt i' = yWrap IntKind.i64 (yAdd (yInt i) (1 : Int)) ∧ cs = cs ∧ ct = ct ∧ cf = cf ∧ cl = cl ∧ cp = cp ∧ rE (cloO cs ct cf s k w n0 a0 b0 j i') = yAnd (yAnd (rE (cloO cs ct cf s k w n0 a0 b0 j i)) (yNeq (nat_lit 1) (nat_lit 0))) (yNeq (nat_lit 1) (nat_lit 0)) ∧ nat_lit 0 = nat_lit 0 ∧ rN (cloO cs ct cf s k w n0 a0 b0 j i') = yNadd (yNadd (rN (cloO cs ct cf s k w n0 a0 b0 j i)) (nat_lit 1)) (nat_lit 1) ∧ rN (cloO cs ct cf s k w n0 a0 b0 j i') = yNadd (yNadd (rN (cloO cs ct cf s k w n0 a0 b0 j i)) (nat_lit 1)) (nat_lit 1) ∧ (∀ (i_1 : Nat), Nat.succ i_1 ≤ rN (cloO cs ct cf s k w n0 a0 b0 j i') → rA (cloO cs ct cf s k w n0 a0 b0 j i') i_1 = ySel (yNlt i_1 (yNadd (rN (cloO cs ct cf s k w n0 a0 b0 j i)) (nat_lit 1))) (ySel (yNlt i_1 (rN (cloO cs ct cf s k w n0 a0 b0 j i))) (rA (cloO cs ct cf s k w n0 a0 b0 j i) i_1) (keyC cs ct cf s (yInt i))) (valC cs ct cf s (yInt i)) ∧ rB (cloO cs ct cf s k w n0 a0 b0 j i') i_1 = ySel (yNlt i_1 (yNadd (rN (cloO cs ct cf s k w n0 a0 b0 j i)) (nat_lit 1))) (ySel (yNlt i_1 (rN (cloO cs ct cf s k w n0 a0 b0 j i))) (rB (cloO cs ct cf s k w n0 a0 b0 j i) i_1) (0 : Int)) (w (yNadd (nat_lit 0) (yNat (yWrap IntKind.i64 (yAdd (yInt i) (1 : Int)))))) ∧ True) ∧ true = true) ∧ (yGrow (yNadd (yNadd (rN (cloO cs ct cf s k w n0 a0 b0 j i)) (nat_lit 1)) (nat_lit 1)) (nat_lit 16) = false → False)) ∧ (yNeq (yNadd (rN (cloO cs ct cf s k w n0 a0 b0 j i)) (nat_lit 1)) (yNadd (rN (cloO cs ct cf s k w n0 a0 b0 j i)) (nat_lit 1)) = false → False)) ∧ (rightC cs ct cf cl cp = false → False)) ∧ (yGrow (yNadd (rN (cloO cs ct cf s k w n0 a0 b0 j i)) (nat_lit 1)) (nat_lit 16) = false → False)) ∧ (yNeq (rN (cloO cs ct cf s k w n0 a0 b0 j i)) (rN (cloO cs ct cf s k w n0 a0 b0 j i)) = false → False)) ∧ (rightC cs ct cf cl cp = false → False)) ∧ (yNot false = false → (yLt (0 : Int) (yInt i) = true → (rightC cs ct cf cl cp = true → (yNeq (rN (cloO cs ct cf s k w n0 a0 b0 j i)) (rN (cloO cs ct cf s k w n0 a0 b0 j i)) = true → (yGrow (yNadd (rN (cloO cs ct cf s k w n0 a0 b0 j i)) (nat_lit 1)) (nat_lit 16) = true → (rightC cs ct cf cl cp = true → (yNeq (yNadd (rN (cloO cs ct cf s k w n0 a0 b0 j i)) (nat_lit 1)) (yNadd (rN (cloO cs ct cf s k w n0 a0 b0 j i)) (nat_lit 1)) = true → (yGrow (yNadd (yNadd (rN (cloO cs ct cf s k w n0 a0 b0 j i)) (nat_lit 1)) (nat_lit 1)) (nat_lit 16) = true → true = true ∧ ∃ (i' : Nat), (j ≤ i' ∧ Nat.succ i' ≤ nv) ∧ Nat.succ (msFit nv i') ≤ msFit nv i ∧ true = true ∧ yInt i' = yWrap IntKind.i64 (yAdd (yInt i) (1 : Int)) ∧ cs = cs ∧ ct = ct ∧ cf = cf ∧ cl = cl ∧ cp = cp ∧ rE (cloO cs ct cf s k w n0 a0 b0 j i') = yAnd (yAnd (rE (cloO cs ct cf s k w n0 a0 b0 j i)) (yNeq (nat_lit 1) (nat_lit 0))) (yNeq (nat_lit 1) (nat_lit 0)) ∧ nat_lit 0 = nat_lit 0 ∧ rN (cloO cs ct cf s k w n0 a0 b0 j i') = yNadd (yNadd (rN (cloO cs ct cf s k w n0 a0 b0 j i)) (nat_lit 1)) (nat_lit 1) ∧ rN (cloO cs ct cf s k w n0 a0 b0 j i') = yNadd (yNadd (rN (cloO cs ct cf s k w n0 a0 b0 j i)) (nat_lit 1)) (nat_lit 1) ∧ (∀ (i_1 : Nat), Nat.succ i_1 ≤ rN (cloO cs ct cf s k w n0 a0 b0 j i') → rA (cloO cs ct cf s k w n0 a0 b0 j i') i_1 = ySel (yNlt i_1 (yNadd (rN (cloO cs ct cf s k w n0 a0 b0 j i)) (nat_lit 1))) (ySel (yNlt i_1 (rN (cloO cs ct cf s k w n0 a0 b0 j i))) (rA (cloO cs ct cf s k w n0 a0 b0 j i) i_1) (keyC cs ct cf s (yWrap IntKind.i64 (ySub (yInt i) (1 : Int))))) (valC cs ct cf s (yInt i)) ∧ rB (cloO cs ct cf s k w n0 a0 b0 j i') i_1 = ySel (yNlt i_1 (yNadd (rN (cloO cs ct cf s k w n0 a0 b0 j i)) (nat_lit 1))) (ySel (yNlt i_1 (rN (cloO cs ct cf s k w n0 a0 b0 j i))) (rB (cloO cs ct cf s k w n0 a0 b0 j i) i_1) (0 : Int)) (w (yNadd (nat_lit 0) (yNat (yWrap IntKind.i64 (yAdd (yInt i) (1 : Int)))))) ∧ True) ∧ true = true) ∧ (yGrow (yNadd (yNadd (rN (cloO cs ct cf s k w n0 a0 b0 j i)) (nat_lit 1)) (nat_lit 1)) (nat_lit 16) = false → False)) ∧ (yNeq (yNadd (rN (cloO cs ct cf s k w n0 a0 b0 j i)) (nat_lit 1)) (yNadd (rN (cloO cs ct cf s k w n0 a0 b0 j i)) (nat_lit 1)) = false → False)) ∧ (rightC cs ct cf cl cp = false → False)) ∧ (yGrow (yNadd (rN (cloO cs ct cf s k w n0 a0 b0 j i)) (nat_lit 1)) (nat_lit 16) = false → False)) ∧ (yNeq (rN (cloO cs ct cf s k w n0 a0 b0 j i)) (rN (cloO cs ct cf s k w n0 a0 b0 j i)) = false → False)) ∧ (rightC cs ct cf cl cp = false → False)) ∧ (yLt (0 : Int) (yInt i) = false → (rightC cs ct cf cl cp = true → (yNeq (rN (cloO cs ct cf s k w n0 a0 b0 j i)) (rN (cloO cs ct cf s k w n0 a0 b0 j i)) = true → (yGrow (yNadd (rN (cloO cs ct cf s k w n0 a0 b0 j i)) (nat_lit 1)) (nat_lit 16) = true → true = true ∧ ∃ (i' : Nat), (j ≤ i' ∧ Nat.succ i' ≤ nv) ∧ Nat.succ (msFit nv i') ≤ msFit nv i ∧ true = true ∧ yInt i' = yWrap IntKind.i64 (yAdd (yInt i) (1 : Int)) ∧ cs = cs ∧ ct = ct ∧ cf = cf ∧ cl = cl ∧ cp = cp ∧ rE (cloO cs ct cf s k w n0 a0 b0 j i') = yAnd (rE (cloO cs ct cf s k w n0 a0 b0 j i)) (yNeq (nat_lit 1) (nat_lit 0)) ∧ nat_lit 0 = nat_lit 0 ∧ rN (cloO cs ct cf s k w n0 a0 b0 j i') = yNadd (rN (cloO cs ct cf s k w n0 a0 b0 j i)) (nat_lit 1) ∧ rN (cloO cs ct cf s k w n0 a0 b0 j i') = yNadd (rN (cloO cs ct cf s k w n0 a0 b0 j i)) (nat_lit 1) ∧ (∀ (i_1 : Nat), Nat.succ i_1 ≤ rN (cloO cs ct cf s k w n0 a0 b0 j i') → rA (cloO cs ct cf s k w n0 a0 b0 j i') i_1 = ySel (yNlt i_1 (rN (cloO cs ct cf s k w n0 a0 b0 j i))) (rA (cloO cs ct cf s k w n0 a0 b0 j i) i_1) (valC cs ct cf s (yInt i)) ∧ rB (cloO cs ct cf s k w n0 a0 b0 j i') i_1 = ySel (yNlt i_1 (rN (cloO cs ct cf s k w n0 a0 b0 j i))) (rB (cloO cs ct cf s k w n0 a0 b0 j i) i_1) (w (yNadd (nat_lit 0) (yNat (yWrap IntKind.i64 (yAdd (yInt i) (1 : Int)))))) ∧ True) ∧ true = true) ∧ (yGrow (yNadd (rN (cloO cs ct cf s k w n0 a0 b0 j i)) (nat_lit 1)) (nat_lit 16) = false → False)) ∧ (yNeq (rN (cloO cs ct cf s k w n0 a0 b0 j i)) (rN (cloO cs ct cf s k w n0 a0 b0 j i)) = false → False)) ∧ (rightC cs ct cf cl cp = false → False)))) ∧ (yNlt (yNadd (nat_lit 0) (yNat (yWrap IntKind.i64 (yAdd (yInt i) (1 : Int))))) nv = false → False)) ∧ (yIn (yWrap IntKind.i64 (yAdd (yInt i) (1 : Int))) nv = false → False)) ∧ (yEq (yWrap IntKind.i64 (yAdd (yInt i) (1 : Int))) (0 : Int) = false → (yIn (yWrap IntKind.i64 (ySub (yWrap IntKind.i64 (yAdd (yInt i) (1 : Int))) (1 : Int))) nv = true → (yNlt (yNadd (nat_lit 0) (yNat (yWrap IntKind.i64 (ySub (yWrap IntKind.i64 (yAdd (yInt i) (1 : Int))) (1 : Int))))) nv = true → (yIn (yWrap IntKind.i64 (yAdd (yInt i) (1 : Int))) nv = true → (yNlt (yNadd (nat_lit 0) (yNat (yWrap IntKind.i64 (yAdd (yInt i) (1 : Int))))) nv = true → (yNot false = true → (rightC cs ct cf cl cp = true → (yNeq (rN (cloO cs ct cf s k w n0 a0 b0 j i)) (rN (cloO cs ct cf s k w n0 a0 b0 j i)) = true → (yGrow (yNadd (rN (cloO cs ct cf s k w n0 a0 b0 j i)) (nat_lit 1)) (nat_lit 16) = true → (rightC cs ct cf cl cp = true → (yNeq (yNadd (rN (cloO cs ct cf s k w n0 a0 b0 j i)) (nat_lit 1)) (yNadd (rN (cloO cs ct cf s k w n0 a0 b0 j i)) (nat_lit 1)) = true → (yGrow (yNadd (yNadd (rN (cloO cs ct cf s k w n0 a0 b0 j i)) (nat_lit 1)) (nat_lit 1)) (nat_lit 16) = true → true = true ∧ ∃ (i' : Nat), (j ≤ i' ∧ Nat.succ i' ≤ nv) ∧ Nat.succ (msFit nv i') ≤ msFit nv i ∧ true = true ∧ yInt i' = yWrap IntKind.i64 (yAdd (yInt i) (1 : Int)) ∧ cs = cs ∧ ct = ct ∧ cf = cf ∧ cl = cl ∧ cp = cp ∧ rE (cloO cs ct cf s k w n0 a0 b0 j i') = yAnd (yAnd (rE (cloO cs ct cf s k w n0 a0 b0 j i)) (yNeq (nat_lit 1) (nat_lit 0))) (yNeq (nat_lit 1) (nat_lit 0)) ∧ nat_lit 0 = nat_lit 0 ∧ rN (cloO cs ct cf s k w n0 a0 b0 j i') = yNadd (yNadd (rN (cloO cs ct cf s k w n0 a0 b0 j i)) (nat_lit 1)) (nat_lit 1) ∧ rN (cloO cs ct cf s k w n0 a0 b0 j i') = yNadd (yNadd (rN (cloO cs ct cf s k w n0 a0 b0 j i)) (nat_lit 1)) (nat_lit 1) ∧ (∀ (i_1 : Nat), Nat.succ i_1 ≤ rN (cloO cs ct cf s k w n0 a0 b0 j i') → rA (cloO cs ct cf s k w n0 a0 b0 j i') i_1 = ySel (yNlt i_1 (yNadd (rN (cloO cs ct cf s k w n0 a0 b0 j i)) (nat_lit 1))) (ySel (yNlt i_1 (rN (cloO cs ct cf s k w n0 a0 b0 j i))) (rA (cloO cs ct cf s k w n0 a0 b0 j i) i_1) (keyC cs ct cf s (yInt i))) (valC cs ct cf s (yInt i)) ∧ rB (cloO cs ct cf s k w n0 a0 b0 j i') i_1 = ySel (yNlt i_1 (yNadd (rN (cloO cs ct cf s k w n0 a0 b0 j i)) (nat_lit 1))) (ySel (yNlt i_1 (rN (cloO cs ct cf s k w n0 a0 b0 j i))) (rB (cloO cs ct cf s k w n0 a0 b0 j i) i_1) (k (yNadd (nat_lit 0) (yNat (yWrap IntKind.i64 (ySub (yWrap IntKind.i64 (yAdd (yInt i) (1 : Int))) (1 : Int))))))) (w (yNadd (nat_lit 0) (yNat (yWrap IntKind.i64 (yAdd (yInt i) (1 : Int)))))) ∧ True) ∧ true = true) ∧ (yGrow (yNadd (yNadd (rN (cloO cs ct cf s k w n0 a0 b0 j i)) (nat_lit 1)) (nat_lit 1)) (nat_lit 16) = false → False)) ∧ (yNeq (yNadd (rN (cloO cs ct cf s k w n0 a0 b0 j i)) (nat_lit 1)) (yNadd (rN (cloO cs ct cf s k w n0 a0 b0 j i)) (nat_lit 1)) = false → False)) ∧ (rightC cs ct cf cl cp = false → False)) ∧ (yGrow (yNadd (rN (cloO cs ct cf s k w n0 a0 b0 j i)) (nat_lit 1)) (nat_lit 16) = false → False)) ∧ (yNeq (rN (cloO cs ct cf s k w n0 a0 b0 j i)) (rN (cloO cs ct cf s k w n0 a0 b0 j i)) = false → False)) ∧ (rightC cs ct cf cl cp = false → False)) ∧ (yNot false = false → (yLt (0 : Int) (yInt i) = true → (rightC cs ct cf cl cp = true → (yNeq (rN (cloO cs ct cf s k w n0 a0 b0 j i)) (rN (cloO cs ct cf s k w n0 a0 b0 j i)) = true → (yGrow (yNadd (rN (cloO cs ct cf s k w n0 a0 b0 j i)) (nat_lit 1)) (nat_lit 16) = true → (rightC cs ct cf cl cp = true → (yNeq (yNadd (rN (cloO cs ct cf s k w n0 a0 b0 j i)) (nat_lit 1)) (yNadd (rN (cloO cs ct cf s k w n0 a0 b0 j i)) (nat_lit 1)) = true → (yGrow (yNadd (yNadd (rN (cloO cs ct cf s k w n0 a0 b0 j i)) (nat_lit 1)) (nat_lit 1)) (nat_lit 16) = true → true = true ∧ ∃ (i' : Nat), (j ≤ i' ∧ Nat.succ i' ≤ nv) ∧ Nat.succ (msFit nv i') ≤ msFit nv i ∧ true = true ∧ yInt i' = yWrap IntKind.i64 (yAdd (yInt i) (1 : Int)) ∧ cs = cs ∧ ct = ct ∧ cf = cf ∧ cl = cl ∧ cp = cp ∧ rE (cloO cs ct cf s k w n0 a0 b0 j i') = yAnd (yAnd (rE (cloO cs ct cf s k w n0 a0 b0 j i)) (yNeq (nat_lit 1) (nat_lit 0))) (yNeq (nat_lit 1) (nat_lit 0)) ∧ nat_lit 0 = nat_lit 0 ∧ rN (cloO cs ct cf s k w n0 a0 b0 j i') = yNadd (yNadd (rN (cloO cs ct cf s k w n0 a0 b0 j i)) (nat_lit 1)) (nat_lit 1) ∧ rN (cloO cs ct cf s k w n0 a0 b0 j i') = yNadd (yNadd (rN (cloO cs ct cf s k w n0 a0 b0 j i)) (nat_lit 1)) (nat_lit 1) ∧ (∀ (i_1 : Nat), Nat.succ i_1 ≤ rN (cloO cs ct cf s k w n0 a0 b0 j i') → rA (cloO cs ct cf s k w n0 a0 b0 j i') i_1 = ySel (yNlt i_1 (yNadd (rN (cloO cs ct cf s k w n0 a0 b0 j i)) (nat_lit 1))) (ySel (yNlt i_1 (rN (cloO cs ct cf s k w n0 a0 b0 j i))) (rA (cloO cs ct cf s k w n0 a0 b0 j i) i_1) (keyC cs ct cf s (yWrap IntKind.i64 (ySub (yInt i) (1 : Int))))) (valC cs ct cf s (yInt i)) ∧ rB (cloO cs ct cf s k w n0 a0 b0 j i') i_1 = ySel (yNlt i_1 (yNadd (rN (cloO cs ct cf s k w n0 a0 b0 j i)) (nat_lit 1))) (ySel (yNlt i_1 (rN (cloO cs ct cf s k w n0 a0 b0 j i))) (rB (cloO cs ct cf s k w n0 a0 b0 j i) i_1) (k (yNadd (nat_lit 0) (yNat (yWrap IntKind.i64 (ySub (yWrap IntKind.i64 (yAdd (yInt i) (1 : Int))) (1 : Int))))))) (w (yNadd (nat_lit 0) (yNat (yWrap IntKind.i64 (yAdd (yInt i) (1 : Int)))))) ∧ True) ∧ true = true) ∧ (yGrow (yNadd (yNadd (rN (cloO cs ct cf s k w n0 a0 b0 j i)) (nat_lit 1)) (nat_lit 1)) (nat_lit 16) = false → False)) ∧ (yNeq (yNadd (rN (cloO cs ct cf s k w n0 a0 b0 j i)) (nat_lit 1)) (yNadd (rN (cloO cs ct cf s k w n0 a0 b0 j i)) (nat_lit 1)) = false → False)) ∧ (rightC cs ct cf cl cp = false → False)) ∧ (yGrow (yNadd (rN (cloO cs ct cf s k w n0 a0 b0 j i)) (nat_lit 1)) (nat_lit 16) = false → False)) ∧ (yNeq (rN (cloO cs ct cf s k w n0 a0 b0 j i)) (rN (cloO cs ct cf s k w n0 a0 b0 j i)) = false → False)) ∧ (rightC cs ct cf cl cp = false → False)) ∧ (yLt (0 : Int) (yInt i) = false → (rightC cs ct cf cl cp = true → (yNeq (rN (cloO cs ct cf s k w n0 a0 b0 j i)) (rN (cloO cs ct cf s k w n0 a0 b0 j i)) = true → (yGrow (yNadd (rN (cloO cs ct cf s k w n0 a0 b0 j i)) (nat_lit 1)) (nat_lit 16) = true → true = true ∧ ∃ (i' : Nat), (j ≤ i' ∧ Nat.succ i' ≤ nv) ∧ Nat.succ (msFit nv i') ≤ msFit nv i ∧ true = true ∧ yInt i' = yWrap IntKind.i64 (yAdd (yInt i) (1 : Int)) ∧ cs = cs ∧ ct = ct ∧ cf = cf ∧ cl = cl ∧ cp = cp ∧ rE (cloO cs ct cf s k w n0 a0 b0 j i') = yAnd (rE (cloO cs ct cf s k w n0 a0 b0 j i)) (yNeq (nat_lit 1) (nat_lit 0)) ∧ nat_lit 0 = nat_lit 0 ∧ rN (cloO cs ct cf s k w n0 a0 b0 j i') = yNadd (rN (cloO cs ct cf s k w n0 a0 b0 j i)) (nat_lit 1) ∧ rN (cloO cs ct cf s k w n0 a0 b0 j i') = yNadd (rN (cloO cs ct cf s k w n0 a0 b0 j i)) (nat_lit 1) ∧ (∀ (i_1 : Nat), Nat.succ i_1 ≤ rN (cloO cs ct cf s k w n0 a0 b0 j i') → rA (cloO cs ct cf s k w n0 a0 b0 j i') i_1 = ySel (yNlt i_1 (rN (cloO cs ct cf s k w n0 a0 b0 j i))) (rA (cloO cs ct cf s k w n0 a0 b0 j i) i_1) (valC cs ct cf s (yInt i)) ∧ rB (cloO cs ct cf s k w n0 a0 b0 j i') i_1 = ySel (yNlt i_1 (rN (cloO cs ct cf s k w n0 a0 b0 j i))) (rB (cloO cs ct cf s k w n0 a0 b0 j i) i_1) (w (yNadd (nat_lit 0) (yNat (yWrap IntKind.i64 (yAdd (yInt i) (1 : Int)))))) ∧ True) ∧ true = true) ∧ (yGrow (yNadd (rN (cloO cs ct cf s k w n0 a0 b0 j i)) (nat_lit 1)) (nat_lit 16) = false → False)) ∧ (yNeq (rN (cloO cs ct cf s k w n0 a0 b0 j i)) (rN (cloO cs ct cf s k w n0 a0 b0 j i)) = false → False)) ∧ (rightC cs ct cf cl cp = false → False)))) ∧ (yNlt (yNadd (nat_lit 0) (yNat (yWrap IntKind.i64 (yAdd (yInt i) (1 : Int))))) nv = false → False)) ∧ (yIn (yWrap IntKind.i64 (yAdd (yInt i) (1 : Int))) nv = false → False)) ∧ (yNlt (yNadd (nat_lit 0) (yNat (yWrap IntKind.i64 (ySub (yWrap IntKind.i64 (yAdd (yInt i) (1 : Int))) (1 : Int))))) nv = false → False)) ∧ (yIn (yWrap IntKind.i64 (ySub (yWrap IntKind.i64 (yAdd (yInt i) (1 : Int))) (1 : Int))) nv = false → False)))) ∧ (yLt (yInt i) (yWrap IntKind.i64 (ySub (yInt nv) (1 : Int))) = false → (rightC cs ct cf cl cp = true → (true = true → (yNeq (rN (cloO cs ct cf s k w n0 a0 b0 j i)) (rN (cloO cs ct cf s k w n0 a0 b0 j i)) = true → (yGrow (yNadd (rN (cloO cs ct cf s k w n0 a0 b0 j i)) (nat_lit 1)) (nat_lit 16) = true → cs = cs ∧ ct = ct ∧ cf = cf ∧ cl = cl ∧ cp = cp ∧ rE (cloL cs ct cf s k w n0 a0 b0 j nv) = yAnd (rE (cloO cs ct cf s k w n0 a0 b0 j i)) (yNeq (nat_lit 1) (nat_lit 0)) ∧ nat_lit 0 = nat_lit 0 ∧ rN (cloL cs ct cf s k w n0 a0 b0 j nv) = yNadd (rN (cloO cs ct cf s k w n0 a0 b0 j i)) (nat_lit 1) ∧ rN (cloL cs ct cf s k w n0 a0 b0 j nv) = yNadd (rN (cloO cs ct cf s k w n0 a0 b0 j i)) (nat_lit 1) ∧ (∀ (i_1 : Nat), Nat.succ i_1 ≤ rN (cloL cs ct cf s k w n0 a0 b0 j nv) → rA (cloL cs ct cf s k w n0 a0 b0 j nv) i_1 = ySel (yNlt i_1 (rN (cloO cs ct cf s k w n0 a0 b0 j i))) (rA (cloO cs ct cf s k w n0 a0 b0 j i) i_1) (shapeC cs ct cf s) ∧ rB (cloL cs ct cf s k w n0 a0 b0 j nv) i_1 = ySel (yNlt i_1 (rN (cloO cs ct cf s k w n0 a0 b0 j i))) (rB (cloO cs ct cf s k w n0 a0 b0 j i) i_1) (packC false (yWrap IntKind.i64 (ySub (yInt nv) (1 : Int)))) ∧ True) ∧ true = true) ∧ (yGrow (yNadd (rN (cloO cs ct cf s k w n0 a0 b0 j i)) (nat_lit 1)) (nat_lit 16) = false → False)) ∧ (yNeq (rN (cloO cs ct cf s k w n0 a0 b0 j i)) (rN (cloO cs ct cf s k w n0 a0 b0 j i)) = false → False)) ∧ (true = false → False)) ∧ (rightC cs ct cf cl cp = false → False)))
set_option maxRecDepth 100000 in
theorem goalClo_eq : goalClo = goalCloV := by kernel_rfl
set_option maxRecDepth 100000 in
set_option maxHeartbeats 4000000 in
theorem goalClo_vc : goalCloV := by
  unfold goalCloV
  intro cs ct cf cl cp s v kn k vn nv w l nil0 n0 a0 b0 j hr hnv hn0 hj h0
  simp only [yNle_t, yNlt_t, yIff_t] at hnv hn0 hj h0
  obtain ⟨z1, z2, z3⟩ := cloO_zero (cs := cs) (ct := ct) (cf := cf) (s := s) (k := k) (w := w) (n0 := n0) (a0 := a0) (b0 := b0) (j := j) h0
  simp only [yNot_t, yNot_f, yEq_t, yEq_f, yAnd_t, yAnd_f, yOr_t, yOr_f, yIff_t, yIff_f, yLt_t, yLt_f, yLe_t, yLe_f, yIn_t, yIn_f, yNlt_t, yNlt_f, yNle_t, yNle_f, yNeq_t, yNeq_f, yGrow_t, yGrow_f, yInt_e, yNat_e, yNadd_e, yNsub_e, yAdd_e, ySub_e, yMul_e, yCol_int, yCol_bool, true_and, and_true, Nat.zero_add, Nat.add_zero, Nat.le_refl, forall_const, true_implies, Bool.true_eq_false, Bool.false_eq_true, false_implies, hr, msFit, false_or, or_false]
  refine ⟨⟨j, ⟨Nat.le_refl _, hj⟩, rfl, z1, z2, z2, z3⟩, fun _ i hi => ?_⟩
  have hlen : rN (cloO cs ct cf s k w n0 a0 b0 j i) = n0 + 2 * (i - j) := by
    have := cloO_len (cs := cs) (ct := ct) (cf := cf) (s := s) (k := k) (w := w) (n0 := n0) (a0 := a0) (b0 := b0) (j := j) (i - j)
    rwa [show j + (i - j) = i by omega] at this
  have hst := cloO_step (cs := cs) (ct := ct) (cf := cf) (s := s) (k := k) (w := w) (n0 := n0) (a0 := a0) (b0 := b0) hi.1
  have e1 : yWrap .i64 ((i : Int) + 1) = ((i + 1 : Nat) : Int) := by rw [wrap64 (by omega) (by omega)]; rfl
  have e2 : yWrap .i64 ((nv : Int) - 1) = (nv : Int) - 1 := wrap64 (by omega) (by omega)
  simp only [e1, e2, yNat_e]
  refine ⟨fun hlt => ?_, fun hge => ?_⟩
  · repeat' (first | apply And.intro | intro _)
    all_goals first
      | omega
      | (refine ⟨i + 1, ⟨by omega, by omega⟩, by omega, rfl, ?_⟩
         rw [hst]
         refine ⟨by rw [rE_snoc, yAnd10], by rw [rN_snoc, rN_snoc], by rw [rN_snoc, rN_snoc], fun q hq => ?_⟩
         rw [rN_snoc, rN_snoc] at hq
         exact ⟨rA_snoc2 _ _ _ hq, rB_snoc2 _ _ _ hq⟩)
  · have hi2 : i = nv - 1 := by omega
    have hcl : cloL cs ct cf s k w n0 a0 b0 j nv = cloO cs ct cf s k w n0 a0 b0 j i ++ [(shapeC cs ct cf s, packC false ((nv : Int) - 1))] := by unfold cloL; rw [hi2]
    rw [hcl]
    refine ⟨⟨fun _ => ⟨by rw [rE_snoc, yAnd10], rN_snoc _ _, rN_snoc _ _, fun q hq => ?_⟩, fun h => by omega⟩, fun h => by omega⟩
    rw [rN_snoc] at hq
    exact ⟨rA_snoc _ _ hq, rB_snoc _ _ hq⟩
set_option maxRecDepth 100000 in
theorem goalClo_tt : (goalClo) = True := goalClo_eq.trans (eq_true goalClo_vc)
theorem goalClo_ok : goalClo := @ft' goalClo goalClo_tt
def goalShutV : Prop := (∀ (cs ct cf cl cp s v : Int) (kn : Bool) (k : Nat → Int) (vn : Bool) (nv : Nat) (w : Nat → Int) (l : Int) (nil0 : Bool) (n0 : Nat) (a0 b0 : Nat → Int) (j : Nat), rightC cs ct cf cl cp = true → yNle nv (nat_lit 80) = true → yNle n0 (nat_lit 1000) = true → yNlt j nv = true → yIff nil0 (yNeq n0 (nat_lit 0)) = true → yAnd (yLe (0 : Int) s) (yLe s cs) = true → yLe (yInt nv) cf = true → true = true ∧ (∃ (i0 : Nat), (j ≤ i0 ∧ Nat.succ i0 ≤ nv) ∧ true = true ∧ rE (cloO cs ct cf s k w n0 a0 b0 j i0) = nil0 ∧ nat_lit 0 = nat_lit 0 ∧ rN (cloO cs ct cf s k w n0 a0 b0 j i0) = n0 ∧ yInt (Nat.succ i0) = yWrap IntKind.i64 (yAdd (yInt j) (1 : Int)) ∧ rN (cloO cs ct cf s k w n0 a0 b0 j i0) = n0 ∧ (∀ (i : Nat), Nat.succ i ≤ rN (cloO cs ct cf s k w n0 a0 b0 j i0) → rA (cloO cs ct cf s k w n0 a0 b0 j i0) i = a0 i ∧ rB (cloO cs ct cf s k w n0 a0 b0 j i0) i = b0 i ∧ True) ∧ true = true) ∧ ∀ (g : Nat → AV) (i : Nat), j ≤ i ∧ Nat.succ i ≤ nv → (yLt (yInt (Nat.succ i)) (yInt nv) = true → (yNot false = true → (yIn (yInt (Nat.succ i)) nv = true → (yNlt (yNadd (nat_lit 0) (yNat (yInt (Nat.succ i)))) nv = true → (yIn (yInt (Nat.succ i)) nv = true → (yNlt (yNadd (nat_lit 0) (yNat (yInt (Nat.succ i)))) nv = true → (yNot false = true → (yAnd (yAnd (rightC cs ct cf cl cp) (yAnd (yLe (0 : Int) s) (yLe s cs))) (yAnd (yLe (0 : Int) (yWrap IntKind.i64 (ySub (yInt (Nat.succ i)) (1 : Int)))) (yLt (yWrap IntKind.i64 (ySub (yInt (Nat.succ i)) (1 : Int))) cf)) = true → (yNeq (rN (cloO cs ct cf s k w n0 a0 b0 j i)) (rN (cloO cs ct cf s k w n0 a0 b0 j i)) = true → (yGrow (yNadd (rN (cloO cs ct cf s k w n0 a0 b0 j i)) (nat_lit 1)) (nat_lit 16) = true → (yAnd (yAnd (rightC cs ct cf cl cp) (yAnd (yLe (0 : Int) s) (yLe s cs))) (yAnd (yLe (0 : Int) (yWrap IntKind.i64 (ySub (yInt (Nat.succ i)) (1 : Int)))) (yLt (yWrap IntKind.i64 (ySub (yInt (Nat.succ i)) (1 : Int))) cf)) = true → (yNeq (yNadd (rN (cloO cs ct cf s k w n0 a0 b0 j i)) (nat_lit 1)) (yNadd (rN (cloO cs ct cf s k w n0 a0 b0 j i)) (nat_lit 1)) = true → (yGrow (yNadd (yNadd (rN (cloO cs ct cf s k w n0 a0 b0 j i)) (nat_lit 1)) (nat_lit 1)) (nat_lit 16) = true → true = true ∧ ∃ (i' : Nat), (j ≤ i' ∧ Nat.succ i' ≤ nv) ∧ Nat.succ (msFit nv i') ≤ msFit nv i ∧ true = true ∧ rE (cloO cs ct cf s k w n0 a0 b0 j i') = yAnd (yAnd (rE (cloO cs ct cf s k w n0 a0 b0 j i)) (yNeq (nat_lit 1) (nat_lit 0))) (yNeq (nat_lit 1) (nat_lit 0)) ∧ nat_lit 0 = nat_lit 0 ∧ rN (cloO cs ct cf s k w n0 a0 b0 j i') = yNadd (yNadd (rN (cloO cs ct cf s k w n0 a0 b0 j i)) (nat_lit 1)) (nat_lit 1) ∧ yInt (Nat.succ i') = yWrap IntKind.i64 (yAdd (yInt (Nat.succ i)) (1 : Int)) ∧ rN (cloO cs ct cf s k w n0 a0 b0 j i') = yNadd (yNadd (rN (cloO cs ct cf s k w n0 a0 b0 j i)) (nat_lit 1)) (nat_lit 1) ∧ (∀ (i_1 : Nat), Nat.succ i_1 ≤ rN (cloO cs ct cf s k w n0 a0 b0 j i') → rA (cloO cs ct cf s k w n0 a0 b0 j i') i_1 = ySel (yNlt i_1 (yNadd (rN (cloO cs ct cf s k w n0 a0 b0 j i)) (nat_lit 1))) (ySel (yNlt i_1 (rN (cloO cs ct cf s k w n0 a0 b0 j i))) (rA (cloO cs ct cf s k w n0 a0 b0 j i) i_1) (keyC cs ct cf s (yWrap IntKind.i64 (ySub (yInt (Nat.succ i)) (1 : Int))))) (valC cs ct cf s (yWrap IntKind.i64 (ySub (yInt (Nat.succ i)) (1 : Int)))) ∧ rB (cloO cs ct cf s k w n0 a0 b0 j i') i_1 = ySel (yNlt i_1 (yNadd (rN (cloO cs ct cf s k w n0 a0 b0 j i)) (nat_lit 1))) (ySel (yNlt i_1 (rN (cloO cs ct cf s k w n0 a0 b0 j i))) (rB (cloO cs ct cf s k w n0 a0 b0 j i) i_1) (k (yNadd (nat_lit 0) (yNat (yInt (Nat.succ i)))))) (w (yNadd (nat_lit 0) (yNat (yInt (Nat.succ i))))) ∧ True) ∧ true = true) ∧ (yGrow (yNadd (yNadd (rN (cloO cs ct cf s k w n0 a0 b0 j i)) (nat_lit 1)) (nat_lit 1)) (nat_lit 16) = false → False)) ∧ (yNeq (yNadd (rN (cloO cs ct cf s k w n0 a0 b0 j i)) (nat_lit 1)) (yNadd (rN (cloO cs ct cf s k w n0 a0 b0 j i)) (nat_lit 1)) = false → False)) ∧ (yAnd (yAnd (rightC cs ct cf cl cp) (yAnd (yLe (0 : Int) s) (yLe s cs))) (yAnd (yLe (0 : Int) (yWrap IntKind.i64 (ySub (yInt (Nat.succ i)) (1 : Int)))) (yLt (yWrap IntKind.i64 (ySub (yInt (Nat.succ i)) (1 : Int))) cf)) = false → False)) ∧ (yGrow (yNadd (rN (cloO cs ct cf s k w n0 a0 b0 j i)) (nat_lit 1)) (nat_lit 16) = false → False)) ∧ (yNeq (rN (cloO cs ct cf s k w n0 a0 b0 j i)) (rN (cloO cs ct cf s k w n0 a0 b0 j i)) = false → False)) ∧ (yAnd (yAnd (rightC cs ct cf cl cp) (yAnd (yLe (0 : Int) s) (yLe s cs))) (yAnd (yLe (0 : Int) (yWrap IntKind.i64 (ySub (yInt (Nat.succ i)) (1 : Int)))) (yLt (yWrap IntKind.i64 (ySub (yInt (Nat.succ i)) (1 : Int))) cf)) = false → False)) ∧ (yNot false = false → (yLt (0 : Int) (yWrap IntKind.i64 (ySub (yInt (Nat.succ i)) (1 : Int))) = true → (yAnd (yAnd (rightC cs ct cf cl cp) (yAnd (yLe (0 : Int) s) (yLe s cs))) (yAnd (yLe (0 : Int) (yWrap IntKind.i64 (ySub (yWrap IntKind.i64 (ySub (yInt (Nat.succ i)) (1 : Int))) (1 : Int)))) (yLt (yWrap IntKind.i64 (ySub (yWrap IntKind.i64 (ySub (yInt (Nat.succ i)) (1 : Int))) (1 : Int))) cf)) = true → (yNeq (rN (cloO cs ct cf s k w n0 a0 b0 j i)) (rN (cloO cs ct cf s k w n0 a0 b0 j i)) = true → (yGrow (yNadd (rN (cloO cs ct cf s k w n0 a0 b0 j i)) (nat_lit 1)) (nat_lit 16) = true → (yAnd (yAnd (rightC cs ct cf cl cp) (yAnd (yLe (0 : Int) s) (yLe s cs))) (yAnd (yLe (0 : Int) (yWrap IntKind.i64 (ySub (yInt (Nat.succ i)) (1 : Int)))) (yLt (yWrap IntKind.i64 (ySub (yInt (Nat.succ i)) (1 : Int))) cf)) = true → (yNeq (yNadd (rN (cloO cs ct cf s k w n0 a0 b0 j i)) (nat_lit 1)) (yNadd (rN (cloO cs ct cf s k w n0 a0 b0 j i)) (nat_lit 1)) = true → (yGrow (yNadd (yNadd (rN (cloO cs ct cf s k w n0 a0 b0 j i)) (nat_lit 1)) (nat_lit 1)) (nat_lit 16) = true → true = true ∧ ∃ (i' : Nat), (j ≤ i' ∧ Nat.succ i' ≤ nv) ∧ Nat.succ (msFit nv i') ≤ msFit nv i ∧ true = true ∧ rE (cloO cs ct cf s k w n0 a0 b0 j i') = yAnd (yAnd (rE (cloO cs ct cf s k w n0 a0 b0 j i)) (yNeq (nat_lit 1) (nat_lit 0))) (yNeq (nat_lit 1) (nat_lit 0)) ∧ nat_lit 0 = nat_lit 0 ∧ rN (cloO cs ct cf s k w n0 a0 b0 j i') = yNadd (yNadd (rN (cloO cs ct cf s k w n0 a0 b0 j i)) (nat_lit 1)) (nat_lit 1) ∧ yInt (Nat.succ i') = yWrap IntKind.i64 (yAdd (yInt (Nat.succ i)) (1 : Int)) ∧ rN (cloO cs ct cf s k w n0 a0 b0 j i') = yNadd (yNadd (rN (cloO cs ct cf s k w n0 a0 b0 j i)) (nat_lit 1)) (nat_lit 1) ∧ (∀ (i_1 : Nat), Nat.succ i_1 ≤ rN (cloO cs ct cf s k w n0 a0 b0 j i') → rA (cloO cs ct cf s k w n0 a0 b0 j i') i_1 = ySel (yNlt i_1 (yNadd (rN (cloO cs ct cf s k w n0 a0 b0 j i)) (nat_lit 1))) (ySel (yNlt i_1 (rN (cloO cs ct cf s k w n0 a0 b0 j i))) (rA (cloO cs ct cf s k w n0 a0 b0 j i) i_1) (keyC cs ct cf s (yWrap IntKind.i64 (ySub (yWrap IntKind.i64 (ySub (yInt (Nat.succ i)) (1 : Int))) (1 : Int))))) (valC cs ct cf s (yWrap IntKind.i64 (ySub (yInt (Nat.succ i)) (1 : Int)))) ∧ rB (cloO cs ct cf s k w n0 a0 b0 j i') i_1 = ySel (yNlt i_1 (yNadd (rN (cloO cs ct cf s k w n0 a0 b0 j i)) (nat_lit 1))) (ySel (yNlt i_1 (rN (cloO cs ct cf s k w n0 a0 b0 j i))) (rB (cloO cs ct cf s k w n0 a0 b0 j i) i_1) (k (yNadd (nat_lit 0) (yNat (yInt (Nat.succ i)))))) (w (yNadd (nat_lit 0) (yNat (yInt (Nat.succ i))))) ∧ True) ∧ true = true) ∧ (yGrow (yNadd (yNadd (rN (cloO cs ct cf s k w n0 a0 b0 j i)) (nat_lit 1)) (nat_lit 1)) (nat_lit 16) = false → False)) ∧ (yNeq (yNadd (rN (cloO cs ct cf s k w n0 a0 b0 j i)) (nat_lit 1)) (yNadd (rN (cloO cs ct cf s k w n0 a0 b0 j i)) (nat_lit 1)) = false → False)) ∧ (yAnd (yAnd (rightC cs ct cf cl cp) (yAnd (yLe (0 : Int) s) (yLe s cs))) (yAnd (yLe (0 : Int) (yWrap IntKind.i64 (ySub (yInt (Nat.succ i)) (1 : Int)))) (yLt (yWrap IntKind.i64 (ySub (yInt (Nat.succ i)) (1 : Int))) cf)) = false → False)) ∧ (yGrow (yNadd (rN (cloO cs ct cf s k w n0 a0 b0 j i)) (nat_lit 1)) (nat_lit 16) = false → False)) ∧ (yNeq (rN (cloO cs ct cf s k w n0 a0 b0 j i)) (rN (cloO cs ct cf s k w n0 a0 b0 j i)) = false → False)) ∧ (yAnd (yAnd (rightC cs ct cf cl cp) (yAnd (yLe (0 : Int) s) (yLe s cs))) (yAnd (yLe (0 : Int) (yWrap IntKind.i64 (ySub (yWrap IntKind.i64 (ySub (yInt (Nat.succ i)) (1 : Int))) (1 : Int)))) (yLt (yWrap IntKind.i64 (ySub (yWrap IntKind.i64 (ySub (yInt (Nat.succ i)) (1 : Int))) (1 : Int))) cf)) = false → False)) ∧ (yLt (0 : Int) (yWrap IntKind.i64 (ySub (yInt (Nat.succ i)) (1 : Int))) = false → (yAnd (yAnd (rightC cs ct cf cl cp) (yAnd (yLe (0 : Int) s) (yLe s cs))) (yAnd (yLe (0 : Int) (yWrap IntKind.i64 (ySub (yInt (Nat.succ i)) (1 : Int)))) (yLt (yWrap IntKind.i64 (ySub (yInt (Nat.succ i)) (1 : Int))) cf)) = true → (yNeq (rN (cloO cs ct cf s k w n0 a0 b0 j i)) (rN (cloO cs ct cf s k w n0 a0 b0 j i)) = true → (yGrow (yNadd (rN (cloO cs ct cf s k w n0 a0 b0 j i)) (nat_lit 1)) (nat_lit 16) = true → true = true ∧ ∃ (i' : Nat), (j ≤ i' ∧ Nat.succ i' ≤ nv) ∧ Nat.succ (msFit nv i') ≤ msFit nv i ∧ true = true ∧ rE (cloO cs ct cf s k w n0 a0 b0 j i') = yAnd (rE (cloO cs ct cf s k w n0 a0 b0 j i)) (yNeq (nat_lit 1) (nat_lit 0)) ∧ nat_lit 0 = nat_lit 0 ∧ rN (cloO cs ct cf s k w n0 a0 b0 j i') = yNadd (rN (cloO cs ct cf s k w n0 a0 b0 j i)) (nat_lit 1) ∧ yInt (Nat.succ i') = yWrap IntKind.i64 (yAdd (yInt (Nat.succ i)) (1 : Int)) ∧ rN (cloO cs ct cf s k w n0 a0 b0 j i') = yNadd (rN (cloO cs ct cf s k w n0 a0 b0 j i)) (nat_lit 1) ∧ (∀ (i_1 : Nat), Nat.succ i_1 ≤ rN (cloO cs ct cf s k w n0 a0 b0 j i') → rA (cloO cs ct cf s k w n0 a0 b0 j i') i_1 = ySel (yNlt i_1 (rN (cloO cs ct cf s k w n0 a0 b0 j i))) (rA (cloO cs ct cf s k w n0 a0 b0 j i) i_1) (valC cs ct cf s (yWrap IntKind.i64 (ySub (yInt (Nat.succ i)) (1 : Int)))) ∧ rB (cloO cs ct cf s k w n0 a0 b0 j i') i_1 = ySel (yNlt i_1 (rN (cloO cs ct cf s k w n0 a0 b0 j i))) (rB (cloO cs ct cf s k w n0 a0 b0 j i) i_1) (w (yNadd (nat_lit 0) (yNat (yInt (Nat.succ i))))) ∧ True) ∧ true = true) ∧ (yGrow (yNadd (rN (cloO cs ct cf s k w n0 a0 b0 j i)) (nat_lit 1)) (nat_lit 16) = false → False)) ∧ (yNeq (rN (cloO cs ct cf s k w n0 a0 b0 j i)) (rN (cloO cs ct cf s k w n0 a0 b0 j i)) = false → False)) ∧ (yAnd (yAnd (rightC cs ct cf cl cp) (yAnd (yLe (0 : Int) s) (yLe s cs))) (yAnd (yLe (0 : Int) (yWrap IntKind.i64 (ySub (yInt (Nat.succ i)) (1 : Int)))) (yLt (yWrap IntKind.i64 (ySub (yInt (Nat.succ i)) (1 : Int))) cf)) = false → False)))) ∧ (yNlt (yNadd (nat_lit 0) (yNat (yInt (Nat.succ i)))) nv = false → False)) ∧ (yIn (yInt (Nat.succ i)) nv = false → False)) ∧ (yNlt (yNadd (nat_lit 0) (yNat (yInt (Nat.succ i)))) nv = false → False)) ∧ (yIn (yInt (Nat.succ i)) nv = false → False)) ∧ (yNot false = false → (yEq (yInt (Nat.succ i)) (0 : Int) = true → (yIn (yInt (Nat.succ i)) nv = true → (yNlt (yNadd (nat_lit 0) (yNat (yInt (Nat.succ i)))) nv = true → (yNot false = true → (yAnd (yAnd (rightC cs ct cf cl cp) (yAnd (yLe (0 : Int) s) (yLe s cs))) (yAnd (yLe (0 : Int) (yWrap IntKind.i64 (ySub (yInt (Nat.succ i)) (1 : Int)))) (yLt (yWrap IntKind.i64 (ySub (yInt (Nat.succ i)) (1 : Int))) cf)) = true → (yNeq (rN (cloO cs ct cf s k w n0 a0 b0 j i)) (rN (cloO cs ct cf s k w n0 a0 b0 j i)) = true → (yGrow (yNadd (rN (cloO cs ct cf s k w n0 a0 b0 j i)) (nat_lit 1)) (nat_lit 16) = true → (yAnd (yAnd (rightC cs ct cf cl cp) (yAnd (yLe (0 : Int) s) (yLe s cs))) (yAnd (yLe (0 : Int) (yWrap IntKind.i64 (ySub (yInt (Nat.succ i)) (1 : Int)))) (yLt (yWrap IntKind.i64 (ySub (yInt (Nat.succ i)) (1 : Int))) cf)) = true → (yNeq (yNadd (rN (cloO cs ct cf s k w n0 a0 b0 j i)) (nat_lit 1)) (yNadd (rN (cloO cs ct cf s k w n0 a0 b0 j i)) (nat_lit 1)) = true → (yGrow (yNadd (yNadd (rN (cloO cs ct cf s k w n0 a0 b0 j i)) (nat_lit 1)) (nat_lit 1)) (nat_lit 16) = true → true = true ∧ ∃ (i' : Nat), (j ≤ i' ∧ Nat.succ i' ≤ nv) ∧ Nat.succ (msFit nv i') ≤ msFit nv i ∧ true = true ∧ rE (cloO cs ct cf s k w n0 a0 b0 j i') = yAnd (yAnd (rE (cloO cs ct cf s k w n0 a0 b0 j i)) (yNeq (nat_lit 1) (nat_lit 0))) (yNeq (nat_lit 1) (nat_lit 0)) ∧ nat_lit 0 = nat_lit 0 ∧ rN (cloO cs ct cf s k w n0 a0 b0 j i') = yNadd (yNadd (rN (cloO cs ct cf s k w n0 a0 b0 j i)) (nat_lit 1)) (nat_lit 1) ∧ yInt (Nat.succ i') = yWrap IntKind.i64 (yAdd (yInt (Nat.succ i)) (1 : Int)) ∧ rN (cloO cs ct cf s k w n0 a0 b0 j i') = yNadd (yNadd (rN (cloO cs ct cf s k w n0 a0 b0 j i)) (nat_lit 1)) (nat_lit 1) ∧ (∀ (i_1 : Nat), Nat.succ i_1 ≤ rN (cloO cs ct cf s k w n0 a0 b0 j i') → rA (cloO cs ct cf s k w n0 a0 b0 j i') i_1 = ySel (yNlt i_1 (yNadd (rN (cloO cs ct cf s k w n0 a0 b0 j i)) (nat_lit 1))) (ySel (yNlt i_1 (rN (cloO cs ct cf s k w n0 a0 b0 j i))) (rA (cloO cs ct cf s k w n0 a0 b0 j i) i_1) (keyC cs ct cf s (yWrap IntKind.i64 (ySub (yInt (Nat.succ i)) (1 : Int))))) (valC cs ct cf s (yWrap IntKind.i64 (ySub (yInt (Nat.succ i)) (1 : Int)))) ∧ rB (cloO cs ct cf s k w n0 a0 b0 j i') i_1 = ySel (yNlt i_1 (yNadd (rN (cloO cs ct cf s k w n0 a0 b0 j i)) (nat_lit 1))) (ySel (yNlt i_1 (rN (cloO cs ct cf s k w n0 a0 b0 j i))) (rB (cloO cs ct cf s k w n0 a0 b0 j i) i_1) (0 : Int)) (w (yNadd (nat_lit 0) (yNat (yInt (Nat.succ i))))) ∧ True) ∧ true = true) ∧ (yGrow (yNadd (yNadd (rN (cloO cs ct cf s k w n0 a0 b0 j i)) (nat_lit 1)) (nat_lit 1)) (nat_lit 16) = false → False)) ∧ (yNeq (yNadd (rN (cloO cs ct cf s k w n0 a0 b0 j i)) (nat_lit 1)) (yNadd (rN (cloO cs ct cf s k w n0 a0 b0 j i)) (nat_lit 1)) = false → False)) ∧ (yAnd (yAnd (rightC cs ct cf cl cp) (yAnd (yLe (0 : Int) s) (yLe s cs))) (yAnd (yLe (0 : Int) (yWrap IntKind.i64 (ySub (yInt (Nat.succ i)) (1 : Int)))) (yLt (yWrap IntKind.i64 (ySub (yInt (Nat.succ i)) (1 : Int))) cf)) = false → False)) ∧ (yGrow (yNadd (rN (cloO cs ct cf s k w n0 a0 b0 j i)) (nat_lit 1)) (nat_lit 16) = false → False)) ∧ (yNeq (rN (cloO cs ct cf s k w n0 a0 b0 j i)) (rN (cloO cs ct cf s k w n0 a0 b0 j i)) = false → False)) ∧ (yAnd (yAnd (rightC cs ct cf cl cp) (yAnd (yLe (0 : Int) s) (yLe s cs))) (yAnd (yLe (0 : Int) (yWrap IntKind.i64 (ySub (yInt (Nat.succ i)) (1 : Int)))) (yLt (yWrap IntKind.i64 (ySub (yInt (Nat.succ i)) (1 : Int))) cf)) = false → False)) ∧ (yNot false = false → (yLt (0 : Int) (yWrap IntKind.i64 (ySub (yInt (Nat.succ i)) (1 : Int))) = true → (yAnd (yAnd (rightC cs ct cf cl cp) (yAnd (yLe (0 : Int) s) (yLe s cs))) (yAnd (yLe (0 : Int) (yWrap IntKind.i64 (ySub (yWrap IntKind.i64 (ySub (yInt (Nat.succ i)) (1 : Int))) (1 : Int)))) (yLt (yWrap IntKind.i64 (ySub (yWrap IntKind.i64 (ySub (yInt (Nat.succ i)) (1 : Int))) (1 : Int))) cf)) = true → (yNeq (rN (cloO cs ct cf s k w n0 a0 b0 j i)) (rN (cloO cs ct cf s k w n0 a0 b0 j i)) = true → (yGrow (yNadd (rN (cloO cs ct cf s k w n0 a0 b0 j i)) (nat_lit 1)) (nat_lit 16) = true → (yAnd (yAnd (rightC cs ct cf cl cp) (yAnd (yLe (0 : Int) s) (yLe s cs))) (yAnd (yLe (0 : Int) (yWrap IntKind.i64 (ySub (yInt (Nat.succ i)) (1 : Int)))) (yLt (yWrap IntKind.i64 (ySub (yInt (Nat.succ i)) (1 : Int))) cf)) = true → (yNeq (yNadd (rN (cloO cs ct cf s k w n0 a0 b0 j i)) (nat_lit 1)) (yNadd (rN (cloO cs ct cf s k w n0 a0 b0 j i)) (nat_lit 1)) = true → (yGrow (yNadd (yNadd (rN (cloO cs ct cf s k w n0 a0 b0 j i)) (nat_lit 1)) (nat_lit 1)) (nat_lit 16) = true → true = true ∧ ∃ (i' : Nat), (j ≤ i' ∧ Nat.succ i' ≤ nv) ∧ Nat.succ (msFit nv i') ≤ msFit nv i ∧ true = true ∧ rE (cloO cs ct cf s k w n0 a0 b0 j i') = yAnd (yAnd (rE (cloO cs ct cf s k w n0 a0 b0 j i)) (yNeq (nat_lit 1) (nat_lit 0))) (yNeq (nat_lit 1) (nat_lit 0)) ∧ nat_lit 0 = nat_lit 0 ∧ rN (cloO cs ct cf s k w n0 a0 b0 j i') = yNadd (yNadd (rN (cloO cs ct cf s k w n0 a0 b0 j i)) (nat_lit 1)) (nat_lit 1) ∧ yInt (Nat.succ i') = yWrap IntKind.i64 (yAdd (yInt (Nat.succ i)) (1 : Int)) ∧ rN (cloO cs ct cf s k w n0 a0 b0 j i') = yNadd (yNadd (rN (cloO cs ct cf s k w n0 a0 b0 j i)) (nat_lit 1)) (nat_lit 1) ∧ (∀ (i_1 : Nat), Nat.succ i_1 ≤ rN (cloO cs ct cf s k w n0 a0 b0 j i') → rA (cloO cs ct cf s k w n0 a0 b0 j i') i_1 = ySel (yNlt i_1 (yNadd (rN (cloO cs ct cf s k w n0 a0 b0 j i)) (nat_lit 1))) (ySel (yNlt i_1 (rN (cloO cs ct cf s k w n0 a0 b0 j i))) (rA (cloO cs ct cf s k w n0 a0 b0 j i) i_1) (keyC cs ct cf s (yWrap IntKind.i64 (ySub (yWrap IntKind.i64 (ySub (yInt (Nat.succ i)) (1 : Int))) (1 : Int))))) (valC cs ct cf s (yWrap IntKind.i64 (ySub (yInt (Nat.succ i)) (1 : Int)))) ∧ rB (cloO cs ct cf s k w n0 a0 b0 j i') i_1 = ySel (yNlt i_1 (yNadd (rN (cloO cs ct cf s k w n0 a0 b0 j i)) (nat_lit 1))) (ySel (yNlt i_1 (rN (cloO cs ct cf s k w n0 a0 b0 j i))) (rB (cloO cs ct cf s k w n0 a0 b0 j i) i_1) (0 : Int)) (w (yNadd (nat_lit 0) (yNat (yInt (Nat.succ i))))) ∧ True) ∧ true = true) ∧ (yGrow (yNadd (yNadd (rN (cloO cs ct cf s k w n0 a0 b0 j i)) (nat_lit 1)) (nat_lit 1)) (nat_lit 16) = false → False)) ∧ (yNeq (yNadd (rN (cloO cs ct cf s k w n0 a0 b0 j i)) (nat_lit 1)) (yNadd (rN (cloO cs ct cf s k w n0 a0 b0 j i)) (nat_lit 1)) = false → False)) ∧ (yAnd (yAnd (rightC cs ct cf cl cp) (yAnd (yLe (0 : Int) s) (yLe s cs))) (yAnd (yLe (0 : Int) (yWrap IntKind.i64 (ySub (yInt (Nat.succ i)) (1 : Int)))) (yLt (yWrap IntKind.i64 (ySub (yInt (Nat.succ i)) (1 : Int))) cf)) = false → False)) ∧ (yGrow (yNadd (rN (cloO cs ct cf s k w n0 a0 b0 j i)) (nat_lit 1)) (nat_lit 16) = false → False)) ∧ (yNeq (rN (cloO cs ct cf s k w n0 a0 b0 j i)) (rN (cloO cs ct cf s k w n0 a0 b0 j i)) = false → False)) ∧ (yAnd (yAnd (rightC cs ct cf cl cp) (yAnd (yLe (0 : Int) s) (yLe s cs))) (yAnd (yLe (0 : Int) (yWrap IntKind.i64 (ySub (yWrap IntKind.i64 (ySub (yInt (Nat.succ i)) (1 : Int))) (1 : Int)))) (yLt (yWrap IntKind.i64 (ySub (yWrap IntKind.i64 (ySub (yInt (Nat.succ i)) (1 : Int))) (1 : Int))) cf)) = false → False)) ∧ (yLt (0 : Int) (yWrap IntKind.i64 (ySub (yInt (Nat.succ i)) (1 : Int))) = false → (yAnd (yAnd (rightC cs ct cf cl cp) (yAnd (yLe (0 : Int) s) (yLe s cs))) (yAnd (yLe (0 : Int) (yWrap IntKind.i64 (ySub (yInt (Nat.succ i)) (1 : Int)))) (yLt (yWrap IntKind.i64 (ySub (yInt (Nat.succ i)) (1 : Int))) cf)) = true → (yNeq (rN (cloO cs ct cf s k w n0 a0 b0 j i)) (rN (cloO cs ct cf s k w n0 a0 b0 j i)) = true → (yGrow (yNadd (rN (cloO cs ct cf s k w n0 a0 b0 j i)) (nat_lit 1)) (nat_lit 16) = true → true = true ∧ ∃ (i' : Nat), (j ≤ i' ∧ Nat.succ i' ≤ nv) ∧ Nat.succ (msFit nv i') ≤ msFit nv i ∧ true = true ∧ rE (cloO cs ct cf s k w n0 a0 b0 j i') = yAnd (rE (cloO cs ct cf s k w n0 a0 b0 j i)) (yNeq (nat_lit 1) (nat_lit 0)) ∧ nat_lit 0 = nat_lit 0 ∧ rN (cloO cs ct cf s k w n0 a0 b0 j i') = yNadd (rN (cloO cs ct cf s k w n0 a0 b0 j i)) (nat_lit 1) ∧ yInt (Nat.succ i') = yWrap IntKind.i64 (yAdd (yInt (Nat.succ i)) (1 : Int)) ∧ rN (cloO cs ct cf s k w n0 a0 b0 j i') = yNadd (rN (cloO cs ct cf s k w n0 a0 b0 j i)) (nat_lit 1) ∧ (∀ (i_1 : Nat), Nat.succ i_1 ≤ rN (cloO cs ct cf s k w n0 a0 b0 j i') → rA (cloO cs ct cf s k w n0 a0 b0 j i') i_1 = ySel (yNlt i_1 (rN (cloO cs ct cf s k w n0 a0 b0 j i))) (rA (cloO cs ct cf s k w n0 a0 b0 j i) i_1) (valC cs ct cf s (yWrap IntKind.i64 (ySub (yInt (Nat.succ i)) (1 : Int)))) ∧ rB (cloO cs ct cf s k w n0 a0 b0 j i') i_1 = ySel (yNlt i_1 (rN (cloO cs ct cf s k w n0 a0 b0 j i))) (rB (cloO cs ct cf s k w n0 a0 b0 j i) i_1) (w (yNadd (nat_lit 0) (yNat (yInt (Nat.succ i))))) ∧ True) ∧ true = true) ∧ (yGrow (yNadd (rN (cloO cs ct cf s k w n0 a0 b0 j i)) (nat_lit 1)) (nat_lit 16) = false → False)) ∧ (yNeq (rN (cloO cs ct cf s k w n0 a0 b0 j i)) (rN (cloO cs ct cf s k w n0 a0 b0 j i)) = false → False)) ∧ (yAnd (yAnd (rightC cs ct cf cl cp) (yAnd (yLe (0 : Int) s) (yLe s cs))) (yAnd (yLe (0 : Int) (yWrap IntKind.i64 (ySub (yInt (Nat.succ i)) (1 : Int)))) (yLt (yWrap IntKind.i64 (ySub (yInt (Nat.succ i)) (1 : Int))) cf)) = false → False)))) ∧ (yNlt (yNadd (nat_lit 0) (yNat (yInt (Nat.succ i)))) nv = false → False)) ∧ (yIn (yInt (Nat.succ i)) nv = false → False)) ∧ (yEq (yInt (Nat.succ i)) (0 : Int) = false → (yIn (yWrap IntKind.i64 (ySub (yInt (Nat.succ i)) (1 : Int))) nv = true → (yNlt (yNadd (nat_lit 0) (yNat (yWrap IntKind.i64 (ySub (yInt (Nat.succ i)) (1 : Int))))) nv = true → (yIn (yInt (Nat.succ i)) nv = true → (yNlt (yNadd (nat_lit 0) (yNat (yInt (Nat.succ i)))) nv = true → (yNot false = true → (yAnd (yAnd (rightC cs ct cf cl cp) (yAnd (yLe (0 : Int) s) (yLe s cs))) (yAnd (yLe (0 : Int) (yWrap IntKind.i64 (ySub (yInt (Nat.succ i)) (1 : Int)))) (yLt (yWrap IntKind.i64 (ySub (yInt (Nat.succ i)) (1 : Int))) cf)) = true → (yNeq (rN (cloO cs ct cf s k w n0 a0 b0 j i)) (rN (cloO cs ct cf s k w n0 a0 b0 j i)) = true → (yGrow (yNadd (rN (cloO cs ct cf s k w n0 a0 b0 j i)) (nat_lit 1)) (nat_lit 16) = true → (yAnd (yAnd (rightC cs ct cf cl cp) (yAnd (yLe (0 : Int) s) (yLe s cs))) (yAnd (yLe (0 : Int) (yWrap IntKind.i64 (ySub (yInt (Nat.succ i)) (1 : Int)))) (yLt (yWrap IntKind.i64 (ySub (yInt (Nat.succ i)) (1 : Int))) cf)) = true → (yNeq (yNadd (rN (cloO cs ct cf s k w n0 a0 b0 j i)) (nat_lit 1)) (yNadd (rN (cloO cs ct cf s k w n0 a0 b0 j i)) (nat_lit 1)) = true → (yGrow (yNadd (yNadd (rN (cloO cs ct cf s k w n0 a0 b0 j i)) (nat_lit 1)) (nat_lit 1)) (nat_lit 16) = true → true = true ∧ ∃ (i' : Nat), (j ≤ i' ∧ Nat.succ i' ≤ nv) ∧ Nat.succ (msFit nv i') ≤ msFit nv i ∧ true = true ∧ rE (cloO cs ct cf s k w n0 a0 b0 j i') = yAnd (yAnd (rE (cloO cs ct cf s k w n0 a0 b0 j i)) (yNeq (nat_lit 1) (nat_lit 0))) (yNeq (nat_lit 1) (nat_lit 0)) ∧ nat_lit 0 = nat_lit 0 ∧ rN (cloO cs ct cf s k w n0 a0 b0 j i') = yNadd (yNadd (rN (cloO cs ct cf s k w n0 a0 b0 j i)) (nat_lit 1)) (nat_lit 1) ∧ yInt (Nat.succ i') = yWrap IntKind.i64 (yAdd (yInt (Nat.succ i)) (1 : Int)) ∧ rN (cloO cs ct cf s k w n0 a0 b0 j i') = yNadd (yNadd (rN (cloO cs ct cf s k w n0 a0 b0 j i)) (nat_lit 1)) (nat_lit 1) ∧ (∀ (i_1 : Nat), Nat.succ i_1 ≤ rN (cloO cs ct cf s k w n0 a0 b0 j i') → rA (cloO cs ct cf s k w n0 a0 b0 j i') i_1 = ySel (yNlt i_1 (yNadd (rN (cloO cs ct cf s k w n0 a0 b0 j i)) (nat_lit 1))) (ySel (yNlt i_1 (rN (cloO cs ct cf s k w n0 a0 b0 j i))) (rA (cloO cs ct cf s k w n0 a0 b0 j i) i_1) (keyC cs ct cf s (yWrap IntKind.i64 (ySub (yInt (Nat.succ i)) (1 : Int))))) (valC cs ct cf s (yWrap IntKind.i64 (ySub (yInt (Nat.succ i)) (1 : Int)))) ∧ rB (cloO cs ct cf s k w n0 a0 b0 j i') i_1 = ySel (yNlt i_1 (yNadd (rN (cloO cs ct cf s k w n0 a0 b0 j i)) (nat_lit 1))) (ySel (yNlt i_1 (rN (cloO cs ct cf s k w n0 a0 b0 j i))) (rB (cloO cs ct cf s k w n0 a0 b0 j i) i_1) (k (yNadd (nat_lit 0) (yNat (yWrap IntKind.i64 (ySub (yInt (Nat.succ i)) (1 : Int))))))) (w (yNadd (nat_lit 0) (yNat (yInt (Nat.succ i))))) ∧ True) ∧ true = true) ∧ (yGrow (yNadd (yNadd (rN (cloO cs ct cf s k w n0 a0 b0 j i)) (nat_lit 1)) (nat_lit 1)) (nat_lit 16) = false → False)) ∧ (yNeq (yNadd (rN (cloO cs ct cf s k w n0 a0 b0 j i)) (nat_lit 1)) (yNadd (rN (cloO cs ct cf s k w n0 a0 b0 j i)) (nat_lit 1)) = false → False)) ∧ (yAnd (yAnd (rightC cs ct cf cl cp) (yAnd (yLe (0 : Int) s) (yLe s cs))) (yAnd (yLe (0 : Int) (yWrap IntKind.i64 (ySub (yInt (Nat.succ i)) (1 : Int)))) (yLt (yWrap IntKind.i64 (ySub (yInt (Nat.succ i)) (1 : Int))) cf)) = false → False)) ∧ (yGrow (yNadd (rN (cloO cs ct cf s k w n0 a0 b0 j i)) (nat_lit 1)) (nat_lit 16) = false → False)) ∧ (yNeq (rN (cloO cs ct cf s k w n0 a0 b0 j i)) (rN (cloO cs ct cf s k w n0 a0 b0 j i)) = false → False)) ∧ (yAnd (yAnd (rightC cs ct cf cl cp) (yAnd (yLe (0 : Int) s) (yLe s cs))) (yAnd (yLe (0 : Int) (yWrap IntKind.i64 (ySub (yInt (Nat.succ i)) (1 : Int)))) (yLt (yWrap IntKind.i64 (ySub (yInt (Nat.succ i)) (1 : Int))) cf)) = false → False)) ∧ (yNot false = false → (yLt (0 : Int) (yWrap IntKind.i64 (ySub (yInt (Nat.succ i)) (1 : Int))) = true → (yAnd (yAnd (rightC cs ct cf cl cp) (yAnd (yLe (0 : Int) s) (yLe s cs))) (yAnd (yLe (0 : Int) (yWrap IntKind.i64 (ySub (yWrap IntKind.i64 (ySub (yInt (Nat.succ i)) (1 : Int))) (1 : Int)))) (yLt (yWrap IntKind.i64 (ySub (yWrap IntKind.i64 (ySub (yInt (Nat.succ i)) (1 : Int))) (1 : Int))) cf)) = true → (yNeq (rN (cloO cs ct cf s k w n0 a0 b0 j i)) (rN (cloO cs ct cf s k w n0 a0 b0 j i)) = true → (yGrow (yNadd (rN (cloO cs ct cf s k w n0 a0 b0 j i)) (nat_lit 1)) (nat_lit 16) = true → (yAnd (yAnd (rightC cs ct cf cl cp) (yAnd (yLe (0 : Int) s) (yLe s cs))) (yAnd (yLe (0 : Int) (yWrap IntKind.i64 (ySub (yInt (Nat.succ i)) (1 : Int)))) (yLt (yWrap IntKind.i64 (ySub (yInt (Nat.succ i)) (1 : Int))) cf)) = true → (yNeq (yNadd (rN (cloO cs ct cf s k w n0 a0 b0 j i)) (nat_lit 1)) (yNadd (rN (cloO cs ct cf s k w n0 a0 b0 j i)) (nat_lit 1)) = true → (yGrow (yNadd (yNadd (rN (cloO cs ct cf s k w n0 a0 b0 j i)) (nat_lit 1)) (nat_lit 1)) (nat_lit 16) = true → true = true ∧ ∃ (i' : Nat), (j ≤ i' ∧ Nat.succ i' ≤ nv) ∧ Nat.succ (msFit nv i') ≤ msFit nv i ∧ true = true ∧ rE (cloO cs ct cf s k w n0 a0 b0 j i') = yAnd (yAnd (rE (cloO cs ct cf s k w n0 a0 b0 j i)) (yNeq (nat_lit 1) (nat_lit 0))) (yNeq (nat_lit 1) (nat_lit 0)) ∧ nat_lit 0 = nat_lit 0 ∧ rN (cloO cs ct cf s k w n0 a0 b0 j i') = yNadd (yNadd (rN (cloO cs ct cf s k w n0 a0 b0 j i)) (nat_lit 1)) (nat_lit 1) ∧ yInt (Nat.succ i') = yWrap IntKind.i64 (yAdd (yInt (Nat.succ i)) (1 : Int)) ∧ rN (cloO cs ct cf s k w n0 a0 b0 j i') = yNadd (yNadd (rN (cloO cs ct cf s k w n0 a0 b0 j i)) (nat_lit 1)) (nat_lit 1) ∧ (∀ (i_1 : Nat), Nat.succ i_1 ≤ rN (cloO cs ct cf s k w n0 a0 b0 j i') → rA (cloO cs ct cf s k w n0 a0 b0 j i') i_1 = ySel (yNlt i_1 (yNadd (rN (cloO cs ct cf s k w n0 a0 b0 j i)) (nat_lit 1))) (ySel (yNlt i_1 (rN (cloO cs ct cf s k w n0 a0 b0 j i))) (rA (cloO cs ct cf s k w n0 a0 b0 j i) i_1) (keyC cs ct cf s (yWrap IntKind.i64 (ySub (yWrap IntKind.i64 (ySub (yInt (Nat.succ i)) (1 : Int))) (1 : Int))))) (valC cs ct cf s (yWrap IntKind.i64 (ySub (yInt (Nat.succ i)) (1 : Int)))) ∧ rB (cloO cs ct cf s k w n0 a0 b0 j i') i_1 = ySel (yNlt i_1 (yNadd (rN (cloO cs ct cf s k w n0 a0 b0 j i)) (nat_lit 1))) (ySel (yNlt i_1 (rN (cloO cs ct cf s k w n0 a0 b0 j i))) (rB (cloO cs ct cf s k w n0 a0 b0 j i) i_1) (k (yNadd (nat_lit 0) (yNat (yWrap IntKind.i64 (ySub (yInt (Nat.succ i)) (1 : Int))))))) (w (yNadd (nat_lit 0) (yNat (yInt (Nat.succ i))))) ∧ True) ∧ true = true) ∧ (yGrow (yNadd (yNadd (rN (cloO cs ct cf s k w n0 a0 b0 j i)) (nat_lit 1)) (nat_lit 1)) (nat_lit 16) = false → False)) ∧ (yNeq (yNadd (rN (cloO cs ct cf s k w n0 a0 b0 j i)) (nat_lit 1)) (yNadd (rN (cloO cs ct cf s k w n0 a0 b0 j i)) (nat_lit 1)) = false → False)) ∧ (yAnd (yAnd (rightC cs ct cf cl cp) (yAnd (yLe (0 : Int) s) (yLe s cs))) (yAnd (yLe (0 : Int) (yWrap IntKind.i64 (ySub (yInt (Nat.succ i)) (1 : Int)))) (yLt (yWrap IntKind.i64 (ySub (yInt (Nat.succ i)) (1 : Int))) cf)) = false → False)) ∧ (yGrow (yNadd (rN (cloO cs ct cf s k w n0 a0 b0 j i)) (nat_lit 1)) (nat_lit 16) = false → False)) ∧ (yNeq (rN (cloO cs ct cf s k w n0 a0 b0 j i)) (rN (cloO cs ct cf s k w n0 a0 b0 j i)) = false → False)) ∧ (yAnd (yAnd (rightC cs ct cf cl cp) (yAnd (yLe (0 : Int) s) (yLe s cs))) (yAnd (yLe (0 : Int) (yWrap IntKind.i64 (ySub (yWrap IntKind.i64 (ySub (yInt (Nat.succ i)) (1 : Int))) (1 : Int)))) (yLt (yWrap IntKind.i64 (ySub (yWrap IntKind.i64 (ySub (yInt (Nat.succ i)) (1 : Int))) (1 : Int))) cf)) = false → False)) ∧ (yLt (0 : Int) (yWrap IntKind.i64 (ySub (yInt (Nat.succ i)) (1 : Int))) = false → (yAnd (yAnd (rightC cs ct cf cl cp) (yAnd (yLe (0 : Int) s) (yLe s cs))) (yAnd (yLe (0 : Int) (yWrap IntKind.i64 (ySub (yInt (Nat.succ i)) (1 : Int)))) (yLt (yWrap IntKind.i64 (ySub (yInt (Nat.succ i)) (1 : Int))) cf)) = true → (yNeq (rN (cloO cs ct cf s k w n0 a0 b0 j i)) (rN (cloO cs ct cf s k w n0 a0 b0 j i)) = true → (yGrow (yNadd (rN (cloO cs ct cf s k w n0 a0 b0 j i)) (nat_lit 1)) (nat_lit 16) = true → true = true ∧ ∃ (i' : Nat), (j ≤ i' ∧ Nat.succ i' ≤ nv) ∧ Nat.succ (msFit nv i') ≤ msFit nv i ∧ true = true ∧ rE (cloO cs ct cf s k w n0 a0 b0 j i') = yAnd (rE (cloO cs ct cf s k w n0 a0 b0 j i)) (yNeq (nat_lit 1) (nat_lit 0)) ∧ nat_lit 0 = nat_lit 0 ∧ rN (cloO cs ct cf s k w n0 a0 b0 j i') = yNadd (rN (cloO cs ct cf s k w n0 a0 b0 j i)) (nat_lit 1) ∧ yInt (Nat.succ i') = yWrap IntKind.i64 (yAdd (yInt (Nat.succ i)) (1 : Int)) ∧ rN (cloO cs ct cf s k w n0 a0 b0 j i') = yNadd (rN (cloO cs ct cf s k w n0 a0 b0 j i)) (nat_lit 1) ∧ (∀ (i_1 : Nat), Nat.succ i_1 ≤ rN (cloO cs ct cf s k w n0 a0 b0 j i') → rA (cloO cs ct cf s k w n0 a0 b0 j i') i_1 = ySel (yNlt i_1 (rN (cloO cs ct cf s k w n0 a0 b0 j i))) (rA (cloO cs ct cf s k w n0 a0 b0 j i) i_1) (valC cs ct cf s (yWrap IntKind.i64 (ySub (yInt (Nat.succ i)) (1 : Int)))) ∧ rB (cloO cs ct cf s k w n0 a0 b0 j i') i_1 = ySel (yNlt i_1 (rN (cloO cs ct cf s k w n0 a0 b0 j i))) (rB (cloO cs ct cf s k w n0 a0 b0 j i) i_1) (w (yNadd (nat_lit 0) (yNat (yInt (Nat.succ i))))) ∧ True) ∧ true = true) ∧ (yGrow (yNadd (rN (cloO cs ct cf s k w n0 a0 b0 j i)) (nat_lit 1)) (nat_lit 16) = false → False)) ∧ (yNeq (rN (cloO cs ct cf s k w n0 a0 b0 j i)) (rN (cloO cs ct cf s k w n0 a0 b0 j i)) = false → False)) ∧ (yAnd (yAnd (rightC cs ct cf cl cp) (yAnd (yLe (0 : Int) s) (yLe s cs))) (yAnd (yLe (0 : Int) (yWrap IntKind.i64 (ySub (yInt (Nat.succ i)) (1 : Int)))) (yLt (yWrap IntKind.i64 (ySub (yInt (Nat.succ i)) (1 : Int))) cf)) = false → False)))) ∧ (yNlt (yNadd (nat_lit 0) (yNat (yInt (Nat.succ i)))) nv = false → False)) ∧ (yIn (yInt (Nat.succ i)) nv = false → False)) ∧ (yNlt (yNadd (nat_lit 0) (yNat (yWrap IntKind.i64 (ySub (yInt (Nat.succ i)) (1 : Int))))) nv = false → False)) ∧ (yIn (yWrap IntKind.i64 (ySub (yInt (Nat.succ i)) (1 : Int))) nv = false → False)))) ∧ (yLt (yInt (Nat.succ i)) (yInt nv) = false → (yAnd (rightC cs ct cf cl cp) (yAnd (yLe (0 : Int) s) (yLe s cs)) = true → (true = true → (yNeq (rN (cloO cs ct cf s k w n0 a0 b0 j i)) (rN (cloO cs ct cf s k w n0 a0 b0 j i)) = true → (yGrow (yNadd (rN (cloO cs ct cf s k w n0 a0 b0 j i)) (nat_lit 1)) (nat_lit 16) = true → rE (cloL cs ct cf s k w n0 a0 b0 j nv) = yAnd (rE (cloO cs ct cf s k w n0 a0 b0 j i)) (yNeq (nat_lit 1) (nat_lit 0)) ∧ nat_lit 0 = nat_lit 0 ∧ rN (cloL cs ct cf s k w n0 a0 b0 j nv) = yNadd (rN (cloO cs ct cf s k w n0 a0 b0 j i)) (nat_lit 1) ∧ rN (cloL cs ct cf s k w n0 a0 b0 j nv) = yNadd (rN (cloO cs ct cf s k w n0 a0 b0 j i)) (nat_lit 1) ∧ (∀ (i_1 : Nat), Nat.succ i_1 ≤ rN (cloL cs ct cf s k w n0 a0 b0 j nv) → rA (cloL cs ct cf s k w n0 a0 b0 j nv) i_1 = ySel (yNlt i_1 (rN (cloO cs ct cf s k w n0 a0 b0 j i))) (rA (cloO cs ct cf s k w n0 a0 b0 j i) i_1) (shapeC cs ct cf s) ∧ rB (cloL cs ct cf s k w n0 a0 b0 j nv) i_1 = ySel (yNlt i_1 (rN (cloO cs ct cf s k w n0 a0 b0 j i))) (rB (cloO cs ct cf s k w n0 a0 b0 j i) i_1) (packC false (yWrap IntKind.i64 (ySub (yInt nv) (1 : Int)))) ∧ True) ∧ true = true) ∧ (yGrow (yNadd (rN (cloO cs ct cf s k w n0 a0 b0 j i)) (nat_lit 1)) (nat_lit 16) = false → False)) ∧ (yNeq (rN (cloO cs ct cf s k w n0 a0 b0 j i)) (rN (cloO cs ct cf s k w n0 a0 b0 j i)) = false → False)) ∧ (true = false → False)) ∧ (yAnd (rightC cs ct cf cl cp) (yAnd (yLe (0 : Int) s) (yLe s cs)) = false → False)))
set_option maxRecDepth 100000 in
theorem goalShut_eq : goalShut = goalShutV := by kernel_rfl
set_option maxRecDepth 100000 in
set_option maxHeartbeats 4000000 in
theorem goalShut_vc : goalShutV := by
  unfold goalShutV
  intro cs ct cf cl cp s v kn k vn nv w l nil0 n0 a0 b0 j hr hnv hn0 hj h0 hs hf
  simp only [yNle_t, yNlt_t, yIff_t, yAnd_t, yLe_t, yInt_e] at hnv hn0 hj h0 hs hf
  obtain ⟨z1, z2, z3⟩ := cloO_zero (cs := cs) (ct := ct) (cf := cf) (s := s) (k := k) (w := w) (n0 := n0) (a0 := a0) (b0 := b0) (j := j) h0
  simp only [yNot_t, yNot_f, yEq_t, yEq_f, yAnd_t, yAnd_f, yOr_t, yOr_f, yIff_t, yIff_f, yLt_t, yLt_f, yLe_t, yLe_f, yIn_t, yIn_f, yNlt_t, yNlt_f, yNle_t, yNle_f, yNeq_t, yNeq_f, yGrow_t, yGrow_f, yInt_e, yNat_e, yNadd_e, yNsub_e, yAdd_e, ySub_e, yMul_e, yCol_int, yCol_bool, true_and, and_true, Nat.zero_add, Nat.add_zero, Nat.le_refl, forall_const, true_implies, Bool.true_eq_false, Bool.false_eq_true, false_implies, hr, msFit, false_or, or_false]
  refine ⟨⟨j, ⟨Nat.le_refl _, hj⟩, z1, z2, by rw [wrap64 (by omega) (by omega)]; rfl, z2, z3⟩, fun _ i hi => ?_⟩
  have hlen : rN (cloO cs ct cf s k w n0 a0 b0 j i) = n0 + 2 * (i - j) := by
    have := cloO_len (cs := cs) (ct := ct) (cf := cf) (s := s) (k := k) (w := w) (n0 := n0) (a0 := a0) (b0 := b0) (j := j) (i - j)
    rwa [show j + (i - j) = i by omega] at this
  have hst := cloO_step (cs := cs) (ct := ct) (cf := cf) (s := s) (k := k) (w := w) (n0 := n0) (a0 := a0) (b0 := b0) hi.1
  have e1 : yWrap .i64 (((Nat.succ i : Nat) : Int) - 1) = (i : Int) := by rw [wrap64 (by omega) (by omega)]; omega
  have e3 : yWrap .i64 (((Nat.succ i : Nat) : Int) + 1) = ((Nat.succ (i + 1) : Nat) : Int) := by rw [wrap64 (by omega) (by omega)]; rfl
  have e2 : yWrap .i64 ((nv : Int) - 1) = (nv : Int) - 1 := wrap64 (by omega) (by omega)
  simp only [e1, e2, e3]
  refine ⟨fun hlt => ?_, fun hge => ?_⟩
  · repeat' (first | apply And.intro | intro _)
    all_goals first
      | omega
      | (refine ⟨i + 1, ⟨by omega, by omega⟩, by omega, ?_⟩
         rw [hst]
         refine ⟨by rw [rE_snoc, yAnd10], by rw [rN_snoc, rN_snoc], rfl, by rw [rN_snoc, rN_snoc], fun q hq => ?_⟩
         rw [rN_snoc, rN_snoc] at hq
         exact ⟨rA_snoc2 _ _ _ hq, rB_snoc2 _ _ _ hq⟩)
  · have hi2 : i = nv - 1 := by omega
    have hcl : cloL cs ct cf s k w n0 a0 b0 j nv = cloO cs ct cf s k w n0 a0 b0 j i ++ [(shapeC cs ct cf s, packC false ((nv : Int) - 1))] := by unfold cloL; rw [hi2]
    rw [hcl]
    repeat' (first | apply And.intro | intro _)
    all_goals first
      | omega
      | (rw [rE_snoc, yAnd10]; done)
      | exact rN_snoc _ _
      | (rename_i hq; rw [rN_snoc] at hq; first | exact rA_snoc _ _ hq | exact rB_snoc _ _ hq)
set_option maxRecDepth 100000 in
theorem goalShut_tt : (goalShut) = True := goalShut_eq.trans (eq_true goalShut_vc)
theorem goalShut_ok : goalShut := @ft' goalShut goalShut_tt
end Go.Proofs.YtfpokmglhaenaaaDoor.Ex
