/- The texts PkEb, COpn2, CP3, PkEc, CEg, CEx, PkEl, Me: Contracts: a shape, packed. Contracts: version words renewed, handles made; a part's handle, and its handle begun anew. Contracts: a leaf closed at an entry, as the pen writes it. (under way) .. -/
import Derived.Test.YtinijejfhmcmdaaGreatDoorU4
set_option linter.all false
set_option maxRecDepth 100000
section
namespace Go.Proofs.YtinijejfhmcmdaaGreatDoor.Ex
open Go
def packC (b : Bool) (n : Int) : Int := (if 0 ≤ n ∧ n ≤ 255 then n * 2 else 0) + (if b then 1 else 0)
abbrev gPk : List Ag := [.cell none, .cell none]
abbrev dPk (b : Bool) (n : Int) : List Da := [.cell (.v (.yb b)), .cell (.v (.y .i64 n))]
def fPk (ds : List Da) : Option (Bool × AV) :=
 match ds with
 | [.cell (.v (.yb b)), .cell (.v (.y .i64 n))] => some (true, .y .u64 (packC b n))
 | _ => none
def gPkgoal (P : Program) (f : FuncId) : Prop := ∀ (b : Bool) (n : Int), wxF P noSm (fun _ => none) 1000 f (canA gPk (dPk b n) []).1 (heapOf (canA gPk (dPk b n) []).2) (fun v _ => cmpC (.y .u64 (packC b n)) v)
def goalPack : Prop := gPkgoal Tryz.prog 65
def goalPackR : Prop := gPkgoal Tryz.prog 40
theorem or_one : ∀ m, m < 256 → (m * 2 ||| 1) = m * 2 + 1 := by decide +kernel
theorem pack_put {m : Nat} (h : m < 256) : yBits .or .u64 0 (yBits .and .u64 (yShl .u64 (m : Int) 1) 510) = ((m * 2 : Nat) : Int) := by
 have e2 : yShl .u64 (m : Int) 1 = ((m * 2 % 18446744073709551616 : Nat) : Int) := shl_u (n := 1) (by omega)
 rw [e2]
 have h1 : yBits .or .u64 (yBits .andNot .u64 ((0 : Nat) : Int) 510) (yBits .and .u64 ((m * 2 % 18446744073709551616 : Nat) : Int) 510) = ((512 * (0 / 512) + (2 * (m % 256) + 0 % 2) : Nat) : Int) := field_put (w := 0) (v := m) (at_ := 1) (n := 8) (by omega) (by omega) (by omega) rfl rfl
 have h0 : yBits .andNot .u64 ((0 : Nat) : Int) 510 = 0 := by decide +kernel
 rw [h0] at h1
 rw [h1]; congr 1; omega
theorem pack_one {m : Nat} (h : m < 256) : yBits .or .u64 ((m * 2 : Nat) : Int) 1 = ((m * 2 + 1 : Nat) : Int) := by
 have h1 : yBits .or .u64 ((m * 2 : Nat) : Int) ((1 : Nat) : Int) = ((m * 2 ||| 1 : Nat) : Int) := bits_or (by omega) (by omega)
 rw [or_one m h] at h1
 exact h1
def goalPackV : Prop := (∀ (b : Bool) (n : Int), (yLe 0 n = true → (yNot (yLt n 256) = true → (b = true → packC b n = (1 : Int)) ∧ (b = false → packC b n = (0 : Int))) ∧ (yNot (yLt n 256) = false → (yLe 0 (1 : Int) = true → (b = true → packC b n = yBits BinOp.or IntKind.u64 (yBits BinOp.or IntKind.u64 0 (yBits BinOp.and IntKind.u64 (yShl IntKind.u64 (yWrap IntKind.u64 n) 1) 510)) 1) ∧ (b = false → packC b n = yBits BinOp.or IntKind.u64 0 (yBits BinOp.and IntKind.u64 (yShl IntKind.u64 (yWrap IntKind.u64 n) 1) 510))) ∧ (yLe 0 (1 : Int) = false → False))) ∧ (yLe 0 n = false → (b = true → packC b n = (1 : Int)) ∧ (b = false → packC b n = (0 : Int))))
theorem goalPack_eq : goalPack = goalPackV := by kernel_rfl
theorem goalPack_vc : goalPackV := by
 unfold goalPackV
 intro b n
 by_cases hn : 0 ≤ n ∧ n ≤ 255
 · obtain ⟨m, rfl⟩ : ∃ m : Nat, n = (m : Int) := ⟨n.toNat, by omega⟩
   rw [yWrapN (n := m) (by omega), pack_put (m := m) (by omega), pack_one (m := m) (by omega)]
   unfold packC
   rw [if_pos hn]
   simp only [yLe_t, yLe_f, yLt_t, yLt_f, yNot_t, yNot_f]
   cases b
   all_goals repeat' (first | apply And.intro | intro _)
   all_goals first
     | contradiction
     | (exfalso; omega)
     | (simp only [if_true, if_false, Bool.false_eq_true]; done)
     | (simp only [if_true, if_false, Bool.false_eq_true]; omega)
 · unfold packC
   rw [if_neg hn]
   simp only [yLe_t, yLe_f, yLt_t, yLt_f, yNot_t, yNot_f]
   cases b
   all_goals repeat' (first | apply And.intro | intro _)
   all_goals first
     | contradiction
     | (exfalso; omega)
     | rfl
theorem goalPack_tt : (goalPack) = True := goalPack_eq.trans (eq_true goalPack_vc)
theorem goalPack_ok : goalPack := @ft' goalPack goalPack_tt
def goalPackRV : Prop := (∀ (b : Bool) (n : Int), (yLt n (0 : Int) = true → (b = true → packC b n = (1 : Int)) ∧ (b = false → packC b n = (0 : Int))) ∧ (yLt n (0 : Int) = false → (yLt 255 n = true → (b = true → packC b n = (1 : Int)) ∧ (b = false → packC b n = (0 : Int))) ∧ (yLt 255 n = false → (b = true → packC b n = yWrap IntKind.u64 (yAdd (yWrap IntKind.u64 (yMul (yWrap IntKind.u64 n) 2)) 1)) ∧ (b = false → packC b n = yWrap IntKind.u64 (yMul (yWrap IntKind.u64 n) 2)))))
theorem goalPackR_eq : goalPackR = goalPackRV := by kernel_rfl
theorem goalPackR_vc : goalPackRV := by
 unfold goalPackRV
 intro b n
 by_cases hn : 0 ≤ n ∧ n ≤ 255
 · simp only [yLt_t, yLt_f, yAdd_e, yMul_e]
   rw [wrapU64 (n := n) (by omega) (by omega), wrapU64 (n := n * 2) (by omega) (by omega), wrapU64 (n := n * 2 + 1) (by omega) (by omega)]
   unfold packC
   rw [if_pos hn]
   cases b
   all_goals repeat' (first | apply And.intro | intro _)
   all_goals first
     | contradiction
     | (exfalso; omega)
     | (simp only [if_true, if_false, Bool.false_eq_true]; done)
     | (simp only [if_false, Bool.false_eq_true]; omega)
 · unfold packC
   rw [if_neg hn]
   simp only [yLt_t, yLt_f]
   cases b
   all_goals repeat' (first | apply And.intro | intro _)
   all_goals first
     | contradiction
     | (exfalso; omega)
     | rfl
theorem goalPackR_tt : (goalPackR) = True := goalPackR_eq.trans (eq_true goalPackR_vc)
theorem goalPackR_ok : goalPackR := @ft' goalPackR goalPackR_tt
def makeC (g s : Int) : Int := if 1 ≤ s ∧ s ≤ 65535 then g % 16777216 * 65536 + s else 0
abbrev gMk : List Ag := [.cell none, .cell none]
abbrev dMk (g s : Int) : List Da := [.cell (.v (.y .u64 g)), .cell (.v (.y .i64 s))]
def fMk (ds : List Da) : Option (Bool × AV) :=
 match ds with
 | [.cell (.v (.y .u64 g)), .cell (.v (.y .i64 s))] => some (inU g, .y .u64 (makeC g s))
 | _ => none
def gMkgoal (P : Program) (f : FuncId) : Prop := ∀ (g s : Int), inU g = true → wxF P noSm (fun _ => none) 1000 f (canA gMk (dMk g s) []).1 (heapOf (canA gMk (dMk g s) []).2) (fun v _ => cmpC (.y .u64 (makeC g s)) v)
def goalMkR : Prop := gMkgoal Tryz.prog 19
theorem lockB {w : Nat} (hw : w < 18446744073709551616) : yBits .or .u64 (yBits .andNot .u64 (w : Int) 1) 1 = ((w / 2 * 2 + 1 : Nat) : Int) := by
 have := field_put' (at_ := 0) (n := 1) (v := 1) (M := 1) (S := 1) (R := 1) hw (by omega) (by omega) rfl rfl (by decide +kernel)
 rw [this]; congr 1
 show 2 * (w / 2) + (1 * 1 + w % 1) = _
 omega
def goalMkRV : Prop := (∀ (g s : Int), yAnd (yLe 0 g) (yLt g 18446744073709551616) = true → (yLt s (1 : Int) = true → makeC g s = (0 : Int)) ∧ (yLt s (1 : Int) = false → (yLt 65535 s = true → makeC g s = (0 : Int)) ∧ (yLt 65535 s = false → (yEq 16777216 (0 : Int) = true → False) ∧ (yEq 16777216 (0 : Int) = false → makeC g s = yWrap IntKind.u64 (yAdd (yWrap IntKind.u64 (yMul (yRem g 16777216) 65536)) (yWrap IntKind.u64 s))))))
theorem goalMkR_eq : goalMkR = goalMkRV := by kernel_rfl
set_option maxHeartbeats 4000000 in
theorem goalMkR_vc : goalMkRV := by
 unfold goalMkRV
 intro g s h
 obtain ⟨n, rfl, hn⟩ := inU_nat h
 have a1 : yRem (n : Int) 16777216 = ((n % 16777216 : Nat) : Int) := rem_u (c := 16777216)
 rw [a1]
 by_cases hs : 1 ≤ s ∧ s ≤ 65535
 · simp only [vS, forall_const]
   rw [wrapU64 (n := s) (by omega) (by omega), wrapU64 (n := ((n % 16777216 : Nat) : Int) * 65536) (by omega) (by omega), wrapU64 (by omega) (by omega)]
   have hf : makeC (n : Int) s = ((n % 16777216 : Nat) : Int) * 65536 + s := by unfold makeC; rw [if_pos hs]; omega
   repeat' (first | apply And.intro | intro _)
   all_goals first
     | exact hf
     | (exfalso; omega)
 · have hf : makeC (n : Int) s = 0 := by unfold makeC; rw [if_neg hs]
   simp only [vS, forall_const]
   repeat' (first | apply And.intro | intro _)
   all_goals first
     | exact hf
     | (exfalso; omega)
theorem goalMkR_tt : (goalMkR) = True := goalMkR_eq.trans (eq_true goalMkR_vc)
theorem goalMkR_ok : goalMkR := @ft' goalMkR goalMkR_tt
def layL (cs ct cf s j key val : Int) : List (Int × Int) := [(keyC cs ct cf s j, key), (valC cs ct cf s j, val)]
def prw (n : Nat) (a b : Nat → Int) : List (Int × Int) := (List.range n).map fun j => (a j, b j)
def shO (cs ct cf s : Int) (k w : Nat → Int) (j : Nat) (i : Nat) : List (Int × Int) := (List.range (i - j)).flatMap fun d => layL cs ct cf s ((j + d : Nat) : Int) (k (j + d + 1)) (w (j + d + 1))
def cloO (cs ct cf s : Int) (k w : Nat → Int) (n0 : Nat) (a0 b0 : Nat → Int) (j i : Nat) : List (Int × Int) := prw n0 a0 b0 ++ shO cs ct cf s k w j i
def cloL (cs ct cf s : Int) (k w : Nat → Int) (n0 : Nat) (a0 b0 : Nat → Int) (j nv : Nat) : List (Int × Int) := cloO cs ct cf s k w n0 a0 b0 j (nv - 1) ++ [(shapeC cs ct cf s, packC false ((nv : Int) - 1))]
abbrev slW (id : Nat) (l : List (Int × Int)) : AV := .ysl false (rE l) id 2 0 (rN l)
abbrev arW (l : List (Int × Int)) : AO := .arr false 71 2 (rN l) (colF [.int .i64 (rA l), .int .u64 (rB l)])
abbrev sPen : Sx := .ptr 176 [.sc, .sc, .sc, .sc, .sc, ownW]
abbrev dPen (cs ct cf cl cp : Int) (r : Dx) : Dx := .l [.v (.y .i64 cs), .v (.y .i64 ct), .v (.y .i64 cf), .v (.y .i64 cl), .v (.y .i64 cp), r]
def lLay : List (Nat × Sm) := [(52, .ct (ctS gL2 (fL2 keyC))), (53, .ct (ctS gL2 (fL2 valC))), (64, .ct (ctS gL1 (fL1 shapeC))), (65, .ct (ctS gPk fPk)),
 (39, .ct (ctS gL2 (fR2 keyC))), (35, .ct (ctS gL2 (fR2 valC))), (37, .ct (ctS gL1 (fR1 shapeC))), (40, .ct (ctS gPk fPk))]
def annClo (cs ct cf cl cp s : Int) (k w : Nat → Int) (n0 : Nat) (a0 b0 : Nat → Int) (j nv : Nat) (b : Nat) : Option (St → LoopA) :=
 match b with
 | 0 => some fun _ => { ι := Nat, tms := [7], tmU := fun i => [.y .i64 (yInt i)], ids := [1, 6], hpU := fun i => [.cells [.y .i64 cs, .y .i64 ct, .y .i64 cf, .y .i64 cl, .y .i64 cp, slW 6 (cloO cs ct cf s k w n0 a0 b0 j i)] 176 none, arW (cloO cs ct cf s k w n0 a0 b0 j i)], del := [0], ex := 1, pre := fun i => j ≤ i ∧ i + 1 ≤ nv, ms := msFit nv }
 | _ => none
def goalClo : Prop := ∀ (cs ct cf cl cp s v : Int) (kn : Bool) (k : Nat → Int) (vn : Bool) (nv : Nat) (w : Nat → Int) (l : Int) (nil0 : Bool) (n0 : Nat) (a0 b0 : Nat → Int) (j : Nat),
 rightC cs ct cf cl cp = true → yNle nv 80 = true → yNle n0 1000 = true → yNlt j nv = true → yIff nil0 (yNeq n0 0) = true →
 wxP Tryz.prog (smL lLay) (annClo cs ct cf cl cp s k w n0 a0 b0 j nv) 142 [sPen, sPart, .sc] [dPen cs ct cf cl cp (.rows nil0 n0 [.int .i64 a0, .int .u64 b0]), dPt s v false kn nv k vn nv w l, .v (.y .i64 (yInt j))] (.tup []) (.l []) [[.v (.y .i64 cs), .v (.y .i64 ct), .v (.y .i64 cf), .v (.y .i64 cl), .v (.y .i64 cp), rowsW (cloL cs ct cf s k w n0 a0 b0 j nv)]]
theorem rN_snoc (l : List (Int × Int)) (x : Int × Int) : rN (l ++ [x]) = rN l + 1 := by simp [rN]
theorem rE_snoc (l : List (Int × Int)) (x : Int × Int) : rE (l ++ [x]) = false := by simp [rE]
theorem rA_snoc (l : List (Int × Int)) (x : Int × Int) {j : Nat} (h : j < rN l + 1) : rA (l ++ [x]) j = ySel (yNlt j (rN l)) (rA l j) x.1 := by
 unfold rN at h
 unfold rA ySel yNlt rN
 rw [List.getD_eq_getElem?_getD, List.getD_eq_getElem?_getD, List.getElem?_append]
 by_cases hj : j < l.length
 · simp [hj]
 · have : j = l.length := by omega
   subst this; simp
theorem rB_snoc (l : List (Int × Int)) (x : Int × Int) {j : Nat} (h : j < rN l + 1) : rB (l ++ [x]) j = ySel (yNlt j (rN l)) (rB l j) x.2 := by
 unfold rN at h
 unfold rB ySel yNlt rN
 rw [List.getD_eq_getElem?_getD, List.getD_eq_getElem?_getD, List.getElem?_append]
 by_cases hj : j < l.length
 · simp [hj]
 · have : j = l.length := by omega
   subst this; simp
theorem rA_snoc2 (l : List (Int × Int)) (x y : Int × Int) {j : Nat} (h : j < rN l + 1 + 1) : rA (l ++ [x] ++ [y]) j = ySel (yNlt j (rN l + 1)) (ySel (yNlt j (rN l)) (rA l j) x.1) y.1 := by
 rw [rA_snoc _ y (by rw [rN_snoc]; exact h), rN_snoc]
 by_cases hj : j < rN l + 1
 · rw [rA_snoc _ x hj]
 · simp [ySel, yNlt, hj]
theorem rB_snoc2 (l : List (Int × Int)) (x y : Int × Int) {j : Nat} (h : j < rN l + 1 + 1) : rB (l ++ [x] ++ [y]) j = ySel (yNlt j (rN l + 1)) (ySel (yNlt j (rN l)) (rB l j) x.2) y.2 := by
 rw [rB_snoc _ y (by rw [rN_snoc]; exact h), rN_snoc]
 by_cases hj : j < rN l + 1
 · rw [rB_snoc _ x hj]
 · simp [ySel, yNlt, hj]
theorem yAnd10 (b : Bool) : yAnd b (yNeq 1 0) = false := by cases b <;> rfl
theorem shO_self (cs ct cf s : Int) (k w : Nat → Int) (j : Nat) : shO cs ct cf s k w j j = [] := by simp [shO]
theorem cloO_step {cs ct cf s : Int} {k w : Nat → Int} {n0 : Nat} {a0 b0 : Nat → Int} {j i : Nat} (h : j ≤ i) :
   cloO cs ct cf s k w n0 a0 b0 j (i + 1) = cloO cs ct cf s k w n0 a0 b0 j i ++ [(keyC cs ct cf s i, k (i + 1))] ++ [(valC cs ct cf s i, w (i + 1))] := by
 unfold cloO shO
 rw [show i + 1 - j = (i - j) + 1 by omega, List.range_succ, List.flatMap_append]
 simp only [List.flatMap_cons, List.flatMap_nil, List.append_nil, layL, show j + (i - j) = i by omega]
 simp
theorem prw_len (n : Nat) (a b : Nat → Int) : (prw n a b).length = n := by simp [prw]
theorem prw_A {n : Nat} {a b : Nat → Int} {i : Nat} (h : i < n) : rA (prw n a b) i = a i ∧ rB (prw n a b) i = b i := by
 unfold rA rB prw
 simp [List.getD_eq_getElem?_getD, h]
theorem cloO_len {cs ct cf s : Int} {k w : Nat → Int} {n0 : Nat} {a0 b0 : Nat → Int} {j : Nat} : ∀ d, rN (cloO cs ct cf s k w n0 a0 b0 j (j + d)) = n0 + 2 * d
 | 0 => by simp [cloO, shO_self, rN, prw_len]
 | d + 1 => by
   have := cloO_len (cs := cs) (ct := ct) (cf := cf) (s := s) (k := k) (w := w) (n0 := n0) (a0 := a0) (b0 := b0) (j := j) d
   rw [show j + (d + 1) = j + d + 1 by omega, cloO_step (by omega), rN_snoc, rN_snoc, this]; omega
theorem cloO_zero {cs ct cf s : Int} {k w : Nat → Int} {nil0 : Bool} {n0 : Nat} {a0 b0 : Nat → Int} {j : Nat} (h : nil0 = yNeq n0 0) : rE (cloO cs ct cf s k w n0 a0 b0 j j) = nil0 ∧ rN (cloO cs ct cf s k w n0 a0 b0 j j) = n0 ∧
   ∀ i, i + 1 ≤ rN (cloO cs ct cf s k w n0 a0 b0 j j) → rA (cloO cs ct cf s k w n0 a0 b0 j j) i = a0 i ∧ rB (cloO cs ct cf s k w n0 a0 b0 j j) i = b0 i := by
 have e : cloO cs ct cf s k w n0 a0 b0 j j = prw n0 a0 b0 := by simp [cloO, shO_self]
 rw [e]
 have hn : rN (prw n0 a0 b0) = n0 := by simp [rN, prw_len]
 refine ⟨?_, hn, fun i hi => prw_A (by omega)⟩
 subst h
 unfold rE yNeq
 cases n0 with
 | zero => rfl
 | succ n => simp [prw, List.range_succ]
def goalClo_1 (i : Nat) := yNadd 0 (yNat (yWrap IntKind.i64 (yAdd (yInt i) 1)))
def goalClo_5 (cs : Int) (ct : Int) (cf : Int) (s : Int) (k : Nat → Int) (w : Nat → Int) (n0 : Nat) (a0 : Nat → Int) (b0 : Nat → Int) (j : Nat) (i : Nat) := yNeq (rN (cloO cs ct cf s k w n0 a0 b0 j i)) (rN (cloO cs ct cf s k w n0 a0 b0 j i)) = false → False
def goalClo_6 (cs : Int) (ct : Int) (cf : Int) (s : Int) (k : Nat → Int) (w : Nat → Int) (n0 : Nat) (a0 : Nat → Int) (b0 : Nat → Int) (j : Nat) (i : Nat) := yGrow (yNadd (rN (cloO cs ct cf s k w n0 a0 b0 j i)) 1) (nat_lit 16) = false → False
def goalClo_0 (i : Nat) (cs : Int) (ct : Int) (cf : Int) (cl : Int) (cp : Int) (s : Int) (k : Nat → Int) (w : Nat → Int) (n0 : Nat) (a0 : Nat → Int) (b0 : Nat → Int) (j : Nat) (nv : Nat) := yLt 0 (yInt i) = false → (rightC cs ct cf cl cp = true → (yNeq (rN (cloO cs ct cf s k w n0 a0 b0 j i)) (rN (cloO cs ct cf s k w n0 a0 b0 j i)) = true → (yGrow (yNadd (rN (cloO cs ct cf s k w n0 a0 b0 j i)) 1) (nat_lit 16) = true → true = true ∧ ∃ (i' : Nat), (j ≤ i' ∧ Nat.succ i' ≤ nv) ∧ Nat.succ (msFit nv i') ≤ msFit nv i ∧ true = true ∧ yInt i' = yWrap IntKind.i64 (yAdd (yInt i) 1) ∧ cs = cs ∧ ct = ct ∧ cf = cf ∧ cl = cl ∧ cp = cp ∧ rE (cloO cs ct cf s k w n0 a0 b0 j i') = yAnd (rE (cloO cs ct cf s k w n0 a0 b0 j i)) (yNeq 1 0) ∧ nat_lit 0 = nat_lit 0 ∧ rN (cloO cs ct cf s k w n0 a0 b0 j i') = yNadd (rN (cloO cs ct cf s k w n0 a0 b0 j i)) 1 ∧ rN (cloO cs ct cf s k w n0 a0 b0 j i') = yNadd (rN (cloO cs ct cf s k w n0 a0 b0 j i)) 1 ∧ (∀ (i_1 : Nat), Nat.succ i_1 ≤ rN (cloO cs ct cf s k w n0 a0 b0 j i') → rA (cloO cs ct cf s k w n0 a0 b0 j i') i_1 = ySel (yNlt i_1 (rN (cloO cs ct cf s k w n0 a0 b0 j i))) (rA (cloO cs ct cf s k w n0 a0 b0 j i) i_1) (valC cs ct cf s (yInt i)) ∧ rB (cloO cs ct cf s k w n0 a0 b0 j i') i_1 = ySel (yNlt i_1 (rN (cloO cs ct cf s k w n0 a0 b0 j i))) (rB (cloO cs ct cf s k w n0 a0 b0 j i) i_1) (w (goalClo_1 i)) ∧ True) ∧ true = true) ∧ (goalClo_6 cs ct cf s k w n0 a0 b0 j i)) ∧ (goalClo_5 cs ct cf s k w n0 a0 b0 j i)) ∧ (rightC cs ct cf cl cp = false → False)
def goalClo_2 (cs : Int) (ct : Int) (cf : Int) (s : Int) (k : Nat → Int) (w : Nat → Int) (n0 : Nat) (a0 : Nat → Int) (b0 : Nat → Int) (j : Nat) (i : Nat) := yNeq (yNadd (rN (cloO cs ct cf s k w n0 a0 b0 j i)) 1) (yNadd (rN (cloO cs ct cf s k w n0 a0 b0 j i)) 1) = false → False
def goalClo_3 (i : Nat) := yWrap IntKind.i64 (ySub (yWrap IntKind.i64 (yAdd (yInt i) 1)) 1)
def goalClo_4 (cs : Int) (ct : Int) (cf : Int) (s : Int) (k : Nat → Int) (w : Nat → Int) (n0 : Nat) (a0 : Nat → Int) (b0 : Nat → Int) (j : Nat) (i : Nat) := yNadd (yNadd (rN (cloO cs ct cf s k w n0 a0 b0 j i)) 1) 1
def goalCloV : Prop := (∀ (cs ct cf cl cp s v : Int) (kn : Bool) (k : Nat → Int) (vn : Bool) (nv : Nat) (w : Nat → Int) (l : Int) (nil0 : Bool) (n0 : Nat) (a0 b0 : Nat → Int) (j : Nat), rightC cs ct cf cl cp = true → yNle nv (nat_lit 80) = true → yNle n0 (nat_lit 1000) = true → yNlt j nv = true → yIff nil0 (yNeq n0 0) = true → true = true ∧ (∃ (i0 : Nat), (j ≤ i0 ∧ Nat.succ i0 ≤ nv) ∧ true = true ∧ yInt i0 = yInt j ∧ cs = cs ∧ ct = ct ∧ cf = cf ∧ cl = cl ∧ cp = cp ∧ rE (cloO cs ct cf s k w n0 a0 b0 j i0) = nil0 ∧ nat_lit 0 = nat_lit 0 ∧ rN (cloO cs ct cf s k w n0 a0 b0 j i0) = n0 ∧ rN (cloO cs ct cf s k w n0 a0 b0 j i0) = n0 ∧ (∀ (i : Nat), Nat.succ i ≤ rN (cloO cs ct cf s k w n0 a0 b0 j i0) → rA (cloO cs ct cf s k w n0 a0 b0 j i0) i = a0 i ∧ rB (cloO cs ct cf s k w n0 a0 b0 j i0) i = b0 i ∧ True) ∧ true = true) ∧ ∀ (g : Nat → AV) (i : Nat), j ≤ i ∧ Nat.succ i ≤ nv → (yLt (yInt i) (yWrap IntKind.i64 (ySub (yInt nv) 1)) = true → (yNot false = true → (yIn (yWrap IntKind.i64 (yAdd (yInt i) 1)) nv = true → (yNlt (goalClo_1 i) nv = true → (yIn (yWrap IntKind.i64 (yAdd (yInt i) 1)) nv = true → (yNlt (goalClo_1 i) nv = true → (yNot false = true → (rightC cs ct cf cl cp = true → (yNeq (rN (cloO cs ct cf s k w n0 a0 b0 j i)) (rN (cloO cs ct cf s k w n0 a0 b0 j i)) = true → (yGrow (yNadd (rN (cloO cs ct cf s k w n0 a0 b0 j i)) 1) (nat_lit 16) = true → (rightC cs ct cf cl cp = true → (yNeq (yNadd (rN (cloO cs ct cf s k w n0 a0 b0 j i)) 1) (yNadd (rN (cloO cs ct cf s k w n0 a0 b0 j i)) 1) = true → (yGrow (goalClo_4 cs ct cf s k w n0 a0 b0 j i) (nat_lit 16) = true → true = true ∧ ∃ (i' : Nat), (j ≤ i' ∧ Nat.succ i' ≤ nv) ∧ Nat.succ (msFit nv i') ≤ msFit nv i ∧ true = true ∧ yInt i' = yWrap IntKind.i64 (yAdd (yInt i) 1) ∧ cs = cs ∧ ct = ct ∧ cf = cf ∧ cl = cl ∧ cp = cp ∧ rE (cloO cs ct cf s k w n0 a0 b0 j i') = yAnd (yAnd (rE (cloO cs ct cf s k w n0 a0 b0 j i)) (yNeq 1 0)) (yNeq 1 0) ∧ nat_lit 0 = nat_lit 0 ∧ rN (cloO cs ct cf s k w n0 a0 b0 j i') = yNadd (yNadd (rN (cloO cs ct cf s k w n0 a0 b0 j i)) 1) 1 ∧ rN (cloO cs ct cf s k w n0 a0 b0 j i') = yNadd (yNadd (rN (cloO cs ct cf s k w n0 a0 b0 j i)) 1) 1 ∧ (∀ (i_1 : Nat), Nat.succ i_1 ≤ rN (cloO cs ct cf s k w n0 a0 b0 j i') → rA (cloO cs ct cf s k w n0 a0 b0 j i') i_1 = ySel (yNlt i_1 (yNadd (rN (cloO cs ct cf s k w n0 a0 b0 j i)) 1)) (ySel (yNlt i_1 (rN (cloO cs ct cf s k w n0 a0 b0 j i))) (rA (cloO cs ct cf s k w n0 a0 b0 j i) i_1) (keyC cs ct cf s (yInt i))) (valC cs ct cf s (yInt i)) ∧ rB (cloO cs ct cf s k w n0 a0 b0 j i') i_1 = ySel (yNlt i_1 (yNadd (rN (cloO cs ct cf s k w n0 a0 b0 j i)) 1)) (ySel (yNlt i_1 (rN (cloO cs ct cf s k w n0 a0 b0 j i))) (rB (cloO cs ct cf s k w n0 a0 b0 j i) i_1) (k (goalClo_1 i))) (w (goalClo_1 i)) ∧ True) ∧ true = true) ∧ (yGrow (goalClo_4 cs ct cf s k w n0 a0 b0 j i) (nat_lit 16) = false → False)) ∧ (goalClo_2 cs ct cf s k w n0 a0 b0 j i)) ∧ (rightC cs ct cf cl cp = false → False)) ∧ (goalClo_6 cs ct cf s k w n0 a0 b0 j i)) ∧ (goalClo_5 cs ct cf s k w n0 a0 b0 j i)) ∧ (rightC cs ct cf cl cp = false → False)) ∧ (yNot false = false → (yLt 0 (yInt i) = true → (rightC cs ct cf cl cp = true → (yNeq (rN (cloO cs ct cf s k w n0 a0 b0 j i)) (rN (cloO cs ct cf s k w n0 a0 b0 j i)) = true → (yGrow (yNadd (rN (cloO cs ct cf s k w n0 a0 b0 j i)) 1) (nat_lit 16) = true → (rightC cs ct cf cl cp = true → (yNeq (yNadd (rN (cloO cs ct cf s k w n0 a0 b0 j i)) 1) (yNadd (rN (cloO cs ct cf s k w n0 a0 b0 j i)) 1) = true → (yGrow (goalClo_4 cs ct cf s k w n0 a0 b0 j i) (nat_lit 16) = true → true = true ∧ ∃ (i' : Nat), (j ≤ i' ∧ Nat.succ i' ≤ nv) ∧ Nat.succ (msFit nv i') ≤ msFit nv i ∧ true = true ∧ yInt i' = yWrap IntKind.i64 (yAdd (yInt i) 1) ∧ cs = cs ∧ ct = ct ∧ cf = cf ∧ cl = cl ∧ cp = cp ∧ rE (cloO cs ct cf s k w n0 a0 b0 j i') = yAnd (yAnd (rE (cloO cs ct cf s k w n0 a0 b0 j i)) (yNeq 1 0)) (yNeq 1 0) ∧ nat_lit 0 = nat_lit 0 ∧ rN (cloO cs ct cf s k w n0 a0 b0 j i') = yNadd (yNadd (rN (cloO cs ct cf s k w n0 a0 b0 j i)) 1) 1 ∧ rN (cloO cs ct cf s k w n0 a0 b0 j i') = yNadd (yNadd (rN (cloO cs ct cf s k w n0 a0 b0 j i)) 1) 1 ∧ (∀ (i_1 : Nat), Nat.succ i_1 ≤ rN (cloO cs ct cf s k w n0 a0 b0 j i') → rA (cloO cs ct cf s k w n0 a0 b0 j i') i_1 = ySel (yNlt i_1 (yNadd (rN (cloO cs ct cf s k w n0 a0 b0 j i)) 1)) (ySel (yNlt i_1 (rN (cloO cs ct cf s k w n0 a0 b0 j i))) (rA (cloO cs ct cf s k w n0 a0 b0 j i) i_1) (keyC cs ct cf s (yWrap IntKind.i64 (ySub (yInt i) 1)))) (valC cs ct cf s (yInt i)) ∧ rB (cloO cs ct cf s k w n0 a0 b0 j i') i_1 = ySel (yNlt i_1 (yNadd (rN (cloO cs ct cf s k w n0 a0 b0 j i)) 1)) (ySel (yNlt i_1 (rN (cloO cs ct cf s k w n0 a0 b0 j i))) (rB (cloO cs ct cf s k w n0 a0 b0 j i) i_1) (k (goalClo_1 i))) (w (goalClo_1 i)) ∧ True) ∧ true = true) ∧ (yGrow (goalClo_4 cs ct cf s k w n0 a0 b0 j i) (nat_lit 16) = false → False)) ∧ (goalClo_2 cs ct cf s k w n0 a0 b0 j i)) ∧ (rightC cs ct cf cl cp = false → False)) ∧ (goalClo_6 cs ct cf s k w n0 a0 b0 j i)) ∧ (goalClo_5 cs ct cf s k w n0 a0 b0 j i)) ∧ (rightC cs ct cf cl cp = false → False)) ∧ (goalClo_0 i cs ct cf cl cp s k w n0 a0 b0 j nv))) ∧ (yNlt (goalClo_1 i) nv = false → False)) ∧ (yIn (yWrap IntKind.i64 (yAdd (yInt i) 1)) nv = false → False)) ∧ (yNlt (goalClo_1 i) nv = false → False)) ∧ (yIn (yWrap IntKind.i64 (yAdd (yInt i) 1)) nv = false → False)) ∧ (yNot false = false → (yEq (yWrap IntKind.i64 (yAdd (yInt i) 1)) (0 : Int) = true → (yIn (yWrap IntKind.i64 (yAdd (yInt i) 1)) nv = true → (yNlt (goalClo_1 i) nv = true → (yNot false = true → (rightC cs ct cf cl cp = true → (yNeq (rN (cloO cs ct cf s k w n0 a0 b0 j i)) (rN (cloO cs ct cf s k w n0 a0 b0 j i)) = true → (yGrow (yNadd (rN (cloO cs ct cf s k w n0 a0 b0 j i)) 1) (nat_lit 16) = true → (rightC cs ct cf cl cp = true → (yNeq (yNadd (rN (cloO cs ct cf s k w n0 a0 b0 j i)) 1) (yNadd (rN (cloO cs ct cf s k w n0 a0 b0 j i)) 1) = true → (yGrow (goalClo_4 cs ct cf s k w n0 a0 b0 j i) (nat_lit 16) = true → true = true ∧ ∃ (i' : Nat), (j ≤ i' ∧ Nat.succ i' ≤ nv) ∧ Nat.succ (msFit nv i') ≤ msFit nv i ∧ true = true ∧ yInt i' = yWrap IntKind.i64 (yAdd (yInt i) 1) ∧ cs = cs ∧ ct = ct ∧ cf = cf ∧ cl = cl ∧ cp = cp ∧ rE (cloO cs ct cf s k w n0 a0 b0 j i') = yAnd (yAnd (rE (cloO cs ct cf s k w n0 a0 b0 j i)) (yNeq 1 0)) (yNeq 1 0) ∧ nat_lit 0 = nat_lit 0 ∧ rN (cloO cs ct cf s k w n0 a0 b0 j i') = yNadd (yNadd (rN (cloO cs ct cf s k w n0 a0 b0 j i)) 1) 1 ∧ rN (cloO cs ct cf s k w n0 a0 b0 j i') = yNadd (yNadd (rN (cloO cs ct cf s k w n0 a0 b0 j i)) 1) 1 ∧ (∀ (i_1 : Nat), Nat.succ i_1 ≤ rN (cloO cs ct cf s k w n0 a0 b0 j i') → rA (cloO cs ct cf s k w n0 a0 b0 j i') i_1 = ySel (yNlt i_1 (yNadd (rN (cloO cs ct cf s k w n0 a0 b0 j i)) 1)) (ySel (yNlt i_1 (rN (cloO cs ct cf s k w n0 a0 b0 j i))) (rA (cloO cs ct cf s k w n0 a0 b0 j i) i_1) (keyC cs ct cf s (yInt i))) (valC cs ct cf s (yInt i)) ∧ rB (cloO cs ct cf s k w n0 a0 b0 j i') i_1 = ySel (yNlt i_1 (yNadd (rN (cloO cs ct cf s k w n0 a0 b0 j i)) 1)) (ySel (yNlt i_1 (rN (cloO cs ct cf s k w n0 a0 b0 j i))) (rB (cloO cs ct cf s k w n0 a0 b0 j i) i_1) 0) (w (goalClo_1 i)) ∧ True) ∧ true = true) ∧ (yGrow (goalClo_4 cs ct cf s k w n0 a0 b0 j i) (nat_lit 16) = false → False)) ∧ (goalClo_2 cs ct cf s k w n0 a0 b0 j i)) ∧ (rightC cs ct cf cl cp = false → False)) ∧ (goalClo_6 cs ct cf s k w n0 a0 b0 j i)) ∧ (goalClo_5 cs ct cf s k w n0 a0 b0 j i)) ∧ (rightC cs ct cf cl cp = false → False)) ∧ (yNot false = false → (yLt 0 (yInt i) = true → (rightC cs ct cf cl cp = true → (yNeq (rN (cloO cs ct cf s k w n0 a0 b0 j i)) (rN (cloO cs ct cf s k w n0 a0 b0 j i)) = true → (yGrow (yNadd (rN (cloO cs ct cf s k w n0 a0 b0 j i)) 1) (nat_lit 16) = true → (rightC cs ct cf cl cp = true → (yNeq (yNadd (rN (cloO cs ct cf s k w n0 a0 b0 j i)) 1) (yNadd (rN (cloO cs ct cf s k w n0 a0 b0 j i)) 1) = true → (yGrow (goalClo_4 cs ct cf s k w n0 a0 b0 j i) (nat_lit 16) = true → true = true ∧ ∃ (i' : Nat), (j ≤ i' ∧ Nat.succ i' ≤ nv) ∧ Nat.succ (msFit nv i') ≤ msFit nv i ∧ true = true ∧ yInt i' = yWrap IntKind.i64 (yAdd (yInt i) 1) ∧ cs = cs ∧ ct = ct ∧ cf = cf ∧ cl = cl ∧ cp = cp ∧ rE (cloO cs ct cf s k w n0 a0 b0 j i') = yAnd (yAnd (rE (cloO cs ct cf s k w n0 a0 b0 j i)) (yNeq 1 0)) (yNeq 1 0) ∧ nat_lit 0 = nat_lit 0 ∧ rN (cloO cs ct cf s k w n0 a0 b0 j i') = yNadd (yNadd (rN (cloO cs ct cf s k w n0 a0 b0 j i)) 1) 1 ∧ rN (cloO cs ct cf s k w n0 a0 b0 j i') = yNadd (yNadd (rN (cloO cs ct cf s k w n0 a0 b0 j i)) 1) 1 ∧ (∀ (i_1 : Nat), Nat.succ i_1 ≤ rN (cloO cs ct cf s k w n0 a0 b0 j i') → rA (cloO cs ct cf s k w n0 a0 b0 j i') i_1 = ySel (yNlt i_1 (yNadd (rN (cloO cs ct cf s k w n0 a0 b0 j i)) 1)) (ySel (yNlt i_1 (rN (cloO cs ct cf s k w n0 a0 b0 j i))) (rA (cloO cs ct cf s k w n0 a0 b0 j i) i_1) (keyC cs ct cf s (yWrap IntKind.i64 (ySub (yInt i) 1)))) (valC cs ct cf s (yInt i)) ∧ rB (cloO cs ct cf s k w n0 a0 b0 j i') i_1 = ySel (yNlt i_1 (yNadd (rN (cloO cs ct cf s k w n0 a0 b0 j i)) 1)) (ySel (yNlt i_1 (rN (cloO cs ct cf s k w n0 a0 b0 j i))) (rB (cloO cs ct cf s k w n0 a0 b0 j i) i_1) 0) (w (goalClo_1 i)) ∧ True) ∧ true = true) ∧ (yGrow (goalClo_4 cs ct cf s k w n0 a0 b0 j i) (nat_lit 16) = false → False)) ∧ (goalClo_2 cs ct cf s k w n0 a0 b0 j i)) ∧ (rightC cs ct cf cl cp = false → False)) ∧ (goalClo_6 cs ct cf s k w n0 a0 b0 j i)) ∧ (goalClo_5 cs ct cf s k w n0 a0 b0 j i)) ∧ (rightC cs ct cf cl cp = false → False)) ∧ (goalClo_0 i cs ct cf cl cp s k w n0 a0 b0 j nv))) ∧ (yNlt (goalClo_1 i) nv = false → False)) ∧ (yIn (yWrap IntKind.i64 (yAdd (yInt i) 1)) nv = false → False)) ∧ (yEq (yWrap IntKind.i64 (yAdd (yInt i) 1)) (0 : Int) = false → (yIn (goalClo_3 i) nv = true → (yNlt (yNadd 0 (yNat (goalClo_3 i))) nv = true → (yIn (yWrap IntKind.i64 (yAdd (yInt i) 1)) nv = true → (yNlt (goalClo_1 i) nv = true → (yNot false = true → (rightC cs ct cf cl cp = true → (yNeq (rN (cloO cs ct cf s k w n0 a0 b0 j i)) (rN (cloO cs ct cf s k w n0 a0 b0 j i)) = true → (yGrow (yNadd (rN (cloO cs ct cf s k w n0 a0 b0 j i)) 1) (nat_lit 16) = true → (rightC cs ct cf cl cp = true → (yNeq (yNadd (rN (cloO cs ct cf s k w n0 a0 b0 j i)) 1) (yNadd (rN (cloO cs ct cf s k w n0 a0 b0 j i)) 1) = true → (yGrow (goalClo_4 cs ct cf s k w n0 a0 b0 j i) (nat_lit 16) = true → true = true ∧ ∃ (i' : Nat), (j ≤ i' ∧ Nat.succ i' ≤ nv) ∧ Nat.succ (msFit nv i') ≤ msFit nv i ∧ true = true ∧ yInt i' = yWrap IntKind.i64 (yAdd (yInt i) 1) ∧ cs = cs ∧ ct = ct ∧ cf = cf ∧ cl = cl ∧ cp = cp ∧ rE (cloO cs ct cf s k w n0 a0 b0 j i') = yAnd (yAnd (rE (cloO cs ct cf s k w n0 a0 b0 j i)) (yNeq 1 0)) (yNeq 1 0) ∧ nat_lit 0 = nat_lit 0 ∧ rN (cloO cs ct cf s k w n0 a0 b0 j i') = yNadd (yNadd (rN (cloO cs ct cf s k w n0 a0 b0 j i)) 1) 1 ∧ rN (cloO cs ct cf s k w n0 a0 b0 j i') = yNadd (yNadd (rN (cloO cs ct cf s k w n0 a0 b0 j i)) 1) 1 ∧ (∀ (i_1 : Nat), Nat.succ i_1 ≤ rN (cloO cs ct cf s k w n0 a0 b0 j i') → rA (cloO cs ct cf s k w n0 a0 b0 j i') i_1 = ySel (yNlt i_1 (yNadd (rN (cloO cs ct cf s k w n0 a0 b0 j i)) 1)) (ySel (yNlt i_1 (rN (cloO cs ct cf s k w n0 a0 b0 j i))) (rA (cloO cs ct cf s k w n0 a0 b0 j i) i_1) (keyC cs ct cf s (yInt i))) (valC cs ct cf s (yInt i)) ∧ rB (cloO cs ct cf s k w n0 a0 b0 j i') i_1 = ySel (yNlt i_1 (yNadd (rN (cloO cs ct cf s k w n0 a0 b0 j i)) 1)) (ySel (yNlt i_1 (rN (cloO cs ct cf s k w n0 a0 b0 j i))) (rB (cloO cs ct cf s k w n0 a0 b0 j i) i_1) (k (yNadd 0 (yNat (goalClo_3 i))))) (w (goalClo_1 i)) ∧ True) ∧ true = true) ∧ (yGrow (goalClo_4 cs ct cf s k w n0 a0 b0 j i) (nat_lit 16) = false → False)) ∧ (goalClo_2 cs ct cf s k w n0 a0 b0 j i)) ∧ (rightC cs ct cf cl cp = false → False)) ∧ (goalClo_6 cs ct cf s k w n0 a0 b0 j i)) ∧ (goalClo_5 cs ct cf s k w n0 a0 b0 j i)) ∧ (rightC cs ct cf cl cp = false → False)) ∧ (yNot false = false → (yLt 0 (yInt i) = true → (rightC cs ct cf cl cp = true → (yNeq (rN (cloO cs ct cf s k w n0 a0 b0 j i)) (rN (cloO cs ct cf s k w n0 a0 b0 j i)) = true → (yGrow (yNadd (rN (cloO cs ct cf s k w n0 a0 b0 j i)) 1) (nat_lit 16) = true → (rightC cs ct cf cl cp = true → (yNeq (yNadd (rN (cloO cs ct cf s k w n0 a0 b0 j i)) 1) (yNadd (rN (cloO cs ct cf s k w n0 a0 b0 j i)) 1) = true → (yGrow (goalClo_4 cs ct cf s k w n0 a0 b0 j i) (nat_lit 16) = true → true = true ∧ ∃ (i' : Nat), (j ≤ i' ∧ Nat.succ i' ≤ nv) ∧ Nat.succ (msFit nv i') ≤ msFit nv i ∧ true = true ∧ yInt i' = yWrap IntKind.i64 (yAdd (yInt i) 1) ∧ cs = cs ∧ ct = ct ∧ cf = cf ∧ cl = cl ∧ cp = cp ∧ rE (cloO cs ct cf s k w n0 a0 b0 j i') = yAnd (yAnd (rE (cloO cs ct cf s k w n0 a0 b0 j i)) (yNeq 1 0)) (yNeq 1 0) ∧ nat_lit 0 = nat_lit 0 ∧ rN (cloO cs ct cf s k w n0 a0 b0 j i') = yNadd (yNadd (rN (cloO cs ct cf s k w n0 a0 b0 j i)) 1) 1 ∧ rN (cloO cs ct cf s k w n0 a0 b0 j i') = yNadd (yNadd (rN (cloO cs ct cf s k w n0 a0 b0 j i)) 1) 1 ∧ (∀ (i_1 : Nat), Nat.succ i_1 ≤ rN (cloO cs ct cf s k w n0 a0 b0 j i') → rA (cloO cs ct cf s k w n0 a0 b0 j i') i_1 = ySel (yNlt i_1 (yNadd (rN (cloO cs ct cf s k w n0 a0 b0 j i)) 1)) (ySel (yNlt i_1 (rN (cloO cs ct cf s k w n0 a0 b0 j i))) (rA (cloO cs ct cf s k w n0 a0 b0 j i) i_1) (keyC cs ct cf s (yWrap IntKind.i64 (ySub (yInt i) 1)))) (valC cs ct cf s (yInt i)) ∧ rB (cloO cs ct cf s k w n0 a0 b0 j i') i_1 = ySel (yNlt i_1 (yNadd (rN (cloO cs ct cf s k w n0 a0 b0 j i)) 1)) (ySel (yNlt i_1 (rN (cloO cs ct cf s k w n0 a0 b0 j i))) (rB (cloO cs ct cf s k w n0 a0 b0 j i) i_1) (k (yNadd 0 (yNat (goalClo_3 i))))) (w (goalClo_1 i)) ∧ True) ∧ true = true) ∧ (yGrow (goalClo_4 cs ct cf s k w n0 a0 b0 j i) (nat_lit 16) = false → False)) ∧ (goalClo_2 cs ct cf s k w n0 a0 b0 j i)) ∧ (rightC cs ct cf cl cp = false → False)) ∧ (goalClo_6 cs ct cf s k w n0 a0 b0 j i)) ∧ (goalClo_5 cs ct cf s k w n0 a0 b0 j i)) ∧ (rightC cs ct cf cl cp = false → False)) ∧ (goalClo_0 i cs ct cf cl cp s k w n0 a0 b0 j nv))) ∧ (yNlt (goalClo_1 i) nv = false → False)) ∧ (yIn (yWrap IntKind.i64 (yAdd (yInt i) 1)) nv = false → False)) ∧ (yNlt (yNadd 0 (yNat (goalClo_3 i))) nv = false → False)) ∧ (yIn (goalClo_3 i) nv = false → False)))) ∧ (yLt (yInt i) (yWrap IntKind.i64 (ySub (yInt nv) 1)) = false → (rightC cs ct cf cl cp = true → (true = true → (yNeq (rN (cloO cs ct cf s k w n0 a0 b0 j i)) (rN (cloO cs ct cf s k w n0 a0 b0 j i)) = true → (yGrow (yNadd (rN (cloO cs ct cf s k w n0 a0 b0 j i)) 1) (nat_lit 16) = true → cs = cs ∧ ct = ct ∧ cf = cf ∧ cl = cl ∧ cp = cp ∧ rE (cloL cs ct cf s k w n0 a0 b0 j nv) = yAnd (rE (cloO cs ct cf s k w n0 a0 b0 j i)) (yNeq 1 0) ∧ nat_lit 0 = nat_lit 0 ∧ rN (cloL cs ct cf s k w n0 a0 b0 j nv) = yNadd (rN (cloO cs ct cf s k w n0 a0 b0 j i)) 1 ∧ rN (cloL cs ct cf s k w n0 a0 b0 j nv) = yNadd (rN (cloO cs ct cf s k w n0 a0 b0 j i)) 1 ∧ (∀ (i_1 : Nat), Nat.succ i_1 ≤ rN (cloL cs ct cf s k w n0 a0 b0 j nv) → rA (cloL cs ct cf s k w n0 a0 b0 j nv) i_1 = ySel (yNlt i_1 (rN (cloO cs ct cf s k w n0 a0 b0 j i))) (rA (cloO cs ct cf s k w n0 a0 b0 j i) i_1) (shapeC cs ct cf s) ∧ rB (cloL cs ct cf s k w n0 a0 b0 j nv) i_1 = ySel (yNlt i_1 (rN (cloO cs ct cf s k w n0 a0 b0 j i))) (rB (cloO cs ct cf s k w n0 a0 b0 j i) i_1) (packC false (yWrap IntKind.i64 (ySub (yInt nv) 1))) ∧ True) ∧ true = true) ∧ (goalClo_6 cs ct cf s k w n0 a0 b0 j i)) ∧ (goalClo_5 cs ct cf s k w n0 a0 b0 j i)) ∧ (true = false → False)) ∧ (rightC cs ct cf cl cp = false → False)))
theorem goalClo_eq : goalClo = goalCloV := by kernel_rfl
set_option maxHeartbeats 4000000 in
theorem goalClo_vc : goalCloV := by
 unfold goalCloV goalClo_4 goalClo_3 goalClo_2 goalClo_0 goalClo_6 goalClo_5 goalClo_1
 intro cs ct cf cl cp s v kn k vn nv w l nil0 n0 a0 b0 j hr hnv hn0 hj h0
 simp only [yNle_t, yNlt_t, yIff_t] at hnv hn0 hj h0
 obtain ⟨z1, z2, z3⟩ := cloO_zero (cs := cs) (ct := ct) (cf := cf) (s := s) (k := k) (w := w) (n0 := n0) (a0 := a0) (b0 := b0) (j := j) h0
 simp only [vS, forall_const, hr, msFit]
 refine ⟨⟨j, ⟨Nat.le_refl _, hj⟩, rfl, z1, z2, z2, z3⟩, fun _ i hi => ?_⟩
 have hlen : rN (cloO cs ct cf s k w n0 a0 b0 j i) = n0 + 2 * (i - j) := by
   have := cloO_len (cs := cs) (ct := ct) (cf := cf) (s := s) (k := k) (w := w) (n0 := n0) (a0 := a0) (b0 := b0) (j := j) (i - j)
   rwa [show j + (i - j) = i by omega] at this
 have hst := cloO_step (cs := cs) (ct := ct) (cf := cf) (s := s) (k := k) (w := w) (n0 := n0) (a0 := a0) (b0 := b0) hi.1
 have e1 : yWrap .i64 ((i : Int) + 1) = ((i + 1 : Nat) : Int) := by rw [wrap64 (by omega) (by omega)]; rfl
 have e2 : yWrap .i64 ((nv : Int) - 1) = (nv : Int) - 1 := wrap64 (by omega) (by omega)
 simp only [e1, e2, yNat_e]
 refine ⟨fun hlt => ?_, fun hge => ?_⟩
 · repeat' (first | apply And.intro | intro _)
   all_goals first
     | omega
     | (refine ⟨i + 1, ⟨by omega, by omega⟩, by omega, rfl, ?_⟩
        rw [hst]
        refine ⟨by rw [rE_snoc, yAnd10], by rw [rN_snoc, rN_snoc], by rw [rN_snoc, rN_snoc], fun q hq => ?_⟩
        rw [rN_snoc, rN_snoc] at hq
        exact ⟨rA_snoc2 _ _ _ hq, rB_snoc2 _ _ _ hq⟩)
 · have hi2 : i = nv - 1 := by omega
   have hcl : cloL cs ct cf s k w n0 a0 b0 j nv = cloO cs ct cf s k w n0 a0 b0 j i ++ [(shapeC cs ct cf s, packC false ((nv : Int) - 1))] := by unfold cloL; rw [hi2]
   rw [hcl]
   refine ⟨⟨fun _ => ⟨by rw [rE_snoc, yAnd10], rN_snoc _ _, rN_snoc _ _, fun q hq => ?_⟩, fun h => by omega⟩, fun h => by omega⟩
   rw [rN_snoc] at hq
   exact ⟨rA_snoc _ _ hq, rB_snoc _ _ hq⟩
theorem goalClo_tt : (goalClo) = True := goalClo_eq.trans (eq_true goalClo_vc)
theorem goalClo_ok : goalClo := @ft' goalClo goalClo_tt
def setOk (cs s : Int) (i : Bool) (nk : Nat) (k : Nat → Int) (nv : Nat) (cf at_ : Int) : Bool := decide ((1 ≤ s ∧ s ≤ cs) ∧ fitsC i nk k nv cf = true ∧ i = false ∧ 0 ≤ at_ ∧ at_ < nv)
def setL (cs ct cf s v : Int) (i : Bool) (nk : Nat) (k : Nat → Int) (nv : Nat) (at_ word : Int) : List (Int × Int) :=
 if setOk cs s i nk k nv cf at_ then [(valC cs ct cf s at_, word), (verC cs ct cf s, bumpC v)] else []
def goalSet (P : Program) (f : FuncId) : Prop := ∀ (cs ct cf cl cp s v : Int) (i kn : Bool) (nk : Nat) (k : Nat → Int) (vn : Bool) (nv : Nat) (w : Nat → Int) (l at_ word : Int) (L : List (Int × Int)),
 rightC cs ct cf cl cp = true → inU v = true → yAnd (yNle nk 80) (yNle nv 80) = true → L = setL cs ct cf s v i nk k nv at_ word →
 wxP P (smL lShr) (fun _ => none) f [sConf, sPart, .sc, .sc] [dCf cs ct cf cl cp, dPt s v i kn nk k vn nv w l, .v (.y .i64 at_), .v (.y .u64 word)] ownW (rowsW L) []
def goalSetP : Prop := goalSet Tryz.prog 112
def goalSetPV : Prop := (∀ (cs ct cf cl cp s v : Int) (i _kn : Bool) (nk : Nat) (k : Nat → Int) (_vn : Bool) (nv : Nat) (w : Nat → Int) (_l at_ word : Int) (L : List (Int × Int)), rightC cs ct cf cl cp = true → yAnd (yLe 0 v) (yLt v 18446744073709551616) = true → yAnd (yNle nk 80) (yNle nv 80) = true → L = setL cs ct cf s v i nk k nv at_ word → (rightC cs ct cf cl cp = true → (yLt (verC cs ct cf s) (0 : Int) = true → rE L = true ∧ rN L = nat_lit 0 ∧ rN L = nat_lit 0 ∧ true = true ∧ true = true) ∧ (yLt (verC cs ct cf s) (0 : Int) = false → (yEq s (0 : Int) = true → rE L = true ∧ rN L = nat_lit 0 ∧ rN L = nat_lit 0 ∧ true = true ∧ true = true) ∧ (yEq s (0 : Int) = false → (yNle (yNadd 0 nk) nk = true → ((yCol (CK.int IntKind.u64) nk fun (i : Nat) => AV.y IntKind.u64 (k i)) = true → (yNle (yNadd 0 nv) nv = true → ((yCol (CK.int IntKind.u64) nv fun (i : Nat) => AV.y IntKind.u64 (w i)) = true → (yAnd (yNle nk 80) (yNle nv 80) = true → (yNot (fitsC i nk (fun (i : Nat) => k i) nv cf) = true → rE L = true ∧ rN L = nat_lit 0 ∧ rN L = nat_lit 0 ∧ true = true ∧ true = true) ∧ (yNot (fitsC i nk (fun (i : Nat) => k i) nv cf) = false → (yNot i = true → (yLe 0 at_ = true → (yNot (yLt at_ (yInt nv)) = true → rE L = true ∧ rN L = nat_lit 0 ∧ rN L = nat_lit 0 ∧ true = true ∧ true = true) ∧ (yNot (yLt at_ (yInt nv)) = false → (rightC cs ct cf cl cp = true → (rightC cs ct cf cl cp = true → (yAnd (yLe 0 v) (yLt v 18446744073709551616) = true → rE L = false ∧ nat_lit 0 = nat_lit 0 ∧ rN L = nat_lit 2 ∧ rN L = nat_lit 2 ∧ ((rA L (nat_lit 0) = valC cs ct cf s at_ ∧ rB L (nat_lit 0) = word ∧ True) ∧ (rA L (nat_lit 1) = verC cs ct cf s ∧ rB L (nat_lit 1) = bumpC v ∧ True) ∧ True) ∧ true = true) ∧ (yAnd (yLe 0 v) (yLt v 18446744073709551616) = false → False)) ∧ (rightC cs ct cf cl cp = false → False)) ∧ (rightC cs ct cf cl cp = false → False))) ∧ (yLe 0 at_ = false → rE L = true ∧ rN L = nat_lit 0 ∧ rN L = nat_lit 0 ∧ true = true ∧ true = true)) ∧ (yNot i = false → rE L = true ∧ rN L = nat_lit 0 ∧ rN L = nat_lit 0 ∧ true = true ∧ true = true))) ∧ (yAnd (yNle nk 80) (yNle nv 80) = false → False)) ∧ ((yCol (CK.int IntKind.u64) nv fun (i : Nat) => AV.y IntKind.u64 (w i)) = false → False)) ∧ (yNle (yNadd 0 nv) nv = false → False)) ∧ ((yCol (CK.int IntKind.u64) nk fun (i : Nat) => AV.y IntKind.u64 (k i)) = false → False)) ∧ (yNle (yNadd 0 nk) nk = false → False)))) ∧ (rightC cs ct cf cl cp = false → False))
theorem goalSetP_eq : goalSetP = goalSetPV := by kernel_rfl
set_option maxHeartbeats 4000000 in
theorem goalSetP_vc : goalSetPV := by
 unfold goalSetPV
 intro cs ct cf cl cp s v i kn nk k vn nv w l at_ word L hr hv h8 hL
 have hv1 := verC_or (a := s) hr
 have hc := rightC_iff.1 hr
 simp only [yAnd_t, yLe_t, yLt_t, yNle_t] at hv h8
 unfold setL at hL
 by_cases hk : setOk cs s i nk k nv cf at_ = true
 · rw [if_pos hk] at hL
   subst hL
   unfold setOk at hk
   rw [decide_eq_true_iff] at hk
   obtain ⟨k1, k2, rfl, k4, k5⟩ := hk
   have k6 := (fits_t.1 k2).1
   simp only [vS, forall_const, hr, k2]
   repeat' (first | apply And.intro | intro _)
   all_goals first
     | rfl
     | (exfalso; omega)
     | omega
 · rw [if_neg hk] at hL
   subst hL
   simp only [vS, forall_const, hr]
   repeat' (first | apply And.intro | intro _)
   all_goals first
     | rfl
     | (exfalso; omega)
     | omega
     | (exfalso
        apply hk
        unfold setOk
        rw [decide_eq_true_iff]
        exact ⟨by omega, by assumption, by assumption, by omega, by omega⟩)
theorem goalSetP_tt : (goalSetP) = True := goalSetP_eq.trans (eq_true goalSetP_vc)
theorem goalSetP_ok : goalSetP := @ft' goalSetP goalSetP_tt
def remL (cs ct cf s v : Int) (i : Bool) (nk : Nat) (k : Nat → Int) (nv : Nat) (w : Nat → Int) (at_ : Int) : List (Int × Int) :=
 if setOk cs s i nk k nv cf at_ then cloL cs ct cf s k w 0 (fun _ => 0) (fun _ => 0) (yNat at_) nv ++ [(verC cs ct cf s, bumpC v)] else []
def fClo (ds : List Dx) : Option (Bool × Dx × List (List Dx)) :=
 match ds with
 | [.l [.v (.y .i64 cs), .v (.y .i64 ct), .v (.y .i64 cf), .v (.y .i64 cl), .v (.y .i64 cp), .rows nil0 n0 [.int .i64 a0, .int .u64 b0]], .l [.v (.y .i64 s), .v (.y .u64 _), .v (.yb i), .rows _ nk [.int .u64 k], .rows _ nv [.int .u64 w], .v (.y .u64 _)], .v (.y .i64 j)] =>
   some (yAnd (rightC cs ct cf cl cp) (yAnd (yNle nv 80) (yAnd (yNle n0 1000) (yAnd (yIn j nv) (yAnd (yIff nil0 (yNeq n0 0)) (yAnd (yNot i) (yNeq nk nv)))))), .l [],
     [[.v (.y .i64 cs), .v (.y .i64 ct), .v (.y .i64 cf), .v (.y .i64 cl), .v (.y .i64 cp), rowsW (cloL cs ct cf s k w n0 a0 b0 (yNat j) nv)]])
 | _ => none
def lRem : List (Nat × Sm) := (142, .ct (ctX [sPen, sPart, .sc] (.tup []) fClo)) :: lShr
def goalRem (P : Program) (f : FuncId) : Prop := ∀ (cs ct cf cl cp s v : Int) (i kn : Bool) (nk : Nat) (k : Nat → Int) (vn : Bool) (nv : Nat) (w : Nat → Int) (l at_ : Int) (L : List (Int × Int)),
 rightC cs ct cf cl cp = true → inU v = true → yAnd (yNle nk 80) (yNle nv 80) = true → L = remL cs ct cf s v i nk k nv w at_ →
 wxP P (smL lRem) (fun _ => none) f [sConf, sPart, .sc] [dCf cs ct cf cl cp, dPt s v i kn nk k vn nv w l, .v (.y .i64 at_)] ownW (rowsW L) []
def goalRemP : Prop := goalRem Tryz.prog 114
theorem rE_snoc' (l : List (Int × Int)) (x : Int × Int) : rE (l ++ [x]) = yAnd (rE l) (yNeq 1 0) := by rw [rE_snoc, yAnd10]
theorem cloL_len {cs ct cf s : Int} {k w : Nat → Int} {n0 : Nat} {a0 b0 : Nat → Int} {j nv : Nat} (h1 : j < nv) (h2 : nv ≤ 80) (h3 : n0 ≤ 1000) : rN (cloL cs ct cf s k w n0 a0 b0 j nv) ≤ 2000 := by
 have := cloO_len (cs := cs) (ct := ct) (cf := cf) (s := s) (k := k) (w := w) (n0 := n0) (a0 := a0) (b0 := b0) (j := j) (nv - 1 - j)
 rw [show j + (nv - 1 - j) = nv - 1 by omega] at this
 unfold cloL
 rw [rN_snoc, this]; omega
def goalRemP_0 (cs : Int) (ct : Int) (cf : Int) (s : Int) (k : Nat → Int) (w : Nat → Int) (at_ : Int) (nv : Nat) := cloL cs ct cf s (fun (i : Nat) => k i) (fun (i : Nat) => w i) 0 (fun (_ : Nat) => (0 : Int)) (fun (_ : Nat) => (0 : Int)) (yNat at_) nv
def goalRemPV : Prop := (∀ (cs ct cf cl cp s v : Int) (i _kn : Bool) (nk : Nat) (k : Nat → Int) (_vn : Bool) (nv : Nat) (w : Nat → Int) (_l at_ : Int) (L : List (Int × Int)), rightC cs ct cf cl cp = true → yAnd (yLe 0 v) (yLt v 18446744073709551616) = true → yAnd (yNle nk 80) (yNle nv 80) = true → L = remL cs ct cf s v i nk k nv w at_ → (rightC cs ct cf cl cp = true → (yLt (verC cs ct cf s) (0 : Int) = true → rE L = true ∧ rN L = nat_lit 0 ∧ rN L = nat_lit 0 ∧ true = true ∧ true = true) ∧ (yLt (verC cs ct cf s) (0 : Int) = false → (yEq s (0 : Int) = true → rE L = true ∧ rN L = nat_lit 0 ∧ rN L = nat_lit 0 ∧ true = true ∧ true = true) ∧ (yEq s (0 : Int) = false → (yNle (yNadd 0 nk) nk = true → ((yCol (CK.int IntKind.u64) nk fun (i : Nat) => AV.y IntKind.u64 (k i)) = true → (yNle (yNadd 0 nv) nv = true → ((yCol (CK.int IntKind.u64) nv fun (i : Nat) => AV.y IntKind.u64 (w i)) = true → (yAnd (yNle nk 80) (yNle nv 80) = true → (yNot (fitsC i nk (fun (i : Nat) => k i) nv cf) = true → rE L = true ∧ rN L = nat_lit 0 ∧ rN L = nat_lit 0 ∧ true = true ∧ true = true) ∧ (yNot (fitsC i nk (fun (i : Nat) => k i) nv cf) = false → (yNot i = true → (yLe 0 at_ = true → (yNot (yLt at_ (yInt nv)) = true → rE L = true ∧ rN L = nat_lit 0 ∧ rN L = nat_lit 0 ∧ true = true ∧ true = true) ∧ (yNot (yLt at_ (yInt nv)) = false → (yNle (yNadd 0 nk) nk = true → ((yCol (CK.int IntKind.u64) nk fun (i : Nat) => AV.y IntKind.u64 (k i)) = true → (yNle (yNadd 0 nv) nv = true → ((yCol (CK.int IntKind.u64) nv fun (i : Nat) => AV.y IntKind.u64 (w i)) = true → (yAnd (rightC cs ct cf cl cp) (yAnd (yNle nv 80) (yAnd (yNle 0 1000) (yAnd (yIn at_ nv) (yAnd (yIff true (yNeq 0 0)) (yAnd (yNot i) (yNeq nk nv)))))) = true → (rightC cs ct cf cl cp = true → (yAnd (yLe 0 v) (yLt v 18446744073709551616) = true → (yNeq (rN (goalRemP_0 cs ct cf s k w at_ nv)) (rN (goalRemP_0 cs ct cf s k w at_ nv)) = true → (yGrow (yNadd (rN (goalRemP_0 cs ct cf s k w at_ nv)) 1) (nat_lit 16) = true → rE L = yAnd (rE (goalRemP_0 cs ct cf s k w at_ nv)) (yNeq 1 0) ∧ nat_lit 0 = nat_lit 0 ∧ rN L = yNadd (rN (goalRemP_0 cs ct cf s k w at_ nv)) 1 ∧ rN L = yNadd (rN (goalRemP_0 cs ct cf s k w at_ nv)) 1 ∧ (∀ (i : Nat), Nat.succ i ≤ rN L → rA L i = ySel (yNlt i (rN (goalRemP_0 cs ct cf s k w at_ nv))) (rA (goalRemP_0 cs ct cf s k w at_ nv) i) (verC cs ct cf s) ∧ rB L i = ySel (yNlt i (rN (goalRemP_0 cs ct cf s k w at_ nv))) (rB (goalRemP_0 cs ct cf s k w at_ nv) i) (bumpC v) ∧ True) ∧ true = true) ∧ (yGrow (yNadd (rN (goalRemP_0 cs ct cf s k w at_ nv)) 1) (nat_lit 16) = false → False)) ∧ (yNeq (rN (goalRemP_0 cs ct cf s k w at_ nv)) (rN (goalRemP_0 cs ct cf s k w at_ nv)) = false → False)) ∧ (yAnd (yLe 0 v) (yLt v 18446744073709551616) = false → False)) ∧ (rightC cs ct cf cl cp = false → False)) ∧ (yAnd (rightC cs ct cf cl cp) (yAnd (yNle nv 80) (yAnd (yNle 0 1000) (yAnd (yIn at_ nv) (yAnd (yIff true (yNeq 0 0)) (yAnd (yNot i) (yNeq nk nv)))))) = false → False)) ∧ ((yCol (CK.int IntKind.u64) nv fun (i : Nat) => AV.y IntKind.u64 (w i)) = false → False)) ∧ (yNle (yNadd 0 nv) nv = false → False)) ∧ ((yCol (CK.int IntKind.u64) nk fun (i : Nat) => AV.y IntKind.u64 (k i)) = false → False)) ∧ (yNle (yNadd 0 nk) nk = false → False))) ∧ (yLe 0 at_ = false → rE L = true ∧ rN L = nat_lit 0 ∧ rN L = nat_lit 0 ∧ true = true ∧ true = true)) ∧ (yNot i = false → rE L = true ∧ rN L = nat_lit 0 ∧ rN L = nat_lit 0 ∧ true = true ∧ true = true))) ∧ (yAnd (yNle nk 80) (yNle nv 80) = false → False)) ∧ ((yCol (CK.int IntKind.u64) nv fun (i : Nat) => AV.y IntKind.u64 (w i)) = false → False)) ∧ (yNle (yNadd 0 nv) nv = false → False)) ∧ ((yCol (CK.int IntKind.u64) nk fun (i : Nat) => AV.y IntKind.u64 (k i)) = false → False)) ∧ (yNle (yNadd 0 nk) nk = false → False)))) ∧ (rightC cs ct cf cl cp = false → False))
theorem goalRemP_eq : goalRemP = goalRemPV := by kernel_rfl
set_option maxHeartbeats 4000000 in
theorem goalRemP_vc : goalRemPV := by
 unfold goalRemPV goalRemP_0
 intro cs ct cf cl cp s v i kn nk k vn nv w l at_ L hr hv h8 hL
 have hv1 := verC_or (a := s) hr
 have hc := rightC_iff.1 hr
 simp only [yAnd_t, yLe_t, yLt_t, yNle_t] at hv h8
 unfold remL at hL
 by_cases hk : setOk cs s i nk k nv cf at_ = true
 · rw [if_pos hk] at hL
   subst hL
   unfold setOk at hk
   rw [decide_eq_true_iff] at hk
   obtain ⟨k1, k2, rfl, k4, k5⟩ := hk
   have k6 := (fits_t.1 k2).1
   have k7 : nv = nk := by have := (fits_t.1 k2).2.1; simpa using this
   have hlen := cloL_len (cs := cs) (ct := ct) (cf := cf) (s := s) (k := k) (w := w) (n0 := 0) (a0 := fun _ => 0) (b0 := fun _ => 0) (j := yNat at_) (nv := nv) (by unfold yNat; omega) h8.2 (by omega)
   have hT : (true = yNeq 0 0) = True := eq_true rfl
   have hl2 : rN (cloL cs ct cf s (fun i => k i) (fun i => w i) 0 (fun _ => 0) (fun _ => 0) (yNat at_) nv) ≤ 2000 := hlen
   clear hlen
   simp only [vS, forall_const, hr, k2, false_or, ne_eq, hT, not_true_eq_false]
   repeat' (first | apply And.intro | intro _)
   all_goals first
     | rfl
     | (exfalso; omega)
     | omega
     | exact rE_snoc' _ _
     | exact rN_snoc _ _
     | (rename_i hq; rw [rN_snoc] at hq; first | exact rA_snoc _ _ hq | exact rB_snoc _ _ hq)
 · rw [if_neg hk] at hL
   subst hL
   simp only [vS, forall_const, hr, false_or]
   repeat' (first | apply And.intro | intro _)
   all_goals first
     | rfl
     | (exfalso; omega)
     | omega
     | (exfalso
        apply hk
        unfold setOk
        rw [decide_eq_true_iff]
        exact ⟨by omega, by assumption, by assumption, by omega, by omega⟩)
theorem goalRemP_tt : (goalRemP) = True := goalRemP_eq.trans (eq_true goalRemP_vc)
theorem goalRemP_ok : goalRemP := @ft' goalRemP goalRemP_tt
def dnL (cs ct cf s : Int) (k w : Nat → Int) (n : Nat) (d : Nat) : List (Int × Int) := (List.range d).flatMap fun e => layL cs ct cf s ((n - 1 - e : Nat) : Int) (k (n - 2 - e)) (w (n - 2 - e))
def opO (cs ct cf s : Int) (k w : Nat → Int) (n0 : Nat) (a0 b0 : Nat → Int) (n d : Nat) : List (Int × Int) :=
 prw n0 a0 b0 ++ (layL cs ct cf s (n : Int) (k (n - 1)) (w (n - 1)) ++ [(shapeC cs ct cf s, packC false ((n : Int) + 1))]) ++ dnL cs ct cf s k w n d
def opR (cs ct cf s : Int) (k w : Nat → Int) (n0 : Nat) (a0 b0 : Nat → Int) (n d : Nat) : List (Int × Int) :=
 match d with | 0 => prw n0 a0 b0 | d + 1 => opO cs ct cf s k w n0 a0 b0 n d
def opL (cs ct cf s : Int) (k w : Nat → Int) (n0 : Nat) (a0 b0 : Nat → Int) (n j : Nat) (key val : Int) : List (Int × Int) :=
 if j = n then prw n0 a0 b0 ++ layL cs ct cf s (n : Int) key val ++ [(shapeC cs ct cf s, packC false ((n : Int) + 1))]
 else opO cs ct cf s k w n0 a0 b0 n (n - 1 - j) ++ layL cs ct cf s (j : Int) key val
def prOp (j n d : Nat) : Prop := j + d ≤ n
def penId (h : AH) : List Nat := match h.get 1 with | some (.cells c _ _) => (match nthA c 5 with | some (.ysl _ _ id _ _ _) => [id] | some (.sl id _ _ _ _) => [id] | _ => []) | _ => []
def tmpId (tm : Tr AV) (t : Nat) : List Nat := match evT tm (.tmp t) with | .ysl _ _ id _ _ _ => [id] | .sl id _ _ _ _ => [id] | _ => []
def annOpn (cs ct cf cl cp : Int) (O : Nat → List (Int × Int)) (j nv : Nat) (b : Nat) : Option (St → LoopA) :=
 match b with
 | 0 => some fun z => { ι := Nat, tms := [12], tmU := fun d => [.y .i64 (yInt (yNsub nv (Nat.succ d)))], ids := [1, z.h.nx], hpU := fun d => [.cells [.y .i64 cs, .y .i64 ct, .y .i64 cf, .y .i64 cl, .y .i64 cp, slW z.h.nx (O d)] 176 none, arW (O d)], del := penId z.h, ex := 1, pre := fun d => prOp j nv (Nat.succ d), ms := msFit nv }
 | _ => none
def goalOpn : Prop := ∀ (cs ct cf cl cp s v : Int) (kn : Bool) (k : Nat → Int) (vn : Bool) (nv : Nat) (w : Nat → Int) (l : Int) (nil0 : Bool) (n0 : Nat) (a0 b0 : Nat → Int) (j : Nat) (key val : Int) (L : List (Int × Int)) (O : Nat → List (Int × Int)),
 rightC cs ct cf cl cp = true → yNle nv 80 = true → yNle n0 1000 = true → yNle j nv = true → yIff nil0 (yNeq n0 0) = true → L = opL cs ct cf s k w n0 a0 b0 nv j key val → O = opO cs ct cf s k w n0 a0 b0 nv →
 wxP Tryz.prog (smL lLay) (annOpn cs ct cf cl cp O j nv) 138 [sPen, sPart, .sc, .sc, .sc] [dPen cs ct cf cl cp (.rows nil0 n0 [.int .i64 a0, .int .u64 b0]), dPt s v false kn nv k vn nv w l, .v (.y .i64 (yInt j)), .v (.y .u64 key), .v (.y .u64 val)] (.tup []) (.l []) [[.v (.y .i64 cs), .v (.y .i64 ct), .v (.y .i64 cf), .v (.y .i64 cl), .v (.y .i64 cp), rowsW L]]
theorem rA_snoc3 (l : List (Int × Int)) (x y z : Int × Int) {j : Nat} (h : j < rN l + 1 + 1 + 1) : rA (l ++ [x] ++ [y] ++ [z]) j = ySel (yNlt j (rN l + 1 + 1)) (ySel (yNlt j (rN l + 1)) (ySel (yNlt j (rN l)) (rA l j) x.1) y.1) z.1 := by
 rw [rA_snoc _ z (by rw [rN_snoc, rN_snoc]; exact h), rN_snoc, rN_snoc]
 by_cases hj : j < rN l + 1 + 1
 · rw [rA_snoc2 _ x y hj]
 · simp [ySel, yNlt, hj]
theorem rB_snoc3 (l : List (Int × Int)) (x y z : Int × Int) {j : Nat} (h : j < rN l + 1 + 1 + 1) : rB (l ++ [x] ++ [y] ++ [z]) j = ySel (yNlt j (rN l + 1 + 1)) (ySel (yNlt j (rN l + 1)) (ySel (yNlt j (rN l)) (rB l j) x.2) y.2) z.2 := by
 rw [rB_snoc _ z (by rw [rN_snoc, rN_snoc]; exact h), rN_snoc, rN_snoc]
 by_cases hj : j < rN l + 1 + 1
 · rw [rB_snoc2 _ x y hj]
 · simp [ySel, yNlt, hj]
theorem sel_old {q n : Nat} {a b c : Int} (h : q < n → a = b) : ySel (yNlt q n) b c = ySel (yNlt q n) a c := by
 by_cases hq : q < n
 · rw [h hq]
 · simp [ySel, yNlt, hq]
theorem opR_zero {cs ct cf s : Int} {k w : Nat → Int} {nil0 : Bool} {n0 : Nat} {a0 b0 : Nat → Int} {n : Nat} (h : nil0 = yNeq n0 0) : rE (opR cs ct cf s k w n0 a0 b0 n 0) = nil0 ∧ rN (opR cs ct cf s k w n0 a0 b0 n 0) = n0 ∧
   ∀ i, i + 1 ≤ rN (opR cs ct cf s k w n0 a0 b0 n 0) → rA (opR cs ct cf s k w n0 a0 b0 n 0) i = a0 i ∧ rB (opR cs ct cf s k w n0 a0 b0 n 0) i = b0 i := by
 have := cloO_zero (cs := cs) (ct := ct) (cf := cf) (s := s) (k := k) (w := w) (a0 := a0) (b0 := b0) (j := 0) h
 have e : cloO cs ct cf s k w n0 a0 b0 0 0 = prw n0 a0 b0 := by simp [cloO, shO_self]
 rw [e] at this
 exact this
theorem opR_one {cs ct cf s : Int} {k w : Nat → Int} {n0 : Nat} {a0 b0 : Nat → Int} {n : Nat} : opR cs ct cf s k w n0 a0 b0 n 1 = opR cs ct cf s k w n0 a0 b0 n 0 ++ [(keyC cs ct cf s n, k (n - 1))] ++ [(valC cs ct cf s n, w (n - 1))] ++ [(shapeC cs ct cf s, packC false ((n : Int) + 1))] := by
 simp [opR, opO, dnL, layL]
theorem opR_step {cs ct cf s : Int} {k w : Nat → Int} {n0 : Nat} {a0 b0 : Nat → Int} {n d : Nat} (h : 1 ≤ d) : opR cs ct cf s k w n0 a0 b0 n (d + 1) = opR cs ct cf s k w n0 a0 b0 n d ++ [(keyC cs ct cf s ((n - d : Nat) : Int), k (n - d - 1))] ++ [(valC cs ct cf s ((n - d : Nat) : Int), w (n - d - 1))] := by
 obtain ⟨e, rfl⟩ : ∃ e, d = e + 1 := ⟨d - 1, by omega⟩
 simp only [opR, opO, dnL, List.range_succ, List.flatMap_append, List.flatMap_cons, List.flatMap_nil, List.append_nil, layL]
 rw [show n - 1 - e = n - (e + 1) by omega, show n - 2 - e = n - (e + 1) - 1 by omega]
 simp
theorem opR_len {cs ct cf s : Int} {k w : Nat → Int} {n0 : Nat} {a0 b0 : Nat → Int} {n : Nat} : ∀ d, rN (opR cs ct cf s k w n0 a0 b0 n d) ≤ n0 + 2 * d + 1
 | 0 => by simp [opR, rN, prw_len]
 | 1 => by rw [opR_one, rN_snoc, rN_snoc, rN_snoc]; simp [opR, rN, prw_len]
 | d + 2 => by
   have := opR_len (cs := cs) (ct := ct) (cf := cf) (s := s) (k := k) (w := w) (n0 := n0) (a0 := a0) (b0 := b0) (n := n) (d + 1)
   rw [opR_step (by omega), rN_snoc, rN_snoc]; omega
end Go.Proofs.YtinijejfhmcmdaaGreatDoor.Ex
end
section
namespace Go.Proofs.YtinijejfhmcmdaaGreatDoor.Ex
open Go
def goalOpn_10 (O : Nat → List (Int × Int)) (i : Nat) := yGrow (yNadd (yNadd (rN (O i)) 1) 1) (nat_lit 16) = false → False
def goalOpn_11 (O : Nat → List (Int × Int)) (i : Nat) := yNeq (yNadd (rN (O i)) 1) (yNadd (rN (O i)) 1) = false → False
def goalOpn_12 (O : Nat → List (Int × Int)) (i : Nat) := yGrow (yNadd (rN (O i)) 1) (nat_lit 16) = false → False
def goalOpn_3 (nv : Nat) (i : Nat) := yWrap IntKind.i64 (ySub (yInt (yNsub nv (Nat.succ i))) 1)
def goalOpn_17 (nv : Nat) (i : Nat) := yNadd 0 (yNat (yWrap IntKind.i64 (ySub (goalOpn_3 nv i) 1)))
def goalOpn_4 (nv : Nat) (i : Nat) (cs : Int) (ct : Int) (cf : Int) (cl : Int) (cp : Int) (O : Nat → List (Int × Int)) (j : Nat) (s : Int) (w : Nat → Int) := yLt 0 (yInt (yNsub nv (Nat.succ i))) = false → mst (rightC cs ct cf cl cp) (mst (yNeq (rN (O i)) (rN (O i))) ((yGrow (yNadd (rN (O i)) 1) (nat_lit 16) = true → true = true ∧ ∃ (i' : Nat), prOp j nv (Nat.succ i') ∧ Nat.succ (msFit nv i') ≤ msFit nv i ∧ true = true ∧ yInt (yNsub nv (Nat.succ i')) = yWrap IntKind.i64 (ySub (yInt (yNsub nv (Nat.succ i))) 1) ∧ cs = cs ∧ ct = ct ∧ cf = cf ∧ cl = cl ∧ cp = cp ∧ rE (O i') = yAnd (rE (O i)) (yNeq 1 0) ∧ nat_lit 0 = nat_lit 0 ∧ rN (O i') = yNadd (rN (O i)) 1 ∧ rN (O i') = yNadd (rN (O i)) 1 ∧ (∀ (i_1 : Nat), Nat.succ i_1 ≤ rN (O i') → rA (O i') i_1 = ySel (yNlt i_1 (rN (O i))) (rA (O i) i_1) (valC cs ct cf s (yInt (yNsub nv (Nat.succ i)))) ∧ rB (O i') i_1 = ySel (yNlt i_1 (rN (O i))) (rB (O i) i_1) (w (yNadd 0 (yNat (goalOpn_3 nv i)))) ∧ True) ∧ true = true) ∧ (goalOpn_12 O i)))
def goalOpn_0 (j : Nat) (nv : Nat) (i : Nat) (cs : Int) (ct : Int) (cf : Int) (cl : Int) (cp : Int) (O : Nat → List (Int × Int)) (s : Int) (k : Nat → Int) (w : Nat → Int) (key : Int) := yLt (yInt j) (yInt (yNsub nv (Nat.succ i))) = true → (yNot false = true → mst (yIn (goalOpn_3 nv i) nv) (mst (yNlt (yNadd 0 (yNat (goalOpn_3 nv i))) nv) (mst (yIn (goalOpn_3 nv i) nv) (mst (yNlt (yNadd 0 (yNat (goalOpn_3 nv i))) nv) ((yNot false = true → mst (rightC cs ct cf cl cp) (mst (yNeq (rN (O i)) (rN (O i))) ((yGrow (yNadd (rN (O i)) 1) (nat_lit 16) = true → mst (rightC cs ct cf cl cp) ((yNeq (yNadd (rN (O i)) 1) (yNadd (rN (O i)) 1) = true → (yGrow (yNadd (yNadd (rN (O i)) 1) 1) (nat_lit 16) = true → true = true ∧ ∃ (i' : Nat), prOp j nv (Nat.succ i') ∧ Nat.succ (msFit nv i') ≤ msFit nv i ∧ true = true ∧ yInt (yNsub nv (Nat.succ i')) = yWrap IntKind.i64 (ySub (yInt (yNsub nv (Nat.succ i))) 1) ∧ cs = cs ∧ ct = ct ∧ cf = cf ∧ cl = cl ∧ cp = cp ∧ rE (O i') = yAnd (yAnd (rE (O i)) (yNeq 1 0)) (yNeq 1 0) ∧ nat_lit 0 = nat_lit 0 ∧ rN (O i') = yNadd (yNadd (rN (O i)) 1) 1 ∧ rN (O i') = yNadd (yNadd (rN (O i)) 1) 1 ∧ (∀ (i_1 : Nat), Nat.succ i_1 ≤ rN (O i') → rA (O i') i_1 = ySel (yNlt i_1 (yNadd (rN (O i)) 1)) (ySel (yNlt i_1 (rN (O i))) (rA (O i) i_1) (keyC cs ct cf s (yInt (yNsub nv (Nat.succ i))))) (valC cs ct cf s (yInt (yNsub nv (Nat.succ i)))) ∧ rB (O i') i_1 = ySel (yNlt i_1 (yNadd (rN (O i)) 1)) (ySel (yNlt i_1 (rN (O i))) (rB (O i) i_1) (k (yNadd 0 (yNat (goalOpn_3 nv i))))) (w (yNadd 0 (yNat (goalOpn_3 nv i)))) ∧ True) ∧ true = true) ∧ (goalOpn_10 O i)) ∧ (goalOpn_11 O i))) ∧ (goalOpn_12 O i)))) ∧ (yNot false = false → (yLt 0 (yInt (yNsub nv (Nat.succ i))) = true → mst (rightC cs ct cf cl cp) (mst (yNeq (rN (O i)) (rN (O i))) ((yGrow (yNadd (rN (O i)) 1) (nat_lit 16) = true → mst (rightC cs ct cf cl cp) ((yNeq (yNadd (rN (O i)) 1) (yNadd (rN (O i)) 1) = true → (yGrow (yNadd (yNadd (rN (O i)) 1) 1) (nat_lit 16) = true → true = true ∧ ∃ (i' : Nat), prOp j nv (Nat.succ i') ∧ Nat.succ (msFit nv i') ≤ msFit nv i ∧ true = true ∧ yInt (yNsub nv (Nat.succ i')) = yWrap IntKind.i64 (ySub (yInt (yNsub nv (Nat.succ i))) 1) ∧ cs = cs ∧ ct = ct ∧ cf = cf ∧ cl = cl ∧ cp = cp ∧ rE (O i') = yAnd (yAnd (rE (O i)) (yNeq 1 0)) (yNeq 1 0) ∧ nat_lit 0 = nat_lit 0 ∧ rN (O i') = yNadd (yNadd (rN (O i)) 1) 1 ∧ rN (O i') = yNadd (yNadd (rN (O i)) 1) 1 ∧ (∀ (i_1 : Nat), Nat.succ i_1 ≤ rN (O i') → rA (O i') i_1 = ySel (yNlt i_1 (yNadd (rN (O i)) 1)) (ySel (yNlt i_1 (rN (O i))) (rA (O i) i_1) (keyC cs ct cf s (goalOpn_3 nv i))) (valC cs ct cf s (yInt (yNsub nv (Nat.succ i)))) ∧ rB (O i') i_1 = ySel (yNlt i_1 (yNadd (rN (O i)) 1)) (ySel (yNlt i_1 (rN (O i))) (rB (O i) i_1) (k (yNadd 0 (yNat (goalOpn_3 nv i))))) (w (yNadd 0 (yNat (goalOpn_3 nv i)))) ∧ True) ∧ true = true) ∧ (goalOpn_10 O i)) ∧ (goalOpn_11 O i))) ∧ (goalOpn_12 O i)))) ∧ (goalOpn_4 nv i cs ct cf cl cp O j s w))))))) ∧ (yNot false = false → (yEq (goalOpn_3 nv i) (0 : Int) = true → mst (yIn (goalOpn_3 nv i) nv) (mst (yNlt (yNadd 0 (yNat (goalOpn_3 nv i))) nv) ((yNot false = true → mst (rightC cs ct cf cl cp) (mst (yNeq (rN (O i)) (rN (O i))) ((yGrow (yNadd (rN (O i)) 1) (nat_lit 16) = true → mst (rightC cs ct cf cl cp) ((yNeq (yNadd (rN (O i)) 1) (yNadd (rN (O i)) 1) = true → (yGrow (yNadd (yNadd (rN (O i)) 1) 1) (nat_lit 16) = true → true = true ∧ ∃ (i' : Nat), prOp j nv (Nat.succ i') ∧ Nat.succ (msFit nv i') ≤ msFit nv i ∧ true = true ∧ yInt (yNsub nv (Nat.succ i')) = yWrap IntKind.i64 (ySub (yInt (yNsub nv (Nat.succ i))) 1) ∧ cs = cs ∧ ct = ct ∧ cf = cf ∧ cl = cl ∧ cp = cp ∧ rE (O i') = yAnd (yAnd (rE (O i)) (yNeq 1 0)) (yNeq 1 0) ∧ nat_lit 0 = nat_lit 0 ∧ rN (O i') = yNadd (yNadd (rN (O i)) 1) 1 ∧ rN (O i') = yNadd (yNadd (rN (O i)) 1) 1 ∧ (∀ (i_1 : Nat), Nat.succ i_1 ≤ rN (O i') → rA (O i') i_1 = ySel (yNlt i_1 (yNadd (rN (O i)) 1)) (ySel (yNlt i_1 (rN (O i))) (rA (O i) i_1) (keyC cs ct cf s (yInt (yNsub nv (Nat.succ i))))) (valC cs ct cf s (yInt (yNsub nv (Nat.succ i)))) ∧ rB (O i') i_1 = ySel (yNlt i_1 (yNadd (rN (O i)) 1)) (ySel (yNlt i_1 (rN (O i))) (rB (O i) i_1) key) (w (yNadd 0 (yNat (goalOpn_3 nv i)))) ∧ True) ∧ true = true) ∧ (goalOpn_10 O i)) ∧ (goalOpn_11 O i))) ∧ (goalOpn_12 O i)))) ∧ (yNot false = false → (yLt 0 (yInt (yNsub nv (Nat.succ i))) = true → mst (rightC cs ct cf cl cp) (mst (yNeq (rN (O i)) (rN (O i))) ((yGrow (yNadd (rN (O i)) 1) (nat_lit 16) = true → mst (rightC cs ct cf cl cp) ((yNeq (yNadd (rN (O i)) 1) (yNadd (rN (O i)) 1) = true → (yGrow (yNadd (yNadd (rN (O i)) 1) 1) (nat_lit 16) = true → true = true ∧ ∃ (i' : Nat), prOp j nv (Nat.succ i') ∧ Nat.succ (msFit nv i') ≤ msFit nv i ∧ true = true ∧ yInt (yNsub nv (Nat.succ i')) = yWrap IntKind.i64 (ySub (yInt (yNsub nv (Nat.succ i))) 1) ∧ cs = cs ∧ ct = ct ∧ cf = cf ∧ cl = cl ∧ cp = cp ∧ rE (O i') = yAnd (yAnd (rE (O i)) (yNeq 1 0)) (yNeq 1 0) ∧ nat_lit 0 = nat_lit 0 ∧ rN (O i') = yNadd (yNadd (rN (O i)) 1) 1 ∧ rN (O i') = yNadd (yNadd (rN (O i)) 1) 1 ∧ (∀ (i_1 : Nat), Nat.succ i_1 ≤ rN (O i') → rA (O i') i_1 = ySel (yNlt i_1 (yNadd (rN (O i)) 1)) (ySel (yNlt i_1 (rN (O i))) (rA (O i) i_1) (keyC cs ct cf s (goalOpn_3 nv i))) (valC cs ct cf s (yInt (yNsub nv (Nat.succ i)))) ∧ rB (O i') i_1 = ySel (yNlt i_1 (yNadd (rN (O i)) 1)) (ySel (yNlt i_1 (rN (O i))) (rB (O i) i_1) key) (w (yNadd 0 (yNat (goalOpn_3 nv i)))) ∧ True) ∧ true = true) ∧ (goalOpn_10 O i)) ∧ (goalOpn_11 O i))) ∧ (goalOpn_12 O i)))) ∧ (goalOpn_4 nv i cs ct cf cl cp O j s w))))) ∧ (yEq (goalOpn_3 nv i) (0 : Int) = false → mst (yIn (yWrap IntKind.i64 (ySub (goalOpn_3 nv i) 1)) nv) (mst (yNlt (goalOpn_17 nv i) nv) (mst (yIn (goalOpn_3 nv i) nv) (mst (yNlt (yNadd 0 (yNat (goalOpn_3 nv i))) nv) ((yNot false = true → mst (rightC cs ct cf cl cp) (mst (yNeq (rN (O i)) (rN (O i))) ((yGrow (yNadd (rN (O i)) 1) (nat_lit 16) = true → mst (rightC cs ct cf cl cp) ((yNeq (yNadd (rN (O i)) 1) (yNadd (rN (O i)) 1) = true → (yGrow (yNadd (yNadd (rN (O i)) 1) 1) (nat_lit 16) = true → true = true ∧ ∃ (i' : Nat), prOp j nv (Nat.succ i') ∧ Nat.succ (msFit nv i') ≤ msFit nv i ∧ true = true ∧ yInt (yNsub nv (Nat.succ i')) = yWrap IntKind.i64 (ySub (yInt (yNsub nv (Nat.succ i))) 1) ∧ cs = cs ∧ ct = ct ∧ cf = cf ∧ cl = cl ∧ cp = cp ∧ rE (O i') = yAnd (yAnd (rE (O i)) (yNeq 1 0)) (yNeq 1 0) ∧ nat_lit 0 = nat_lit 0 ∧ rN (O i') = yNadd (yNadd (rN (O i)) 1) 1 ∧ rN (O i') = yNadd (yNadd (rN (O i)) 1) 1 ∧ (∀ (i_1 : Nat), Nat.succ i_1 ≤ rN (O i') → rA (O i') i_1 = ySel (yNlt i_1 (yNadd (rN (O i)) 1)) (ySel (yNlt i_1 (rN (O i))) (rA (O i) i_1) (keyC cs ct cf s (yInt (yNsub nv (Nat.succ i))))) (valC cs ct cf s (yInt (yNsub nv (Nat.succ i)))) ∧ rB (O i') i_1 = ySel (yNlt i_1 (yNadd (rN (O i)) 1)) (ySel (yNlt i_1 (rN (O i))) (rB (O i) i_1) (k (goalOpn_17 nv i))) (w (yNadd 0 (yNat (goalOpn_3 nv i)))) ∧ True) ∧ true = true) ∧ (goalOpn_10 O i)) ∧ (goalOpn_11 O i))) ∧ (goalOpn_12 O i)))) ∧ (yNot false = false → (yLt 0 (yInt (yNsub nv (Nat.succ i))) = true → mst (rightC cs ct cf cl cp) (mst (yNeq (rN (O i)) (rN (O i))) ((yGrow (yNadd (rN (O i)) 1) (nat_lit 16) = true → mst (rightC cs ct cf cl cp) ((yNeq (yNadd (rN (O i)) 1) (yNadd (rN (O i)) 1) = true → (yGrow (yNadd (yNadd (rN (O i)) 1) 1) (nat_lit 16) = true → true = true ∧ ∃ (i' : Nat), prOp j nv (Nat.succ i') ∧ Nat.succ (msFit nv i') ≤ msFit nv i ∧ true = true ∧ yInt (yNsub nv (Nat.succ i')) = yWrap IntKind.i64 (ySub (yInt (yNsub nv (Nat.succ i))) 1) ∧ cs = cs ∧ ct = ct ∧ cf = cf ∧ cl = cl ∧ cp = cp ∧ rE (O i') = yAnd (yAnd (rE (O i)) (yNeq 1 0)) (yNeq 1 0) ∧ nat_lit 0 = nat_lit 0 ∧ rN (O i') = yNadd (yNadd (rN (O i)) 1) 1 ∧ rN (O i') = yNadd (yNadd (rN (O i)) 1) 1 ∧ (∀ (i_1 : Nat), Nat.succ i_1 ≤ rN (O i') → rA (O i') i_1 = ySel (yNlt i_1 (yNadd (rN (O i)) 1)) (ySel (yNlt i_1 (rN (O i))) (rA (O i) i_1) (keyC cs ct cf s (goalOpn_3 nv i))) (valC cs ct cf s (yInt (yNsub nv (Nat.succ i)))) ∧ rB (O i') i_1 = ySel (yNlt i_1 (yNadd (rN (O i)) 1)) (ySel (yNlt i_1 (rN (O i))) (rB (O i) i_1) (k (goalOpn_17 nv i))) (w (yNadd 0 (yNat (goalOpn_3 nv i)))) ∧ True) ∧ true = true) ∧ (goalOpn_10 O i)) ∧ (goalOpn_11 O i))) ∧ (goalOpn_12 O i)))) ∧ (goalOpn_4 nv i cs ct cf cl cp O j s w))))))))
def goalOpn_1 (j : Nat) (nv : Nat) (i : Nat) (cs : Int) (ct : Int) (cf : Int) (cl : Int) (cp : Int) (O : Nat → List (Int × Int)) (L : List (Int × Int)) (s : Int) (key : Int) (val : Int) := yLt (yInt j) (yInt (yNsub nv (Nat.succ i))) = false → (yNot false = true → mst (rightC cs ct cf cl cp) (mst (yNeq (rN (O i)) (rN (O i))) ((yGrow (yNadd (rN (O i)) 1) (nat_lit 16) = true → mst (rightC cs ct cf cl cp) ((yNeq (yNadd (rN (O i)) 1) (yNadd (rN (O i)) 1) = true → (yGrow (yNadd (yNadd (rN (O i)) 1) 1) (nat_lit 16) = true → cs = cs ∧ ct = ct ∧ cf = cf ∧ cl = cl ∧ cp = cp ∧ rE L = yAnd (yAnd (rE (O i)) (yNeq 1 0)) (yNeq 1 0) ∧ nat_lit 0 = nat_lit 0 ∧ rN L = yNadd (yNadd (rN (O i)) 1) 1 ∧ rN L = yNadd (yNadd (rN (O i)) 1) 1 ∧ (∀ (i_1 : Nat), Nat.succ i_1 ≤ rN L → rA L i_1 = ySel (yNlt i_1 (yNadd (rN (O i)) 1)) (ySel (yNlt i_1 (rN (O i))) (rA (O i) i_1) (keyC cs ct cf s (yInt j))) (valC cs ct cf s (yInt j)) ∧ rB L i_1 = ySel (yNlt i_1 (yNadd (rN (O i)) 1)) (ySel (yNlt i_1 (rN (O i))) (rB (O i) i_1) key) val ∧ True) ∧ true = true) ∧ (goalOpn_10 O i)) ∧ (goalOpn_11 O i))) ∧ (goalOpn_12 O i)))) ∧ (yNot false = false → (yLt 0 (yInt j) = true → mst (rightC cs ct cf cl cp) (mst (yNeq (rN (O i)) (rN (O i))) ((yGrow (yNadd (rN (O i)) 1) (nat_lit 16) = true → mst (rightC cs ct cf cl cp) ((yNeq (yNadd (rN (O i)) 1) (yNadd (rN (O i)) 1) = true → (yGrow (yNadd (yNadd (rN (O i)) 1) 1) (nat_lit 16) = true → cs = cs ∧ ct = ct ∧ cf = cf ∧ cl = cl ∧ cp = cp ∧ rE L = yAnd (yAnd (rE (O i)) (yNeq 1 0)) (yNeq 1 0) ∧ nat_lit 0 = nat_lit 0 ∧ rN L = yNadd (yNadd (rN (O i)) 1) 1 ∧ rN L = yNadd (yNadd (rN (O i)) 1) 1 ∧ (∀ (i_1 : Nat), Nat.succ i_1 ≤ rN L → rA L i_1 = ySel (yNlt i_1 (yNadd (rN (O i)) 1)) (ySel (yNlt i_1 (rN (O i))) (rA (O i) i_1) (keyC cs ct cf s (yWrap IntKind.i64 (ySub (yInt j) 1)))) (valC cs ct cf s (yInt j)) ∧ rB L i_1 = ySel (yNlt i_1 (yNadd (rN (O i)) 1)) (ySel (yNlt i_1 (rN (O i))) (rB (O i) i_1) key) val ∧ True) ∧ true = true) ∧ (goalOpn_10 O i)) ∧ (goalOpn_11 O i))) ∧ (goalOpn_12 O i)))) ∧ (yLt 0 (yInt j) = false → mst (rightC cs ct cf cl cp) (mst (yNeq (rN (O i)) (rN (O i))) ((yGrow (yNadd (rN (O i)) 1) (nat_lit 16) = true → cs = cs ∧ ct = ct ∧ cf = cf ∧ cl = cl ∧ cp = cp ∧ rE L = yAnd (rE (O i)) (yNeq 1 0) ∧ nat_lit 0 = nat_lit 0 ∧ rN L = yNadd (rN (O i)) 1 ∧ rN L = yNadd (rN (O i)) 1 ∧ (∀ (i_1 : Nat), Nat.succ i_1 ≤ rN L → rA L i_1 = ySel (yNlt i_1 (rN (O i))) (rA (O i) i_1) (valC cs ct cf s (yInt j)) ∧ rB L i_1 = ySel (yNlt i_1 (rN (O i))) (rB (O i) i_1) val ∧ True) ∧ true = true) ∧ (goalOpn_12 O i)))))
def goalOpn_14 (nv : Nat) := packC false (yWrap IntKind.i64 (yAdd (yInt nv) 1))
def goalOpn_5 (nv : Nat) := yNadd 0 (yNat (yWrap IntKind.i64 (ySub (yInt nv) 1)))
def goalOpn_8 (n0 : Nat) := yGrow (yNadd (yNadd n0 1) 1) (nat_lit 16) = false → False
def goalOpn_9 (n0 : Nat) := yNeq (yNadd n0 1) (yNadd n0 1) = false → False
def goalOpn_2 (nv : Nat) (cs : Int) (ct : Int) (cf : Int) (cl : Int) (cp : Int) (n0 : Nat) (j : Nat) (O : Nat → List (Int × Int)) (nil0 : Bool) (a0 : Nat → Int) (s : Int) (b0 : Nat → Int) (w : Nat → Int) (k : Nat → Int) (key : Int) (L : List (Int × Int)) (val : Int) := yLt 0 (yInt nv) = false → mst (rightC cs ct cf cl cp) (mst (yNeq n0 n0) (mst (yGrow (yNadd n0 1) 16) (mst (rightC cs ct cf cl cp) (mst (true) ((yNeq (yNadd n0 1) (yNadd n0 1) = true → (yGrow (yNadd (yNadd n0 1) 1) (nat_lit 16) = true → true = true ∧ (∃ (i0 : Nat), prOp j nv (Nat.succ i0) ∧ true = true ∧ yInt (yNsub nv (Nat.succ i0)) = yWrap IntKind.i64 (ySub (yInt nv) 1) ∧ cs = cs ∧ ct = ct ∧ cf = cf ∧ cl = cl ∧ cp = cp ∧ rE (O i0) = yAnd (yAnd nil0 (yNeq 1 0)) (yNeq 1 0) ∧ nat_lit 0 = nat_lit 0 ∧ rN (O i0) = yNadd (yNadd n0 1) 1 ∧ rN (O i0) = yNadd (yNadd n0 1) 1 ∧ (∀ (i : Nat), Nat.succ i ≤ rN (O i0) → rA (O i0) i = ySel (yNlt i (yNadd n0 1)) (ySel (yNlt i n0) (a0 i) (valC cs ct cf s (yInt nv))) (shapeC cs ct cf s) ∧ rB (O i0) i = ySel (yNlt i (yNadd n0 1)) (ySel (yNlt i n0) (b0 i) (w (goalOpn_5 nv))) (goalOpn_14 nv) ∧ True) ∧ true = true) ∧ ∀ (g : Nat → AV) (i : Nat), prOp j nv (Nat.succ i) → (goalOpn_0 j nv i cs ct cf cl cp O s k w key) ∧ (goalOpn_1 j nv i cs ct cf cl cp O L s key val)) ∧ (goalOpn_8 n0)) ∧ (goalOpn_9 n0))))))
def goalOpn_6 (n0 : Nat) := yNadd (yNadd (yNadd n0 1) 1) 1
def goalOpn_7 (n0 : Nat) := yNeq (yNadd (yNadd n0 1) 1) (yNadd (yNadd n0 1) 1) = false → False
def goalOpn_13 (nil0 : Bool) := yAnd (yAnd nil0 (yNeq 1 0)) (yNeq 1 0)
def goalOpn_15 (nv : Nat) := yWrap IntKind.i64 (ySub (yWrap IntKind.i64 (ySub (yInt nv) 1)) 1)
def goalOpn_16 (i : Nat) (n0 : Nat) (a0 : Nat → Int) (cs : Int) (ct : Int) (cf : Int) (s : Int) (nv : Nat) := ySel (yNlt i (yNadd n0 1)) (ySel (yNlt i n0) (a0 i) (keyC cs ct cf s (yWrap IntKind.i64 (ySub (yInt nv) 1)))) (valC cs ct cf s (yInt nv))
def goalOpnV : Prop := (∀ (cs ct cf cl cp s _v : Int) (_kn : Bool) (k : Nat → Int) (_vn : Bool) (nv : Nat) (w : Nat → Int) (_l : Int) (nil0 : Bool) (n0 : Nat) (a0 b0 : Nat → Int) (j : Nat) (key val : Int) (L : List (Int × Int)) (O : Nat → List (Int × Int)), rightC cs ct cf cl cp = true → yNle nv (nat_lit 80) = true → yNle n0 (nat_lit 1000) = true → yNle j nv = true → yIff nil0 (yNeq n0 0) = true → L = opL cs ct cf s k w n0 a0 b0 nv j key val → O = opO cs ct cf s k w n0 a0 b0 nv → (yEq (yInt j) (yInt nv) = true → (yNot false = true → mst (rightC cs ct cf cl cp) (mst (yNeq n0 n0) (mst (yGrow (yNadd n0 1) 16) (mst (rightC cs ct cf cl cp) ((yNeq (yNadd n0 1) (yNadd n0 1) = true → (yGrow (yNadd (yNadd n0 1) 1) (nat_lit 16) = true → mst (rightC cs ct cf cl cp) (mst (true) ((yNeq (yNadd (yNadd n0 1) 1) (yNadd (yNadd n0 1) 1) = true → mst (yGrow (goalOpn_6 n0) 16) (cs = cs ∧ ct = ct ∧ cf = cf ∧ cl = cl ∧ cp = cp ∧ rE L = yAnd (goalOpn_13 nil0) (yNeq 1 0) ∧ nat_lit 0 = nat_lit 0 ∧ rN L = yNadd (yNadd (yNadd n0 1) 1) 1 ∧ rN L = yNadd (yNadd (yNadd n0 1) 1) 1 ∧ (∀ (i : Nat), Nat.succ i ≤ rN L → rA L i = ySel (yNlt i (yNadd (yNadd n0 1) 1)) (ySel (yNlt i (yNadd n0 1)) (ySel (yNlt i n0) (a0 i) (keyC cs ct cf s (yInt nv))) (valC cs ct cf s (yInt nv))) (shapeC cs ct cf s) ∧ rB L i = ySel (yNlt i (yNadd (yNadd n0 1) 1)) (ySel (yNlt i (yNadd n0 1)) (ySel (yNlt i n0) (b0 i) key) val) (goalOpn_14 nv) ∧ True) ∧ true = true)) ∧ (goalOpn_7 n0)))) ∧ (goalOpn_8 n0)) ∧ (goalOpn_9 n0)))))) ∧ (yNot false = false → (yLt 0 (yInt nv) = true → mst (rightC cs ct cf cl cp) (mst (yNeq n0 n0) (mst (yGrow (yNadd n0 1) 16) (mst (rightC cs ct cf cl cp) ((yNeq (yNadd n0 1) (yNadd n0 1) = true → (yGrow (yNadd (yNadd n0 1) 1) (nat_lit 16) = true → mst (rightC cs ct cf cl cp) (mst (true) ((yNeq (yNadd (yNadd n0 1) 1) (yNadd (yNadd n0 1) 1) = true → mst (yGrow (goalOpn_6 n0) 16) (cs = cs ∧ ct = ct ∧ cf = cf ∧ cl = cl ∧ cp = cp ∧ rE L = yAnd (goalOpn_13 nil0) (yNeq 1 0) ∧ nat_lit 0 = nat_lit 0 ∧ rN L = yNadd (yNadd (yNadd n0 1) 1) 1 ∧ rN L = yNadd (yNadd (yNadd n0 1) 1) 1 ∧ (∀ (i : Nat), Nat.succ i ≤ rN L → rA L i = ySel (yNlt i (yNadd (yNadd n0 1) 1)) (goalOpn_16 i n0 a0 cs ct cf s nv) (shapeC cs ct cf s) ∧ rB L i = ySel (yNlt i (yNadd (yNadd n0 1) 1)) (ySel (yNlt i (yNadd n0 1)) (ySel (yNlt i n0) (b0 i) key) val) (goalOpn_14 nv) ∧ True) ∧ true = true)) ∧ (goalOpn_7 n0)))) ∧ (goalOpn_8 n0)) ∧ (goalOpn_9 n0)))))) ∧ (yLt 0 (yInt nv) = false → mst (rightC cs ct cf cl cp) (mst (yNeq n0 n0) (mst (yGrow (yNadd n0 1) 16) (mst (rightC cs ct cf cl cp) (mst (true) ((yNeq (yNadd n0 1) (yNadd n0 1) = true → (yGrow (yNadd (yNadd n0 1) 1) (nat_lit 16) = true → cs = cs ∧ ct = ct ∧ cf = cf ∧ cl = cl ∧ cp = cp ∧ rE L = yAnd (yAnd nil0 (yNeq 1 0)) (yNeq 1 0) ∧ nat_lit 0 = nat_lit 0 ∧ rN L = yNadd (yNadd n0 1) 1 ∧ rN L = yNadd (yNadd n0 1) 1 ∧ (∀ (i : Nat), Nat.succ i ≤ rN L → rA L i = ySel (yNlt i (yNadd n0 1)) (ySel (yNlt i n0) (a0 i) (valC cs ct cf s (yInt nv))) (shapeC cs ct cf s) ∧ rB L i = ySel (yNlt i (yNadd n0 1)) (ySel (yNlt i n0) (b0 i) val) (goalOpn_14 nv) ∧ True) ∧ true = true) ∧ (goalOpn_8 n0)) ∧ (goalOpn_9 n0))))))))) ∧ (yEq (yInt j) (yInt nv) = false → (yNot false = true → mst (yIn (yWrap IntKind.i64 (ySub (yInt nv) 1)) nv) (mst (yNlt (goalOpn_5 nv) nv) (mst (yIn (yWrap IntKind.i64 (ySub (yInt nv) 1)) nv) (mst (yNlt (goalOpn_5 nv) nv) ((yNot false = true → mst (rightC cs ct cf cl cp) (mst (yNeq n0 n0) (mst (yGrow (yNadd n0 1) 16) (mst (rightC cs ct cf cl cp) ((yNeq (yNadd n0 1) (yNadd n0 1) = true → (yGrow (yNadd (yNadd n0 1) 1) (nat_lit 16) = true → mst (rightC cs ct cf cl cp) (mst (true) ((yNeq (yNadd (yNadd n0 1) 1) (yNadd (yNadd n0 1) 1) = true → mst (yGrow (goalOpn_6 n0) 16) (true = true ∧ (∃ (i0 : Nat), prOp j nv (Nat.succ i0) ∧ true = true ∧ yInt (yNsub nv (Nat.succ i0)) = yWrap IntKind.i64 (ySub (yInt nv) 1) ∧ cs = cs ∧ ct = ct ∧ cf = cf ∧ cl = cl ∧ cp = cp ∧ rE (O i0) = yAnd (goalOpn_13 nil0) (yNeq 1 0) ∧ nat_lit 0 = nat_lit 0 ∧ rN (O i0) = yNadd (yNadd (yNadd n0 1) 1) 1 ∧ rN (O i0) = yNadd (yNadd (yNadd n0 1) 1) 1 ∧ (∀ (i : Nat), Nat.succ i ≤ rN (O i0) → rA (O i0) i = ySel (yNlt i (yNadd (yNadd n0 1) 1)) (ySel (yNlt i (yNadd n0 1)) (ySel (yNlt i n0) (a0 i) (keyC cs ct cf s (yInt nv))) (valC cs ct cf s (yInt nv))) (shapeC cs ct cf s) ∧ rB (O i0) i = ySel (yNlt i (yNadd (yNadd n0 1) 1)) (ySel (yNlt i (yNadd n0 1)) (ySel (yNlt i n0) (b0 i) (k (goalOpn_5 nv))) (w (goalOpn_5 nv))) (goalOpn_14 nv) ∧ True) ∧ true = true) ∧ ∀ (_ : Nat → AV) (i : Nat), prOp j nv (Nat.succ i) → (goalOpn_0 j nv i cs ct cf cl cp O s k w key) ∧ (goalOpn_1 j nv i cs ct cf cl cp O L s key val))) ∧ (goalOpn_7 n0)))) ∧ (goalOpn_8 n0)) ∧ (goalOpn_9 n0)))))) ∧ (yNot false = false → (yLt 0 (yInt nv) = true → mst (rightC cs ct cf cl cp) (mst (yNeq n0 n0) (mst (yGrow (yNadd n0 1) 16) (mst (rightC cs ct cf cl cp) ((yNeq (yNadd n0 1) (yNadd n0 1) = true → (yGrow (yNadd (yNadd n0 1) 1) (nat_lit 16) = true → mst (rightC cs ct cf cl cp) (mst (true) ((yNeq (yNadd (yNadd n0 1) 1) (yNadd (yNadd n0 1) 1) = true → mst (yGrow (goalOpn_6 n0) 16) (true = true ∧ (∃ (i0 : Nat), prOp j nv (Nat.succ i0) ∧ true = true ∧ yInt (yNsub nv (Nat.succ i0)) = yWrap IntKind.i64 (ySub (yInt nv) 1) ∧ cs = cs ∧ ct = ct ∧ cf = cf ∧ cl = cl ∧ cp = cp ∧ rE (O i0) = yAnd (goalOpn_13 nil0) (yNeq 1 0) ∧ nat_lit 0 = nat_lit 0 ∧ rN (O i0) = yNadd (yNadd (yNadd n0 1) 1) 1 ∧ rN (O i0) = yNadd (yNadd (yNadd n0 1) 1) 1 ∧ (∀ (i : Nat), Nat.succ i ≤ rN (O i0) → rA (O i0) i = ySel (yNlt i (yNadd (yNadd n0 1) 1)) (goalOpn_16 i n0 a0 cs ct cf s nv) (shapeC cs ct cf s) ∧ rB (O i0) i = ySel (yNlt i (yNadd (yNadd n0 1) 1)) (ySel (yNlt i (yNadd n0 1)) (ySel (yNlt i n0) (b0 i) (k (goalOpn_5 nv))) (w (goalOpn_5 nv))) (goalOpn_14 nv) ∧ True) ∧ true = true) ∧ ∀ (_ : Nat → AV) (i : Nat), prOp j nv (Nat.succ i) → (goalOpn_0 j nv i cs ct cf cl cp O s k w key) ∧ (goalOpn_1 j nv i cs ct cf cl cp O L s key val))) ∧ (goalOpn_7 n0)))) ∧ (goalOpn_8 n0)) ∧ (goalOpn_9 n0)))))) ∧ (goalOpn_2 nv cs ct cf cl cp n0 j O nil0 a0 s b0 w k key L val))))))) ∧ (yNot false = false → (yEq (yWrap IntKind.i64 (ySub (yInt nv) 1)) (0 : Int) = true → mst (yIn (yWrap IntKind.i64 (ySub (yInt nv) 1)) nv) (mst (yNlt (goalOpn_5 nv) nv) ((yNot false = true → mst (rightC cs ct cf cl cp) (mst (yNeq n0 n0) (mst (yGrow (yNadd n0 1) 16) (mst (rightC cs ct cf cl cp) ((yNeq (yNadd n0 1) (yNadd n0 1) = true → (yGrow (yNadd (yNadd n0 1) 1) (nat_lit 16) = true → mst (rightC cs ct cf cl cp) (mst (true) ((yNeq (yNadd (yNadd n0 1) 1) (yNadd (yNadd n0 1) 1) = true → mst (yGrow (goalOpn_6 n0) 16) (true = true ∧ (∃ (i0 : Nat), prOp j nv (Nat.succ i0) ∧ true = true ∧ yInt (yNsub nv (Nat.succ i0)) = yWrap IntKind.i64 (ySub (yInt nv) 1) ∧ cs = cs ∧ ct = ct ∧ cf = cf ∧ cl = cl ∧ cp = cp ∧ rE (O i0) = yAnd (goalOpn_13 nil0) (yNeq 1 0) ∧ nat_lit 0 = nat_lit 0 ∧ rN (O i0) = yNadd (yNadd (yNadd n0 1) 1) 1 ∧ rN (O i0) = yNadd (yNadd (yNadd n0 1) 1) 1 ∧ (∀ (i : Nat), Nat.succ i ≤ rN (O i0) → rA (O i0) i = ySel (yNlt i (yNadd (yNadd n0 1) 1)) (ySel (yNlt i (yNadd n0 1)) (ySel (yNlt i n0) (a0 i) (keyC cs ct cf s (yInt nv))) (valC cs ct cf s (yInt nv))) (shapeC cs ct cf s) ∧ rB (O i0) i = ySel (yNlt i (yNadd (yNadd n0 1) 1)) (ySel (yNlt i (yNadd n0 1)) (ySel (yNlt i n0) (b0 i) key) (w (goalOpn_5 nv))) (goalOpn_14 nv) ∧ True) ∧ true = true) ∧ ∀ (_ : Nat → AV) (i : Nat), prOp j nv (Nat.succ i) → (goalOpn_0 j nv i cs ct cf cl cp O s k w key) ∧ (goalOpn_1 j nv i cs ct cf cl cp O L s key val))) ∧ (goalOpn_7 n0)))) ∧ (goalOpn_8 n0)) ∧ (goalOpn_9 n0)))))) ∧ (yNot false = false → (yLt 0 (yInt nv) = true → mst (rightC cs ct cf cl cp) (mst (yNeq n0 n0) (mst (yGrow (yNadd n0 1) 16) (mst (rightC cs ct cf cl cp) ((yNeq (yNadd n0 1) (yNadd n0 1) = true → (yGrow (yNadd (yNadd n0 1) 1) (nat_lit 16) = true → mst (rightC cs ct cf cl cp) (mst (true) ((yNeq (yNadd (yNadd n0 1) 1) (yNadd (yNadd n0 1) 1) = true → mst (yGrow (goalOpn_6 n0) 16) (true = true ∧ (∃ (i0 : Nat), prOp j nv (Nat.succ i0) ∧ true = true ∧ yInt (yNsub nv (Nat.succ i0)) = yWrap IntKind.i64 (ySub (yInt nv) 1) ∧ cs = cs ∧ ct = ct ∧ cf = cf ∧ cl = cl ∧ cp = cp ∧ rE (O i0) = yAnd (goalOpn_13 nil0) (yNeq 1 0) ∧ nat_lit 0 = nat_lit 0 ∧ rN (O i0) = yNadd (yNadd (yNadd n0 1) 1) 1 ∧ rN (O i0) = yNadd (yNadd (yNadd n0 1) 1) 1 ∧ (∀ (i : Nat), Nat.succ i ≤ rN (O i0) → rA (O i0) i = ySel (yNlt i (yNadd (yNadd n0 1) 1)) (goalOpn_16 i n0 a0 cs ct cf s nv) (shapeC cs ct cf s) ∧ rB (O i0) i = ySel (yNlt i (yNadd (yNadd n0 1) 1)) (ySel (yNlt i (yNadd n0 1)) (ySel (yNlt i n0) (b0 i) key) (w (goalOpn_5 nv))) (goalOpn_14 nv) ∧ True) ∧ true = true) ∧ ∀ (_ : Nat → AV) (i : Nat), prOp j nv (Nat.succ i) → (goalOpn_0 j nv i cs ct cf cl cp O s k w key) ∧ (goalOpn_1 j nv i cs ct cf cl cp O L s key val))) ∧ (goalOpn_7 n0)))) ∧ (goalOpn_8 n0)) ∧ (goalOpn_9 n0)))))) ∧ (goalOpn_2 nv cs ct cf cl cp n0 j O nil0 a0 s b0 w k key L val))))) ∧ (yEq (yWrap IntKind.i64 (ySub (yInt nv) 1)) (0 : Int) = false → mst (yIn (goalOpn_15 nv) nv) (mst (yNlt (yNadd 0 (yNat (goalOpn_15 nv))) nv) (mst (yIn (yWrap IntKind.i64 (ySub (yInt nv) 1)) nv) (mst (yNlt (goalOpn_5 nv) nv) ((yNot false = true → mst (rightC cs ct cf cl cp) (mst (yNeq n0 n0) (mst (yGrow (yNadd n0 1) 16) (mst (rightC cs ct cf cl cp) ((yNeq (yNadd n0 1) (yNadd n0 1) = true → (yGrow (yNadd (yNadd n0 1) 1) (nat_lit 16) = true → mst (rightC cs ct cf cl cp) (mst (true) ((yNeq (yNadd (yNadd n0 1) 1) (yNadd (yNadd n0 1) 1) = true → mst (yGrow (goalOpn_6 n0) 16) (true = true ∧ (∃ (i0 : Nat), prOp j nv (Nat.succ i0) ∧ true = true ∧ yInt (yNsub nv (Nat.succ i0)) = yWrap IntKind.i64 (ySub (yInt nv) 1) ∧ cs = cs ∧ ct = ct ∧ cf = cf ∧ cl = cl ∧ cp = cp ∧ rE (O i0) = yAnd (goalOpn_13 nil0) (yNeq 1 0) ∧ nat_lit 0 = nat_lit 0 ∧ rN (O i0) = yNadd (yNadd (yNadd n0 1) 1) 1 ∧ rN (O i0) = yNadd (yNadd (yNadd n0 1) 1) 1 ∧ (∀ (i : Nat), Nat.succ i ≤ rN (O i0) → rA (O i0) i = ySel (yNlt i (yNadd (yNadd n0 1) 1)) (ySel (yNlt i (yNadd n0 1)) (ySel (yNlt i n0) (a0 i) (keyC cs ct cf s (yInt nv))) (valC cs ct cf s (yInt nv))) (shapeC cs ct cf s) ∧ rB (O i0) i = ySel (yNlt i (yNadd (yNadd n0 1) 1)) (ySel (yNlt i (yNadd n0 1)) (ySel (yNlt i n0) (b0 i) (k (yNadd 0 (yNat (goalOpn_15 nv))))) (w (goalOpn_5 nv))) (goalOpn_14 nv) ∧ True) ∧ true = true) ∧ ∀ (_ : Nat → AV) (i : Nat), prOp j nv (Nat.succ i) → (goalOpn_0 j nv i cs ct cf cl cp O s k w key) ∧ (goalOpn_1 j nv i cs ct cf cl cp O L s key val))) ∧ (goalOpn_7 n0)))) ∧ (goalOpn_8 n0)) ∧ (goalOpn_9 n0)))))) ∧ (yNot false = false → (yLt 0 (yInt nv) = true → mst (rightC cs ct cf cl cp) (mst (yNeq n0 n0) (mst (yGrow (yNadd n0 1) 16) (mst (rightC cs ct cf cl cp) ((yNeq (yNadd n0 1) (yNadd n0 1) = true → (yGrow (yNadd (yNadd n0 1) 1) (nat_lit 16) = true → mst (rightC cs ct cf cl cp) (mst (true) ((yNeq (yNadd (yNadd n0 1) 1) (yNadd (yNadd n0 1) 1) = true → mst (yGrow (goalOpn_6 n0) 16) (true = true ∧ (∃ (i0 : Nat), prOp j nv (Nat.succ i0) ∧ true = true ∧ yInt (yNsub nv (Nat.succ i0)) = yWrap IntKind.i64 (ySub (yInt nv) 1) ∧ cs = cs ∧ ct = ct ∧ cf = cf ∧ cl = cl ∧ cp = cp ∧ rE (O i0) = yAnd (goalOpn_13 nil0) (yNeq 1 0) ∧ nat_lit 0 = nat_lit 0 ∧ rN (O i0) = yNadd (yNadd (yNadd n0 1) 1) 1 ∧ rN (O i0) = yNadd (yNadd (yNadd n0 1) 1) 1 ∧ (∀ (i : Nat), Nat.succ i ≤ rN (O i0) → rA (O i0) i = ySel (yNlt i (yNadd (yNadd n0 1) 1)) (goalOpn_16 i n0 a0 cs ct cf s nv) (shapeC cs ct cf s) ∧ rB (O i0) i = ySel (yNlt i (yNadd (yNadd n0 1) 1)) (ySel (yNlt i (yNadd n0 1)) (ySel (yNlt i n0) (b0 i) (k (yNadd 0 (yNat (goalOpn_15 nv))))) (w (goalOpn_5 nv))) (goalOpn_14 nv) ∧ True) ∧ true = true) ∧ ∀ (_ : Nat → AV) (i : Nat), prOp j nv (Nat.succ i) → (goalOpn_0 j nv i cs ct cf cl cp O s k w key) ∧ (goalOpn_1 j nv i cs ct cf cl cp O L s key val))) ∧ (goalOpn_7 n0)))) ∧ (goalOpn_8 n0)) ∧ (goalOpn_9 n0)))))) ∧ (goalOpn_2 nv cs ct cf cl cp n0 j O nil0 a0 s b0 w k key L val))))))))))
theorem goalOpn_eq : goalOpn = goalOpnV := by kernel_rfl
set_option maxHeartbeats 8000000 in
theorem goalOpn_vc : goalOpnV := by
 unfold goalOpnV goalOpn_16 goalOpn_15 goalOpn_13 goalOpn_7 goalOpn_6 goalOpn_2 goalOpn_9 goalOpn_8 goalOpn_5 goalOpn_14 goalOpn_1 goalOpn_0 goalOpn_4 goalOpn_17 goalOpn_3 goalOpn_12 goalOpn_11 goalOpn_10
 intro cs ct cf cl cp s v kn k vn nv w l nil0 n0 a0 b0 j key val L O hr hnv hn0 hj h0 hL hO
 simp only [yNle_t, yNlt_t, yIff_t, yAnd_t, yLe_t, yLt_t, yInt_e] at hnv hn0 hj h0
 have e0 : yWrap .i64 ((nv : Int) + 1) = (nv : Int) + 1 := wrap64 (by omega) (by omega)
 have e1 : yWrap .i64 ((nv : Int) - 1) = (nv : Int) - 1 := wrap64 (by omega) (by omega)
 simp only [vS, forall_const, hr, msFit, prOp, e0, e1, false_or, or_false]
 obtain ⟨z1, z2, z3⟩ := opR_zero (cs := cs) (ct := ct) (cf := cf) (s := s) (k := k) (w := w) (n0 := n0) (a0 := a0) (b0 := b0) (n := nv) h0
 have hOR : ∀ d, O d = opR cs ct cf s k w n0 a0 b0 nv (d + 1) := fun d => by rw [hO]; rfl
 have hlen : ∀ d, rN (O d) ≤ n0 + 2 * d + 3 := fun d => by
   have := opR_len (cs := cs) (ct := ct) (cf := cf) (s := s) (k := k) (w := w) (n0 := n0) (a0 := a0) (b0 := b0) (n := nv) (d + 1)
   rw [hOR]; omega
 refine ⟨fun hjn => ?_, fun hjn => ?_⟩
 · have hj2 : j = nv := by omega
   have hL2 : L = opR cs ct cf s k w n0 a0 b0 nv 0 ++ [(keyC cs ct cf s nv, key)] ++ [(valC cs ct cf s nv, val)] ++ [(shapeC cs ct cf s, packC false ((nv : Int) + 1))] := by
     rw [hL]; unfold opL; rw [if_pos hj2]; simp [opR, layL]
   clear hL hlen hOR
   subst hL2
   generalize opR cs ct cf s k w n0 a0 b0 nv 0 = B at z1 z2 z3 ⊢
   repeat' (first | apply And.intro | intro _)
   all_goals first
     | omega
     | (rw [rE_snoc, yAnd10]; done)
     | (rw [rN_snoc, rN_snoc, rN_snoc, z2]; done)
     | (rename_i q hq
        rw [rN_snoc, rN_snoc, rN_snoc] at hq
        first
          | (rw [rA_snoc3 _ _ _ _ hq, z2]
             rw [sel_old (a := a0 q) (b := rA B q) (fun h => ((z3 q (by omega)).1).symm)]; done)
          | (rw [rB_snoc3 _ _ _ _ hq, z2]
             rw [sel_old (a := b0 q) (b := rB B q) (fun h => ((z3 q (by omega)).2).symm)]; done))
 · have hk0 : yNat ((nv : Int) - 1) = nv - 1 := by unfold yNat; omega
   have hO0 : O 0 = opR cs ct cf s k w n0 a0 b0 nv 0 ++ [(keyC cs ct cf s nv, k (nv - 1))] ++ [(valC cs ct cf s nv, w (nv - 1))] ++ [(shapeC cs ct cf s, packC false ((nv : Int) + 1))] := by rw [hOR, opR_one]
   simp only [hk0]
   repeat' (first | apply And.intro | intro (_ : Nat → AV) i hi | intro _)
   all_goals (try (have hln := hlen i))
   all_goals (try (have e5 : yWrap .i64 (((nv - Nat.succ i : Nat) : Int) - 1) = ((nv - Nat.succ i : Nat) : Int) - 1 := wrap64 (by omega) (by omega); simp only [e5] at *))
   all_goals (try (have hk1 : yNat (((nv - Nat.succ i : Nat) : Int) - 1) = nv - Nat.succ i - 1 := (by unfold yNat; omega); simp only [hk1] at *))
   all_goals first
     | omega
     | (refine ⟨0, by omega, by omega, ?_⟩
        rw [hO0]
        refine ⟨by rw [rE_snoc, yAnd10], by rw [rN_snoc, rN_snoc, rN_snoc, z2], by rw [rN_snoc, rN_snoc, rN_snoc, z2], fun q hq => ?_⟩
        rw [rN_snoc, rN_snoc, rN_snoc] at hq
        refine ⟨?_, ?_⟩
        · rw [rA_snoc3 _ _ _ _ hq, z2, sel_old (a := a0 q) (b := rA _ q) (fun h => ((z3 q (by omega)).1).symm)]
        · rw [rB_snoc3 _ _ _ _ hq, z2, sel_old (a := b0 q) (b := rB _ q) (fun h => ((z3 q (by omega)).2).symm)])
     | (have hst : O (i + 1) = O i ++ [(keyC cs ct cf s ((nv - Nat.succ i : Nat) : Int), k (nv - Nat.succ i - 1))] ++ [(valC cs ct cf s ((nv - Nat.succ i : Nat) : Int), w (nv - Nat.succ i - 1))] := by rw [hOR, hOR, opR_step (by omega)]
        refine ⟨i + 1, by omega, by omega, by omega, ?_⟩
        rw [hst]
        refine ⟨by rw [rE_snoc, yAnd10], by rw [rN_snoc, rN_snoc], by rw [rN_snoc, rN_snoc], fun q hq => ?_⟩
        rw [rN_snoc, rN_snoc] at hq
        exact ⟨rA_snoc2 _ _ _ hq, rB_snoc2 _ _ _ hq⟩)
     | (have hL2 : L = O i ++ [(keyC cs ct cf s j, key)] ++ [(valC cs ct cf s j, val)] := by
          rw [hL]; unfold opL; rw [if_neg (by omega), hO, show nv - 1 - j = i by omega]; simp [layL]
        rw [hL2]
        first
          | (rw [rE_snoc, yAnd10]; done)
          | (rw [rN_snoc, rN_snoc]; done))
     | (rename_i hq
        have hL2 : L = O i ++ [(keyC cs ct cf s j, key)] ++ [(valC cs ct cf s j, val)] := by
          rw [hL]; unfold opL; rw [if_neg (by omega), hO, show nv - 1 - j = i by omega]; simp [layL]
        rw [hL2] at hq ⊢
        rw [rN_snoc, rN_snoc] at hq
        first | exact rA_snoc2 _ _ _ hq | exact rB_snoc2 _ _ _ hq)
theorem goalOpn_tt : (goalOpn) = True := goalOpn_eq.trans (eq_true goalOpn_vc)
theorem goalOpn_ok : goalOpn := @ft' goalOpn goalOpn_tt
end Go.Proofs.YtinijejfhmcmdaaGreatDoor.Ex
end
section
namespace Go.Proofs.YtinijejfhmcmdaaGreatDoor.Ex
open Go
def insOk (cs s : Int) (i : Bool) (nk : Nat) (k : Nat → Int) (nv : Nat) (cf at_ key : Int) : Bool :=
 decide ((1 ≤ s ∧ s ≤ cs) ∧ fitsC i nk k nv cf = true ∧ i = false ∧ 0 ≤ at_ ∧ at_ ≤ nv ∧ (nv : Int) < cf ∧ (at_ = 0 ∨ k (yNat (at_ - 1)) < key) ∧ (at_ = nv ∨ key < k (yNat at_)))
def insL (cs ct cf s v : Int) (i : Bool) (nk : Nat) (k : Nat → Int) (nv : Nat) (w : Nat → Int) (at_ key val : Int) : List (Int × Int) :=
 if insOk cs s i nk k nv cf at_ key then opL cs ct cf s k w 0 (fun _ => 0) (fun _ => 0) nv (yNat at_) key val ++ [(verC cs ct cf s, bumpC v)] else []
def fOpn (ds : List Dx) : Option (Bool × Dx × List (List Dx)) :=
 match ds with
 | [.l [.v (.y .i64 cs), .v (.y .i64 ct), .v (.y .i64 cf), .v (.y .i64 cl), .v (.y .i64 cp), .rows nil0 n0 [.int .i64 a0, .int .u64 b0]], .l [.v (.y .i64 s), .v (.y .u64 _), .v (.yb i), .rows _ nk [.int .u64 k], .rows _ nv [.int .u64 w], .v (.y .u64 _)], .v (.y .i64 j), .v (.y .u64 key), .v (.y .u64 val)] =>
   some (yAnd (rightC cs ct cf cl cp) (yAnd (yNle nv 80) (yAnd (yNle n0 1000) (yAnd (yAnd (yLe 0 j) (yLe j (yInt nv))) (yAnd (yIff nil0 (yNeq n0 0)) (yAnd (yNot i) (yNeq nk nv)))))), .l [],
     [[.v (.y .i64 cs), .v (.y .i64 ct), .v (.y .i64 cf), .v (.y .i64 cl), .v (.y .i64 cp), rowsW (opL cs ct cf s k w n0 a0 b0 nv (yNat j) key val)]])
 | _ => none
def lIns : List (Nat × Sm) := (138, .ct (ctX [sPen, sPart, .sc, .sc, .sc] (.tup []) fOpn)) :: lShr
def goalIns (P : Program) (f : FuncId) : Prop := ∀ (cs ct cf cl cp s v : Int) (i kn : Bool) (nk : Nat) (k : Nat → Int) (vn : Bool) (nv : Nat) (w : Nat → Int) (l at_ key val : Int) (L : List (Int × Int)),
 rightC cs ct cf cl cp = true → inU v = true → yAnd (yNle nk 80) (yNle nv 80) = true → L = insL cs ct cf s v i nk k nv w at_ key val →
 wxP P (smL lIns) (fun _ => none) f [sConf, sPart, .sc, .sc, .sc] [dCf cs ct cf cl cp, dPt s v i kn nk k vn nv w l, .v (.y .i64 at_), .v (.y .u64 key), .v (.y .u64 val)] ownW (rowsW L) []
def goalInsP : Prop := goalIns Tryz.prog 113
theorem insOk_iff {cs s : Int} {i : Bool} {nk : Nat} {k : Nat → Int} {nv : Nat} {cf at_ key : Int} : insOk cs s i nk k nv cf at_ key = true ↔
   ((1 ≤ s ∧ s ≤ cs) ∧ fitsC i nk k nv cf = true ∧ i = false ∧ 0 ≤ at_ ∧ at_ ≤ nv ∧ (nv : Int) < cf ∧ (at_ = 0 ∨ k (yNat (at_ - 1)) < key) ∧ (at_ = nv ∨ key < k (yNat at_))) := by
 unfold insOk; rw [decide_eq_true_iff]
theorem opL_len {cs ct cf s : Int} {k w : Nat → Int} {n0 : Nat} {a0 b0 : Nat → Int} {n j : Nat} {key val : Int} : rN (opL cs ct cf s k w n0 a0 b0 n j key val) ≤ n0 + 2 * n + 5 := by
 unfold opL
 split
 · simp only [rN, List.length_append, prw_len, layL, List.length_cons, List.length_nil]; omega
 · have := opR_len (cs := cs) (ct := ct) (cf := cf) (s := s) (k := k) (w := w) (n0 := n0) (a0 := a0) (b0 := b0) (n := n) (n - 1 - j + 1)
   simp only [opR] at this
   simp only [rN, List.length_append, layL, List.length_cons, List.length_nil] at this ⊢
   omega
def goalInsP_1 (cs : Int) (ct : Int) (cf : Int) (s : Int) (k : Nat → Int) (w : Nat → Int) (nv : Nat) (at_ : Int) (key : Int) (val : Int) := opL cs ct cf s (fun (i : Nat) => k i) (fun (i : Nat) => w i) 0 (fun (_ : Nat) => (0 : Int)) (fun (_ : Nat) => (0 : Int)) nv (yNat at_) key val
def goalInsP_0 (nk : Nat) (k : Nat → Int) (nv : Nat) (w : Nat → Int) (cs : Int) (ct : Int) (cf : Int) (cl : Int) (cp : Int) (at_ : Int) (i : Bool) (v : Int) (s : Int) (key : Int) (val : Int) (L : List (Int × Int)) := yNle (yNadd 0 nk) nk = true → ((yCol (CK.int IntKind.u64) nk fun (i : Nat) => AV.y IntKind.u64 (k i)) = true → (yNle (yNadd 0 nv) nv = true → ((yCol (CK.int IntKind.u64) nv fun (i : Nat) => AV.y IntKind.u64 (w i)) = true → (yAnd (rightC cs ct cf cl cp) (yAnd (yNle nv 80) (yAnd (yNle 0 1000) (yAnd (yAnd (yLe 0 at_) (yLe at_ (yInt nv))) (yAnd (yIff true (yNeq 0 0)) (yAnd (yNot i) (yNeq nk nv)))))) = true → (rightC cs ct cf cl cp = true → (yAnd (yLe 0 v) (yLt v 18446744073709551616) = true → (yNeq (rN (goalInsP_1 cs ct cf s k w nv at_ key val)) (rN (goalInsP_1 cs ct cf s k w nv at_ key val)) = true → (yGrow (yNadd (rN (goalInsP_1 cs ct cf s k w nv at_ key val)) 1) (nat_lit 16) = true → rE L = yAnd (rE (goalInsP_1 cs ct cf s k w nv at_ key val)) (yNeq 1 0) ∧ nat_lit 0 = nat_lit 0 ∧ rN L = yNadd (rN (goalInsP_1 cs ct cf s k w nv at_ key val)) 1 ∧ rN L = yNadd (rN (goalInsP_1 cs ct cf s k w nv at_ key val)) 1 ∧ (∀ (i : Nat), Nat.succ i ≤ rN L → rA L i = ySel (yNlt i (rN (goalInsP_1 cs ct cf s k w nv at_ key val))) (rA (goalInsP_1 cs ct cf s k w nv at_ key val) i) (verC cs ct cf s) ∧ rB L i = ySel (yNlt i (rN (goalInsP_1 cs ct cf s k w nv at_ key val))) (rB (goalInsP_1 cs ct cf s k w nv at_ key val) i) (bumpC v) ∧ True) ∧ true = true) ∧ (yGrow (yNadd (rN (goalInsP_1 cs ct cf s k w nv at_ key val)) 1) (nat_lit 16) = false → False)) ∧ (yNeq (rN (goalInsP_1 cs ct cf s k w nv at_ key val)) (rN (goalInsP_1 cs ct cf s k w nv at_ key val)) = false → False)) ∧ (yAnd (yLe 0 v) (yLt v 18446744073709551616) = false → False)) ∧ (rightC cs ct cf cl cp = false → False)) ∧ (yAnd (rightC cs ct cf cl cp) (yAnd (yNle nv 80) (yAnd (yNle 0 1000) (yAnd (yAnd (yLe 0 at_) (yLe at_ (yInt nv))) (yAnd (yIff true (yNeq 0 0)) (yAnd (yNot i) (yNeq nk nv)))))) = false → False)) ∧ ((yCol (CK.int IntKind.u64) nv fun (i : Nat) => AV.y IntKind.u64 (w i)) = false → False)) ∧ (yNle (yNadd 0 nv) nv = false → False)) ∧ ((yCol (CK.int IntKind.u64) nk fun (i : Nat) => AV.y IntKind.u64 (k i)) = false → False)
def goalInsP_2 (at_ : Int) (nv : Nat) (nk : Nat) (key : Int) (k : Nat → Int) (L : List (Int × Int)) (w : Nat → Int) (cs : Int) (ct : Int) (cf : Int) (cl : Int) (cp : Int) (i : Bool) (v : Int) (s : Int) (val : Int) := yEq at_ (yInt nv) = false → (yIn at_ nk = true → (yNlt (yNadd 0 (yNat at_)) nk = true → (yNot (yLt key (k (yNadd 0 (yNat at_)))) = true → rE L = true ∧ rN L = nat_lit 0 ∧ rN L = nat_lit 0 ∧ true = true ∧ true = true) ∧ (yNot (yLt key (k (yNadd 0 (yNat at_)))) = false → (goalInsP_0 nk k nv w cs ct cf cl cp at_ i v s key val L) ∧ (yNle (yNadd 0 nk) nk = false → False))) ∧ (yNlt (yNadd 0 (yNat at_)) nk = false → False)) ∧ (yIn at_ nk = false → False)
def goalInsPV : Prop := (∀ (cs ct cf cl cp s v : Int) (i _kn : Bool) (nk : Nat) (k : Nat → Int) (_vn : Bool) (nv : Nat) (w : Nat → Int) (_l at_ key val : Int) (L : List (Int × Int)), rightC cs ct cf cl cp = true → yAnd (yLe 0 v) (yLt v 18446744073709551616) = true → yAnd (yNle nk 80) (yNle nv 80) = true → L = insL cs ct cf s v i nk k nv w at_ key val → (rightC cs ct cf cl cp = true → (yLt (verC cs ct cf s) (0 : Int) = true → rE L = true ∧ rN L = nat_lit 0 ∧ rN L = nat_lit 0 ∧ true = true ∧ true = true) ∧ (yLt (verC cs ct cf s) (0 : Int) = false → (yEq s (0 : Int) = true → rE L = true ∧ rN L = nat_lit 0 ∧ rN L = nat_lit 0 ∧ true = true ∧ true = true) ∧ (yEq s (0 : Int) = false → (yNle (yNadd 0 nk) nk = true → ((yCol (CK.int IntKind.u64) nk fun (i : Nat) => AV.y IntKind.u64 (k i)) = true → (yNle (yNadd 0 nv) nv = true → ((yCol (CK.int IntKind.u64) nv fun (i : Nat) => AV.y IntKind.u64 (w i)) = true → (yAnd (yNle nk 80) (yNle nv 80) = true → (yNot (fitsC i nk (fun (i : Nat) => k i) nv cf) = true → rE L = true ∧ rN L = nat_lit 0 ∧ rN L = nat_lit 0 ∧ true = true ∧ true = true) ∧ (yNot (fitsC i nk (fun (i : Nat) => k i) nv cf) = false → (yNot i = true → (yLt (yInt nv) cf = true → (yLe 0 at_ = true → (yLe at_ (yInt nv) = true → (yEq at_ (0 : Int) = true → (yEq at_ (yInt nv) = true → (goalInsP_0 nk k nv w cs ct cf cl cp at_ i v s key val L) ∧ (yNle (yNadd 0 nk) nk = false → False)) ∧ (goalInsP_2 at_ nv nk key k L w cs ct cf cl cp i v s val)) ∧ (yEq at_ (0 : Int) = false → (yIn (yWrap IntKind.i64 (ySub at_ 1)) nk = true → (yNlt (yNadd 0 (yNat (yWrap IntKind.i64 (ySub at_ 1)))) nk = true → (yLt (k (yNadd 0 (yNat (yWrap IntKind.i64 (ySub at_ 1))))) key = true → (yEq at_ (yInt nv) = true → (goalInsP_0 nk k nv w cs ct cf cl cp at_ i v s key val L) ∧ (yNle (yNadd 0 nk) nk = false → False)) ∧ (goalInsP_2 at_ nv nk key k L w cs ct cf cl cp i v s val)) ∧ (yLt (k (yNadd 0 (yNat (yWrap IntKind.i64 (ySub at_ 1))))) key = false → rE L = true ∧ rN L = nat_lit 0 ∧ rN L = nat_lit 0 ∧ true = true ∧ true = true)) ∧ (yNlt (yNadd 0 (yNat (yWrap IntKind.i64 (ySub at_ 1)))) nk = false → False)) ∧ (yIn (yWrap IntKind.i64 (ySub at_ 1)) nk = false → False))) ∧ (yLe at_ (yInt nv) = false → rE L = true ∧ rN L = nat_lit 0 ∧ rN L = nat_lit 0 ∧ true = true ∧ true = true)) ∧ (yLe 0 at_ = false → rE L = true ∧ rN L = nat_lit 0 ∧ rN L = nat_lit 0 ∧ true = true ∧ true = true)) ∧ (yLt (yInt nv) cf = false → rE L = true ∧ rN L = nat_lit 0 ∧ rN L = nat_lit 0 ∧ true = true ∧ true = true)) ∧ (yNot i = false → rE L = true ∧ rN L = nat_lit 0 ∧ rN L = nat_lit 0 ∧ true = true ∧ true = true))) ∧ (yAnd (yNle nk 80) (yNle nv 80) = false → False)) ∧ ((yCol (CK.int IntKind.u64) nv fun (i : Nat) => AV.y IntKind.u64 (w i)) = false → False)) ∧ (yNle (yNadd 0 nv) nv = false → False)) ∧ ((yCol (CK.int IntKind.u64) nk fun (i : Nat) => AV.y IntKind.u64 (k i)) = false → False)) ∧ (yNle (yNadd 0 nk) nk = false → False)))) ∧ (rightC cs ct cf cl cp = false → False))
theorem goalInsP_eq : goalInsP = goalInsPV := by kernel_rfl
set_option maxHeartbeats 4000000 in
theorem goalInsP_vc : goalInsPV := by
 unfold goalInsPV goalInsP_2 goalInsP_0 goalInsP_1
 intro cs ct cf cl cp s v i kn nk k vn nv w l at_ key val L hr hv h8 hL
 have hv1 := verC_or (a := s) hr
 have hc := rightC_iff.1 hr
 simp only [yAnd_t, yLe_t, yLt_t, yNle_t] at hv h8
 unfold insL at hL
 by_cases hk : insOk cs s i nk k nv cf at_ key = true
 · rw [if_pos hk] at hL
   subst hL
   rw [insOk_iff] at hk
   obtain ⟨k1, k2, rfl, k4, k5, k8, k9, k10⟩ := hk
   have k6 := (fits_t.1 k2).1
   have k7 : nv = nk := by have := (fits_t.1 k2).2.1; simpa using this
   have hlen := opL_len (cs := cs) (ct := ct) (cf := cf) (s := s) (k := k) (w := w) (n0 := 0) (a0 := fun _ => 0) (b0 := fun _ => 0) (n := nv) (j := yNat at_) (key := key) (val := val)
   have e1 : yWrap .i64 (at_ - 1) = at_ - 1 := wrap64 (by omega) (by omega)
   have hT : (true = yNeq 0 0) = True := eq_true rfl
   have hl2 : rN (opL cs ct cf s (fun i => k i) (fun i => w i) 0 (fun _ => 0) (fun _ => 0) nv (yNat at_) key val) ≤ 2000 := by show rN (opL cs ct cf s k w 0 (fun _ => 0) (fun _ => 0) nv (yNat at_) key val) ≤ 2000; omega
   have n1 : 0 < at_ → yNat (at_ - 1) < nk := fun _ => by unfold yNat; omega
   have n2 : at_ < nv → yNat at_ < nk := fun _ => by unfold yNat; omega
   clear hlen
   simp only [vS, forall_const, hr, k2, e1, false_or, or_false, ne_eq, hT, not_true_eq_false]
   repeat' (first | apply And.intro | intro _)
   all_goals first
     | rfl
     | (exfalso; omega)
     | omega
     | exact rE_snoc' _ _
     | exact rN_snoc _ _
     | (rename_i hq; rw [rN_snoc] at hq; first | exact rA_snoc _ _ hq | exact rB_snoc _ _ hq)
     | (exfalso; have a1 := n1 (by omega); omega)
     | (exfalso; have a2 := n2 (by omega); omega)
 · rw [if_neg hk] at hL
   subst hL
   rw [insOk_iff] at hk
   cases i <;> simp only [vS, forall_const, hr, false_or, or_false]
   repeat' (first | apply And.intro | intro _)
   all_goals first
     | rfl
     | (exfalso; omega)
     | omega
     | (exfalso
        have q := (fits_t.1 (by assumption)).2.1
        simp only [Bool.false_eq_true, if_false] at q
        (try simp (disch := omega) only [wrap64] at *)
        unfold yNat at *
        omega)
     | (exfalso
        apply hk
        (try simp (disch := omega) only [wrap64] at *)
        exact ⟨by omega, by assumption, by first | trivial | rfl | assumption, by omega, by omega, by omega, by first | exact Or.inl (by omega) | exact Or.inr (by omega), by first | exact Or.inl (by omega) | exact Or.inr (by omega)⟩)
theorem goalInsP_tt : (goalInsP) = True := goalInsP_eq.trans (eq_true goalInsP_vc)
theorem goalInsP_ok : goalInsP := @ft' goalInsP goalInsP_tt
theorem smPk {f : FuncId} (hm : Tryz.prog.follows .mixedOrders = true) (hg : gPkgoal Tryz.prog f) : SmCall Tryz.prog f (fun args h => (ctS gPk fPk args h).sel) :=
 ctS_ok hm noSm_ok (by decide) (fun ds a h => by
   unfold fPk at h
   split at h
   · simp only [Option.some.injEq, Prod.mk.injEq] at h
     obtain ⟨h1, rfl⟩ := h
     exact ⟨_, 1000, hg _ _⟩
   · cases h)
theorem smMk {f : FuncId} (hm : Tryz.prog.follows .mixedOrders = true) (hg : gMkgoal Tryz.prog f) : SmCall Tryz.prog f (fun args h => (ctS gMk fMk args h).sel) :=
 ctS_ok hm noSm_ok (by decide) (fun ds a h => by
   unfold fMk at h
   split at h
   · simp only [Option.some.injEq, Prod.mk.injEq] at h
     obtain ⟨h1, rfl⟩ := h
     exact ⟨_, 1000, hg _ _ h1⟩
   · cases h)
theorem lLay_ok (hm : Tryz.prog.follows .mixedOrders = true) : SmAll Tryz.prog lLay :=
 ⟨smL2 (f := 52) (F := keyC) hm @goalKey_ok, smVal hm, smL1 (f := 64) (F := shapeC) hm @goalShp_ok, smPk hm @goalPack_ok,
  smR2 (f := 39) (F := keyC) hm @goalKeyR_ok, smValR hm, smR1 (f := 37) (F := shapeC) hm @goalShpR_ok, smPk hm @goalPackR_ok, trivial⟩
theorem yNot_ff {i : Bool} (h : yNot i = true) : i = false := by cases i <;> simp [yNot] at h ⊢
theorem yIn_nat {j : Int} {n : Nat} (h : yIn j n = true) : ∃ m : Nat, j = yInt m := by
 simp only [yIn_t] at h; exact ⟨j.toNat, by unfold yInt; omega⟩
theorem yNat_yInt (m : Nat) : yNat (yInt m) = m := by unfold yNat yInt; omega
theorem yIn_lt {m n : Nat} (h : yIn (yInt m) n = true) : yNlt m n = true := by simp only [yIn_t, yInt_e, yNlt_t] at h ⊢; omega
theorem smClo (hm : Tryz.prog.follows .mixedOrders = true) : SmCall Tryz.prog 142 (fun args h => (ctX [sPen, sPart, .sc] (.tup []) fClo args h).sel) :=
 ctX_ok hm (smL_ok (lLay_ok hm)) (fun ds r post h => by
   unfold fClo at h
   split at h
   · simp only [Option.some.injEq, Prod.mk.injEq] at h
     obtain ⟨h1, rfl, rfl⟩ := h
     rw [yAnd_t, yAnd_t, yAnd_t, yAnd_t, yAnd_t, yAnd_t] at h1
     obtain ⟨q1, q2, q3, q4, q5, q6, q7⟩ := h1
     obtain ⟨jn, rfl⟩ := yIn_nat q4
     obtain rfl := yNot_ff q6
     obtain rfl := yNeq_t.mp q7
     rw [yNat_yInt]
     exact ⟨_, 1000, @goalClo_ok _ _ _ _ _ _ _ _ _ _ _ _ _ _ _ _ _ _ q1 q2 q3 (yIn_lt q4) q5⟩
   · cases h)
theorem yLe_nat {j : Int} {n : Nat} (h : yLe 0 j = true ∧ yLe j (yInt n) = true) : ∃ m : Nat, j = yInt m ∧ yNle m n = true := by
 simp only [yLe_t, yInt_e, yNle_t] at h ⊢; exact ⟨j.toNat, by omega, by omega⟩
theorem smOpn (hm : Tryz.prog.follows .mixedOrders = true) : SmCall Tryz.prog 138 (fun args h => (ctX [sPen, sPart, .sc, .sc, .sc] (.tup []) fOpn args h).sel) :=
 ctX_ok hm (smL_ok (lLay_ok hm)) (fun ds r post h => by
   unfold fOpn at h
   split at h
   · simp only [Option.some.injEq, Prod.mk.injEq] at h
     obtain ⟨h1, rfl, rfl⟩ := h
     simp only [yAnd_t] at h1
     obtain ⟨q1, q2, q3, q4, q5, q6, q7⟩ := h1
     obtain ⟨jn, rfl, q4'⟩ := yLe_nat q4
     obtain rfl := yNot_ff q6
     obtain rfl := yNeq_t.mp q7
     rw [yNat_yInt]
     exact ⟨_, 1000, @goalOpn_ok _ _ _ _ _ _ _ _ _ _ _ _ _ _ _ _ _ _ _ _ _ _ q1 q2 q3 q4' q5 rfl rfl⟩
   · cases h)
theorem lRem_ok (hm : Tryz.prog.follows .mixedOrders = true) : SmAll Tryz.prog lRem := ⟨smClo hm, lShr_ok hm⟩
theorem lIns_ok (hm : Tryz.prog.follows .mixedOrders = true) : SmAll Tryz.prog lIns := ⟨smOpn hm, lShr_ok hm⟩
def fSet (ds : List Dx) : Option (Bool × Dx × List (List Dx)) :=
 match ds with
 | [.l [.v (.y .i64 cs), .v (.y .i64 ct), .v (.y .i64 cf), .v (.y .i64 cl), .v (.y .i64 cp)], .l [.v (.y .i64 s), .v (.y .u64 v), .v (.yb i), .rows _ nk [.int .u64 k], .rows _ nv [.int .u64 _], .v (.y .u64 _)], .v (.y .i64 j), .v (.y .u64 word)] =>
   some (yAnd (rightC cs ct cf cl cp) (yAnd (inU v) (yAnd (yNle nk 80) (yNle nv 80))), rowsW (setL cs ct cf s v i nk k nv j word), [])
 | _ => none
def fRem (ds : List Dx) : Option (Bool × Dx × List (List Dx)) :=
 match ds with
 | [.l [.v (.y .i64 cs), .v (.y .i64 ct), .v (.y .i64 cf), .v (.y .i64 cl), .v (.y .i64 cp)], .l [.v (.y .i64 s), .v (.y .u64 v), .v (.yb i), .rows _ nk [.int .u64 k], .rows _ nv [.int .u64 w], .v (.y .u64 _)], .v (.y .i64 j)] =>
   some (yAnd (rightC cs ct cf cl cp) (yAnd (inU v) (yAnd (yNle nk 80) (yNle nv 80))), rowsW (remL cs ct cf s v i nk k nv w j), [])
 | _ => none
def fIns (ds : List Dx) : Option (Bool × Dx × List (List Dx)) :=
 match ds with
 | [.l [.v (.y .i64 cs), .v (.y .i64 ct), .v (.y .i64 cf), .v (.y .i64 cl), .v (.y .i64 cp)], .l [.v (.y .i64 s), .v (.y .u64 v), .v (.yb i), .rows _ nk [.int .u64 k], .rows _ nv [.int .u64 w], .v (.y .u64 _)], .v (.y .i64 j), .v (.y .u64 key), .v (.y .u64 val)] =>
   some (yAnd (rightC cs ct cf cl cp) (yAnd (inU v) (yAnd (yNle nk 80) (yNle nv 80))), rowsW (insL cs ct cf s v i nk k nv w j key val), [])
 | _ => none
theorem smSetP {f : FuncId} (hm : Tryz.prog.follows .mixedOrders = true) (hg : goalSet Tryz.prog f) : SmCall Tryz.prog f (fun args h => (ctX [sConf, sPart, .sc, .sc] ownW fSet args h).sel) :=
 ctX_ok hm (smL_ok (lShr_ok hm)) (fun ds r post h => by
   unfold fSet at h
   split at h
   · simp only [Option.some.injEq, Prod.mk.injEq] at h
     obtain ⟨h1, rfl, rfl⟩ := h
     rw [yAnd_t, yAnd_t] at h1
     obtain ⟨q1, q2, q3⟩ := h1
     exact ⟨_, 1000, @hg _ _ _ _ _ _ _ _ _ _ _ _ _ _ _ _ _ _ q1 q2 q3 rfl⟩
   · cases h)
theorem smRemP {f : FuncId} (hm : Tryz.prog.follows .mixedOrders = true) (hg : goalRem Tryz.prog f) : SmCall Tryz.prog f (fun args h => (ctX [sConf, sPart, .sc] ownW fRem args h).sel) :=
 ctX_ok hm (smL_ok (lRem_ok hm)) (fun ds r post h => by
   unfold fRem at h
   split at h
   · simp only [Option.some.injEq, Prod.mk.injEq] at h
     obtain ⟨h1, rfl, rfl⟩ := h
     rw [yAnd_t, yAnd_t] at h1
     obtain ⟨q1, q2, q3⟩ := h1
     exact ⟨_, 1000, @hg _ _ _ _ _ _ _ _ _ _ _ _ _ _ _ _ _ q1 q2 q3 rfl⟩
   · cases h)
theorem smInsP {f : FuncId} (hm : Tryz.prog.follows .mixedOrders = true) (hg : goalIns Tryz.prog f) : SmCall Tryz.prog f (fun args h => (ctX [sConf, sPart, .sc, .sc, .sc] ownW fIns args h).sel) :=
 ctX_ok hm (smL_ok (lIns_ok hm)) (fun ds r post h => by
   unfold fIns at h
   split at h
   · simp only [Option.some.injEq, Prod.mk.injEq] at h
     obtain ⟨h1, rfl, rfl⟩ := h
     rw [yAnd_t, yAnd_t] at h1
     obtain ⟨q1, q2, q3⟩ := h1
     exact ⟨_, 1000, @hg _ _ _ _ _ _ _ _ _ _ _ _ _ _ _ _ _ _ _ q1 q2 q3 rfl⟩
   · cases h)
theorem set_len {cs ct cf s v : Int} {i : Bool} {nk : Nat} {k : Nat → Int} {nv : Nat} {a b : Int} : rN (setL cs ct cf s v i nk k nv a b) ≤ 1000000 := by
 unfold rN setL
 split <;> simp
theorem ins_len {cs ct cf s v : Int} {i : Bool} {nk : Nat} {k : Nat → Int} {nv : Nat} {w : Nat → Int} {a b c : Int} (h : nv ≤ 80) : rN (insL cs ct cf s v i nk k nv w a b c) ≤ 1000000 := by
 unfold insL
 split
 · rw [rN_snoc]
   have := opL_len (cs := cs) (ct := ct) (cf := cf) (s := s) (k := k) (w := w) (n0 := 0) (a0 := fun _ => 0) (b0 := fun _ => 0) (n := nv) (j := yNat a) (key := b) (val := c)
   omega
 · simp [rN]
theorem rem_len {cs ct cf s v : Int} {i : Bool} {nk : Nat} {k : Nat → Int} {nv : Nat} {w : Nat → Int} {a : Int} (h : nv ≤ 80) : rN (remL cs ct cf s v i nk k nv w a) ≤ 1000000 := by
 unfold remL
 split
 · rename_i hk
   rw [rN_snoc]
   unfold setOk at hk
   rw [decide_eq_true_iff] at hk
   have := cloL_len (cs := cs) (ct := ct) (cf := cf) (s := s) (k := k) (w := w) (n0 := 0) (a0 := fun _ => 0) (b0 := fun _ => 0) (j := yNat a) (nv := nv) (by unfold yNat; omega) h (by omega)
   omega
 · simp [rN]
end Go.Proofs.YtinijejfhmcmdaaGreatDoor.Ex
end
section
namespace Go.Proofs.YtinijejfhmcmdaaGreatDoor.Ex
open Go
def slotC (h : Int) : Int := h % 65536
def hrC (h s : Int) : Bool := decide (1 ≤ h % 65536 ∧ h % 65536 ≤ s ∧ h < 1099511627776)
def lockC (v : Int) : Int := v / 2 * 2 + 1
def fSl16 (ds : List Da) : Option (Bool × AV) :=
 match ds with
 | [.cell (.v (.y .u64 w))] => some (inU w, .y .i64 (slotC w))
 | _ => none
def gSlgoal (P : Program) (f : FuncId) : Prop := ∀ (w : Int), inU w = true → wxF P noSm (fun _ => none) 1000 f (canA gW (dW w) []).1 (heapOf (canA gW (dW w) []).2) (fun v _ => cmpC (.y .i64 (slotC w)) v)
abbrev gHr : List Ag := [.cell none, .cell none]
abbrev dHr (w s : Int) : List Da := [.cell (.v (.y .u64 w)), .cell (.v (.y .i64 s))]
def fHr (ds : List Da) : Option (Bool × AV) :=
 match ds with
 | [.cell (.v (.y .u64 w)), .cell (.v (.y .i64 s))] => some (inU w, .yb (hrC w s))
 | _ => none
def lSl16 : List (Nat × Sm) := [(85, .ct (ctS gW fSl16)), (74, .ct (ctS gW fSl16))]
def gHrgoal (P : Program) (f : FuncId) : Prop := ∀ (w s : Int), inU w = true → wxF P (smL lSl16) (fun _ => none) 1000 f (canA gHr (dHr w s) []).1 (heapOf (canA gHr (dHr w s) []).2) (fun v _ => cmpC (.yb (hrC w s)) v)
def goalSl16 : Prop := gSlgoal Tryz.prog 85
def goalSl16R : Prop := gSlgoal Tryz.prog 74
def goalHr : Prop := gHrgoal Tryz.prog 44
def goalHrR : Prop := gHrgoal Tryz.prog 126
def goalLock : Prop := gWgoal Tryz.prog 51 lockC
def goalSl16V : Prop := (∀ (w : Int), yAnd (yLe 0 w) (yLt w 18446744073709551616) = true → (yLe 0 (0 : Int) = true → slotC w = yWrap IntKind.i64 (yBits BinOp.and IntKind.u64 (yShr IntKind.u64 w 0) 65535)) ∧ (yLe 0 (0 : Int) = false → False))
theorem goalSl16_eq : goalSl16 = goalSl16V := by kernel_rfl
theorem goalSl16_vc : goalSl16V := by
 unfold goalSl16V
 intro w h
 obtain ⟨n, rfl, hn⟩ := inU_nat h
 have e : yBits .and .u64 (yShr .u64 (n : Int) 0) 65535 = ((n / 2 ^ 0 % 2 ^ 16 : Nat) : Int) := field_get (at_ := 0) (n := 16) hn (by omega) (by omega) rfl
 rw [e]
 refine ⟨fun _ => ?_, fun h => by cases h⟩
 rw [wrap64 (by omega) (by omega)]
 unfold slotC; omega
theorem goalSl16_tt : (goalSl16) = True := goalSl16_eq.trans (eq_true goalSl16_vc)
theorem goalSl16_ok : goalSl16 := @ft' goalSl16 goalSl16_tt
def goalSl16RV : Prop := (∀ (w : Int), yAnd (yLe 0 w) (yLt w 18446744073709551616) = true → (yEq 65536 (0 : Int) = true → False) ∧ (yEq 65536 (0 : Int) = false → slotC w = yWrap IntKind.i64 (yRem w 65536)))
theorem goalSl16R_eq : goalSl16R = goalSl16RV := by kernel_rfl
theorem goalSl16R_vc : goalSl16RV := by
 unfold goalSl16RV
 intro w h
 obtain ⟨n, rfl, hn⟩ := inU_nat h
 have e : yRem (n : Int) 65536 = ((n % 65536 : Nat) : Int) := rem_u (c := 65536)
 rw [e]
 refine ⟨fun h => by rw [yEq_t] at h; omega, fun _ => ?_⟩
 rw [wrap64 (by omega) (by omega)]
 unfold slotC; omega
theorem goalSl16R_tt : (goalSl16R) = True := goalSl16R_eq.trans (eq_true goalSl16R_vc)
theorem goalSl16R_ok : goalSl16R := @ft' goalSl16R goalSl16R_tt
theorem shr40 {w : Nat} : yShr .u64 (w : Int) 40 = ((w / 1099511627776 : Nat) : Int) := by
 have h : (2 : Int) ^ (min (40 : Int).toNat (IntKind.bits .u64)) = 1099511627776 := by decide
 unfold yShr
 rw [h, Int.fdiv_eq_ediv_of_nonneg _ (by omega)]
 omega
theorem hrC_t {w s : Int} : hrC w s = true ↔ (1 ≤ w % 65536 ∧ w % 65536 ≤ s ∧ w < 1099511627776) := decide_eq_true_iff
theorem hrC_f {w s : Int} : hrC w s = false ↔ ¬ (1 ≤ w % 65536 ∧ w % 65536 ≤ s ∧ w < 1099511627776) := decide_eq_false_iff_not
def goalHrV : Prop := (∀ (w s : Int), yAnd (yLe 0 w) (yLt w 18446744073709551616) = true → (yAnd (yLe 0 w) (yLt w 18446744073709551616) = true → (yLe 1 (slotC w) = true → (yAnd (yLe 0 w) (yLt w 18446744073709551616) = true → (yLe (slotC w) s = true → (yLe 0 (40 : Int) = true → hrC w s = yEq (yShr IntKind.u64 w 40) 0) ∧ (yLe 0 (40 : Int) = false → False)) ∧ (yLe (slotC w) s = false → hrC w s = false)) ∧ (yAnd (yLe 0 w) (yLt w 18446744073709551616) = false → False)) ∧ (yLe 1 (slotC w) = false → hrC w s = false)) ∧ (yAnd (yLe 0 w) (yLt w 18446744073709551616) = false → False))
theorem goalHr_eq : goalHr = goalHrV := by kernel_rfl
theorem goalHr_vc : goalHrV := by
 unfold goalHrV
 intro w s h
 obtain ⟨n, rfl, hn⟩ := inU_nat h
 rw [shr40]
 have hs : slotC (n : Int) = (n : Int) % 65536 := rfl
 simp only [vS, forall_const, hs, hrC_f]
 repeat' (first | apply And.intro | intro _)
 all_goals first
   | (exfalso; omega)
   | omega
   | (cases hq : yEq ((n / 1099511627776 : Nat) : Int) 0 with
      | true => rw [yEq_t] at hq; rw [hrC_t]; omega
      | false => rw [yEq_f] at hq; rw [hrC_f]; omega)
theorem goalHr_tt : (goalHr) = True := goalHr_eq.trans (eq_true goalHr_vc)
theorem goalHr_ok : goalHr := @ft' goalHr goalHr_tt
def goalHrRV : Prop := (∀ (w s : Int), yAnd (yLe 0 w) (yLt w 18446744073709551616) = true → (yAnd (yLe 0 w) (yLt w 18446744073709551616) = true → (yLe 1 (slotC w) = true → (yAnd (yLe 0 w) (yLt w 18446744073709551616) = true → (yLe (slotC w) s = true → hrC w s = yLt w 1099511627776) ∧ (yLe (slotC w) s = false → hrC w s = false)) ∧ (yAnd (yLe 0 w) (yLt w 18446744073709551616) = false → False)) ∧ (yLe 1 (slotC w) = false → hrC w s = false)) ∧ (yAnd (yLe 0 w) (yLt w 18446744073709551616) = false → False))
theorem goalHrR_eq : goalHrR = goalHrRV := by kernel_rfl
theorem goalHrR_vc : goalHrRV := by
 unfold goalHrRV
 intro w s h
 obtain ⟨n, rfl, hn⟩ := inU_nat h
 have hs : slotC (n : Int) = (n : Int) % 65536 := rfl
 simp only [vS, forall_const, hs, hrC_f]
 repeat' (first | apply And.intro | intro _)
 all_goals first
   | (exfalso; omega)
   | omega
   | (cases hq : yLt (n : Int) 1099511627776 with
      | true => rw [yLt_t] at hq; rw [hrC_t]; omega
      | false => rw [yLt_f] at hq; rw [hrC_f]; omega)
theorem goalHrR_tt : (goalHrR) = True := goalHrR_eq.trans (eq_true goalHrR_vc)
theorem goalHrR_ok : goalHrR := @ft' goalHrR goalHrR_tt
def goalLockV : Prop := (∀ (w : Int), yAnd (yLe 0 w) (yLt w 18446744073709551616) = true → lockC w = yBits BinOp.or IntKind.u64 (yBits BinOp.andNot IntKind.u64 w 1) 1)
theorem goalLock_eq : goalLock = goalLockV := by kernel_rfl
theorem goalLock_vc : goalLockV := by
 unfold goalLockV
 intro w h
 obtain ⟨n, rfl, hn⟩ := inU_nat h
 rw [lockB hn]
 unfold lockC; omega
theorem goalLock_tt : (goalLock) = True := goalLock_eq.trans (eq_true goalLock_vc)
theorem goalLock_ok : goalLock := @ft' goalLock goalLock_tt
theorem smSl16 {f : FuncId} (hm : Tryz.prog.follows .mixedOrders = true) (h : gSlgoal Tryz.prog f) : SmCall Tryz.prog f (fun args h => (ctS gW fSl16 args h).sel) :=
 ctS_ok hm noSm_ok (by decide) (fun ds a hd => by
   unfold fSl16 at hd
   split at hd
   · simp only [Option.some.injEq, Prod.mk.injEq] at hd
     obtain ⟨h1, rfl⟩ := hd
     exact ⟨_, 1000, h _ h1⟩
   · cases hd)
theorem lSl16_ok (hm : Tryz.prog.follows .mixedOrders = true) : SmAll Tryz.prog lSl16 := ⟨smSl16 hm @goalSl16_ok, smSl16 hm @goalSl16R_ok, trivial⟩
theorem smHr {f : FuncId} (hm : Tryz.prog.follows .mixedOrders = true) (h : gHrgoal Tryz.prog f) : SmCall Tryz.prog f (fun args h => (ctS gHr fHr args h).sel) :=
 ctS_ok hm (smL_ok (lSl16_ok hm)) (by decide) (fun ds a hd => by
   unfold fHr at hd
   split at hd
   · simp only [Option.some.injEq, Prod.mk.injEq] at hd
     obtain ⟨h1, rfl⟩ := hd
     exact ⟨_, 1000, h _ _ h1⟩
   · cases hd)
structure EdS where
 h : Int
 v : Int
 n : Int
 kd : Int
 ix : Int
 key : Int
 val : Int
 at_ : Int
 nb : Bool
 kn : Bool
 nk : Nat
 k : Nat → Int
 vn : Bool
 nv : Nat
 w : Nat → Int
 lk : Int
 wn : Bool
 nw : Nat
 wa : Nat → Int
 wb : Nat → Int
instance : Inhabited EdS := ⟨⟨0, 0, 0, 0, 0, 0, 0, 0, false, true, 0, fun _ => 0, true, 0, fun _ => 0, 0, true, 0, fun _ => 0, fun _ => 0⟩⟩
def qH (E : EdS) : Int := E.h
def qV (E : EdS) : Int := E.v
def qN (E : EdS) : Int := E.n
def qKd (E : EdS) : Int := E.kd
def qIx (E : EdS) : Int := E.ix
def qKey (E : EdS) : Int := E.key
def qVal (E : EdS) : Int := E.val
def qAt (E : EdS) : Int := E.at_
def qNb (E : EdS) : Bool := E.nb
def qKn (E : EdS) : Bool := E.kn
def qNk (E : EdS) : Nat := E.nk
def qK (E : EdS) (i : Nat) : Int := E.k i
def qVn (E : EdS) : Bool := E.vn
def qNv (E : EdS) : Nat := E.nv
def qW (E : EdS) (i : Nat) : Int := E.w i
def qLk (E : EdS) : Int := E.lk
def qWn (E : EdS) : Bool := E.wn
def qNw (E : EdS) : Nat := E.nw
def qWa (E : EdS) (i : Nat) : Int := E.wa i
def qWb (E : EdS) (i : Nat) : Int := E.wb i
abbrev plU : Sx := .pl [.int .u64]
abbrev plW : Sx := .pl [.int .i64, .int .u64]
abbrev sEdP : Sx := .agg [.sc, .sc, .sc, .sc, .sc, .sc, .sc, .sc, .sc, .sc, .sc, .sc, .sc, .sc, .sc, .sc, .sc, .sc, .sc, .sc, .sc, plU, plU, .sc, plW, .sc, .sc, .sc]
abbrev dEdP (sp sv sn si : Int) (inr : Bool) (dp ls lt lf ll lp : Int) (E : EdS) (po mk ma mb : Int) : Dx := .l [.v (.y .u64 sp), .v (.y .u64 sv), .v (.y .i64 sn), .v (.y .i64 si), .v (.y .u64 (qH E)), .v (.y .u64 (qV E)), .v (.y .i64 (qN E)), .v (.yb inr), .v (.y .i64 dp), .v (.y .i64 ls), .v (.y .i64 lt), .v (.y .i64 lf), .v (.y .i64 ll), .v (.y .i64 lp), .v (.y .i64 (qKd E)), .v (.y .i64 (qIx E)), .v (.y .u64 (qKey E)), .v (.y .u64 (qVal E)), .v (.y .i64 (qAt E)), .v (.y .i64 po), .v (.yb (qNb E)), .rows (qKn E) (qNk E) [.int .u64 (qK E)], .rows (qVn E) (qNv E) [.int .u64 (qW E)], .v (.y .u64 (qLk E)), .rows (qWn E) (qNw E) [.int .i64 (qWa E), .int .u64 (qWb E)], .v (.y .i64 mk), .v (.y .u64 ma), .v (.y .u64 mb)]
def plE (cs ct cf : Int) (E : EdS) : List (Int × Int) :=
 if E.kd = 1 then setL cs ct cf (slotC E.h) E.v E.nb E.nk E.k E.nv E.ix E.val
 else if E.kd = 2 then insL cs ct cf (slotC E.h) E.v E.nb E.nk E.k E.nv E.w E.ix E.key E.val
 else remL cs ct cf (slotC E.h) E.v E.nb E.nk E.k E.nv E.w E.ix
def rdE (cs ct cf : Int) (E : EdS) : EdS :=
 if (E.nk : Int) < E.n then { E with at_ := 2 } else if (E.nv : Int) < E.n then { E with at_ := 3 }
 else { E with wn := rE (plE cs ct cf E), nw := rN (plE cs ct cf E), wa := rA (plE cs ct cf E), wb := rB (plE cs ct cf E), at_ := if rE (plE cs ct cf E) then 5 else 4 }
def snocI (n : Nat) (k : Nat → Int) (x : Int) (j : Nat) : Int := if j < n then k j else x
def trI (n : Nat) (k : Nat → Int) (j : Nat) : Int := if j < n then k j else 0
def nmE (E : EdS) : EdS := { E with k := trI E.nk E.k, w := trI E.nv E.w, wa := trI E.nw E.wa, wb := trI E.nw E.wb }
def tkE (cs ct cf : Int) (E : EdS) (got : Int) : EdS :=
 if E.at_ = 1 then (if got = 1 then rdE cs ct cf (nmE E) else { E with at_ := 0 })
 else if E.at_ = 2 then rdE cs ct cf (nmE { E with kn := false, nk := E.nk + 1, k := snocI E.nk E.k got })
 else if E.at_ = 3 then rdE cs ct cf (nmE { E with vn := false, nv := E.nv + 1, w := snocI E.nv E.w got })
 else if E.at_ = 4 then { E with nw := E.nw - 1, wa := fun j => E.wa (1 + j), wb := fun j => E.wb (1 + j), at_ := if E.nw = 1 then 0 else 4 }
 else if E.at_ = 5 then { E with at_ := 0 } else E
def outE (E : EdS) (po got : Int) : Int :=
 if E.at_ = 1 then (if got = 1 then po else 3) else if E.at_ = 4 then (if E.nw = 1 then 1 else po) else if E.at_ = 5 then 3 else po
def mkE (E : EdS) (got : Int) : Int := if E.at_ = 1 then (if got = 1 then 0 else 3) else if E.at_ = 4 then (if E.nw = 1 then 12 else 0) else 0
def maE (E : EdS) (got : Int) : Int := if E.at_ = 1 then (if got = 1 then 0 else E.h) else 0
def invE (cs ct cf cl cp : Int) (E : EdS) : Bool :=
 decide (inU E.h = true ∧ (E.at_ = 0 ∨ (rightC cs ct cf cl cp = true ∧ inU E.v = true ∧ (1 ≤ slotC E.h ∧ slotC E.h ≤ cs) ∧ E.nb = false ∧ (1 ≤ E.kd ∧ E.kd ≤ 3) ∧ (0 ≤ E.n ∧ E.n ≤ cf) ∧
   ((E.at_ = 1 ∧ E.nk = 0 ∧ E.nv = 0) ∨ (E.at_ = 2 ∧ (E.nk : Int) < E.n ∧ E.nv = 0) ∨ (E.at_ = 3 ∧ (E.nk : Int) = E.n ∧ (E.nv : Int) < E.n) ∨ (E.at_ = 4 ∧ 0 < E.nw ∧ E.nw ≤ 1000000 ∧ (E.kd = 2 ∨ (0 ≤ E.ix ∧ E.ix < E.nv))) ∨ E.at_ = 5))))
def invO (E : EdS) (po : Int) : Bool := decide (E.at_ = 0 → po = 1 → E.kd = 2 ∨ (0 ≤ E.ix ∧ E.ix < E.nv))
def wtK (E : EdS) : Int := if E.at_ = 1 then 3 else if E.at_ = 2 then 1 else if E.at_ = 3 then 1 else if E.at_ = 4 then 2 else if E.at_ = 5 then 2 else 0
def wtA (cs ct cf : Int) (E : EdS) : Int :=
 if E.at_ = 1 then verC cs ct cf (slotC E.h) else if E.at_ = 2 then keyC cs ct cf (slotC E.h) E.nk else if E.at_ = 3 then valC cs ct cf (slotC E.h) E.nv else if E.at_ = 4 then E.wa 0 else if E.at_ = 5 then verC cs ct cf (slotC E.h) else 0
def wtO (E : EdS) : Int := if E.at_ = 1 then E.v else 0
def wtN (E : EdS) : Int := if E.at_ = 1 then lockC E.v else if E.at_ = 4 then E.wb 0 else if E.at_ = 5 then E.v else 0
def dnE (E : EdS) (po : Int) : Int := if E.at_ = 0 then (if po = 1 then 1 else 3) else 0
def oldE (E : EdS) (po : Int) : Int := if E.at_ = 0 ∧ po = 1 ∧ E.kd ≠ 2 then E.w (yNat E.ix) else 0
def selI (b : Bool) (x : Int) : Int := if b then x else 0
def selB (b : Bool) (x : Bool) : Bool := b && x
def okNw (h n kd : Int) (inr : Bool) (cs cf : Int) : Bool := hrC h cs && decide (1 ≤ kd ∧ kd ≤ 3 ∧ inr = false ∧ 0 ≤ n ∧ n ≤ cf)
def prePl (cs ct cf cl cp : Int) (E : EdS) : Bool := yAnd (rightC cs ct cf cl cp) (yAnd (inU (qH E)) (yAnd (inU (qV E)) (yAnd (yNle (qNk E) 80) (yNle (qNv E) 80))))
def fPlP (ds : List Dx) : Option (Bool × Dx × List (List Dx)) :=
 match ds with
 | [.l [.v (.y .u64 _), .v (.y .u64 _), .v (.y .i64 _), .v (.y .i64 _), .v (.y .u64 h), .v (.y .u64 v), .v (.y .i64 n), .v (.yb _), .v (.y .i64 _), .v (.y .i64 ls), .v (.y .i64 lt), .v (.y .i64 lf), .v (.y .i64 ll), .v (.y .i64 lp), .v (.y .i64 kd), .v (.y .i64 ix), .v (.y .u64 key), .v (.y .u64 val), .v (.y .i64 at_), .v (.y .i64 _), .v (.yb nb), .rows kn nk [.int .u64 k], .rows vn nv [.int .u64 w], .v (.y .u64 lk), .rows wn nw [.int .i64 wa, .int .u64 wb], .v (.y .i64 _), .v (.y .u64 _), .v (.y .u64 _)]] => some (prePl ls lt lf ll lp ⟨h, v, n, kd, ix, key, val, at_, nb, kn, nk, k, vn, nv, w, lk, wn, nw, wa, wb⟩, rowsW (plE ls lt lf ⟨h, v, n, kd, ix, key, val, at_, nb, kn, nk, k, vn, nv, w, lk, wn, nw, wa, wb⟩), [])
 | _ => none
def fRdP (ds : List Dx) : Option (Bool × Dx × List (List Dx)) :=
 match ds with
 | [.l [.v (.y .u64 sp), .v (.y .u64 sv), .v (.y .i64 sn), .v (.y .i64 si), .v (.y .u64 h), .v (.y .u64 v), .v (.y .i64 n), .v (.yb inr), .v (.y .i64 dp), .v (.y .i64 ls), .v (.y .i64 lt), .v (.y .i64 lf), .v (.y .i64 ll), .v (.y .i64 lp), .v (.y .i64 kd), .v (.y .i64 ix), .v (.y .u64 key), .v (.y .u64 val), .v (.y .i64 at_), .v (.y .i64 po), .v (.yb nb), .rows kn nk [.int .u64 k], .rows vn nv [.int .u64 w], .v (.y .u64 lk), .rows wn nw [.int .i64 wa, .int .u64 wb], .v (.y .i64 mk), .v (.y .u64 ma), .v (.y .u64 mb)]] => some (prePl ls lt lf ll lp ⟨h, v, n, kd, ix, key, val, at_, nb, kn, nk, k, vn, nv, w, lk, wn, nw, wa, wb⟩, dEdP sp sv sn si inr dp ls lt lf ll lp (rdE ls lt lf (nmE ⟨h, v, n, kd, ix, key, val, at_, nb, kn, nk, k, vn, nv, w, lk, wn, nw, wa, wb⟩)) po mk ma mb, [])
 | _ => none
def lPl : List (Nat × Sm) := [(85, .ct (ctS gW fSl16)), (74, .ct (ctS gW fSl16)), (112, .ct (ctX [sConf, sPart, .sc, .sc] ownW fSet)), (113, .ct (ctX [sConf, sPart, .sc, .sc, .sc] ownW fIns)), (114, .ct (ctX [sConf, sPart, .sc] ownW fRem))]
def lRd : List (Nat × Sm) := [(87, .ct (ctX [sEdP] ownW fPlP))]
def lEd : List (Nat × Sm) := [(85, .ct (ctS gW fSl16)), (74, .ct (ctS gW fSl16)), (51, .ct (ctS gW (fW lockC))), (49, .ct (ctS gL1 (fL1 verC))), (52, .ct (ctS gL2 (fL2 keyC))), (53, .ct (ctS gL2 (fL2 valC))), (12, .ct (ctS gL1 (fR1 verC))), (39, .ct (ctS gL2 (fR2 keyC))), (35, .ct (ctS gL2 (fR2 valC))), (46, .ct (ctX [sEdP] sEdP fRdP)), (44, .ct (ctS gHr fHr)), (126, .ct (ctS gHr fHr)), (45, .ct (ctS gConf fRight))]
def goalPlP : Prop := ∀ (sp sv sn si : Int) (inr : Bool) (dp ls lt lf ll lp : Int) (E : EdS) (po mk ma mb : Int), prePl ls lt lf ll lp E = true →
 wxP Tryz.prog (smL lPl) (fun _ => none) 87 [sEdP] [dEdP sp sv sn si inr dp ls lt lf ll lp E po mk ma mb] ownW (rowsW (plE ls lt lf E)) []
def goalRdP : Prop := ∀ (sp sv sn si : Int) (inr : Bool) (dp ls lt lf ll lp : Int) (E : EdS) (po mk ma mb : Int), prePl ls lt lf ll lp E = true →
 wxP Tryz.prog (smL lRd) (fun _ => none) 46 [sEdP] [dEdP sp sv sn si inr dp ls lt lf ll lp E po mk ma mb] sEdP (dEdP sp sv sn si inr dp ls lt lf ll lp (rdE ls lt lf (nmE E)) po mk ma mb) []
abbrev rW4 : Sx := .agg [.sc, .sc, .sc, .sc]
abbrev dW4 (cs ct cf : Int) (E : EdS) : Dx := .l [.v (.y .i64 (wtK E)), .v (.y .i64 (wtA cs ct cf E)), .v (.y .u64 (wtO E)), .v (.y .u64 (wtN E))]
def fTkP (ds : List Dx) : Option (Bool × Dx × List (List Dx)) :=
 match ds with
 | [.l [.v (.y .u64 sp), .v (.y .u64 sv), .v (.y .i64 sn), .v (.y .i64 si), .v (.y .u64 h), .v (.y .u64 v), .v (.y .i64 n), .v (.yb inr), .v (.y .i64 dp), .v (.y .i64 ls), .v (.y .i64 lt), .v (.y .i64 lf), .v (.y .i64 ll), .v (.y .i64 lp), .v (.y .i64 kd), .v (.y .i64 ix), .v (.y .u64 key), .v (.y .u64 val), .v (.y .i64 at_), .v (.y .i64 po), .v (.yb nb), .rows kn nk [.int .u64 k], .rows vn nv [.int .u64 w], .v (.y .u64 lk), .rows wn nw [.int .i64 wa, .int .u64 wb], .v (.y .i64 _), .v (.y .u64 _), .v (.y .u64 _)], .v (.y .u64 got)] => some (invE ls lt lf ll lp ⟨h, v, n, kd, ix, key, val, at_, nb, kn, nk, k, vn, nv, w, lk, wn, nw, wa, wb⟩, dEdP sp sv sn si inr dp ls lt lf ll lp (tkE ls lt lf ⟨h, v, n, kd, ix, key, val, at_, nb, kn, nk, k, vn, nv, w, lk, wn, nw, wa, wb⟩ got) (outE ⟨h, v, n, kd, ix, key, val, at_, nb, kn, nk, k, vn, nv, w, lk, wn, nw, wa, wb⟩ po got) (mkE ⟨h, v, n, kd, ix, key, val, at_, nb, kn, nk, k, vn, nv, w, lk, wn, nw, wa, wb⟩ got) (maE ⟨h, v, n, kd, ix, key, val, at_, nb, kn, nk, k, vn, nv, w, lk, wn, nw, wa, wb⟩ got) 0, [])
 | _ => none
def fWtP (ds : List Dx) : Option (Bool × Dx × List (List Dx)) :=
 match ds with
 | [.l [.v (.y .u64 _), .v (.y .u64 _), .v (.y .i64 _), .v (.y .i64 _), .v (.y .u64 h), .v (.y .u64 v), .v (.y .i64 n), .v (.yb _), .v (.y .i64 _), .v (.y .i64 ls), .v (.y .i64 lt), .v (.y .i64 lf), .v (.y .i64 ll), .v (.y .i64 lp), .v (.y .i64 kd), .v (.y .i64 ix), .v (.y .u64 key), .v (.y .u64 val), .v (.y .i64 at_), .v (.y .i64 _), .v (.yb nb), .rows kn nk [.int .u64 k], .rows vn nv [.int .u64 w], .v (.y .u64 lk), .rows wn nw [.int .i64 wa, .int .u64 wb], .v (.y .i64 _), .v (.y .u64 _), .v (.y .u64 _)]] => some (invE ls lt lf ll lp ⟨h, v, n, kd, ix, key, val, at_, nb, kn, nk, k, vn, nv, w, lk, wn, nw, wa, wb⟩, dW4 ls lt lf ⟨h, v, n, kd, ix, key, val, at_, nb, kn, nk, k, vn, nv, w, lk, wn, nw, wa, wb⟩, [])
 | _ => none
def fDnP (ds : List Dx) : Option (Bool × Dx × List (List Dx)) :=
 match ds with
 | [.l [.v (.y .u64 _), .v (.y .u64 _), .v (.y .i64 _), .v (.y .i64 _), .v (.y .u64 h), .v (.y .u64 v), .v (.y .i64 n), .v (.yb _), .v (.y .i64 _), .v (.y .i64 _), .v (.y .i64 _), .v (.y .i64 _), .v (.y .i64 _), .v (.y .i64 _), .v (.y .i64 kd), .v (.y .i64 ix), .v (.y .u64 key), .v (.y .u64 val), .v (.y .i64 at_), .v (.y .i64 po), .v (.yb nb), .rows kn nk [.int .u64 k], .rows vn nv [.int .u64 w], .v (.y .u64 lk), .rows wn nw [.int .i64 wa, .int .u64 wb], .v (.y .i64 _), .v (.y .u64 _), .v (.y .u64 _)]] => some (invO ⟨h, v, n, kd, ix, key, val, at_, nb, kn, nk, k, vn, nv, w, lk, wn, nw, wa, wb⟩ po, .l [.v (.y .i64 (dnE ⟨h, v, n, kd, ix, key, val, at_, nb, kn, nk, k, vn, nv, w, lk, wn, nw, wa, wb⟩ po)), .v (.y .u64 (oldE ⟨h, v, n, kd, ix, key, val, at_, nb, kn, nk, k, vn, nv, w, lk, wn, nw, wa, wb⟩ po))], [])
 | _ => none
abbrev sSpot : Sx := .agg [.sc, .sc, .sc, .sc, .sc, .sc, .sc, .sc, .sc]
abbrev dSpot (sp sv sn si h v n : Int) (inr : Bool) (dp : Int) : Dx := .l [.v (.y .u64 sp), .v (.y .u64 sv), .v (.y .i64 sn), .v (.y .i64 si), .v (.y .u64 h), .v (.y .u64 v), .v (.y .i64 n), .v (.yb inr), .v (.y .i64 dp)]
def nwE (b : Bool) (h v n kd ix key val : Int) : EdS := ⟨selI b h, selI b v, selI b n, selI b kd, selI b ix, selI b key, selI b val, selI b 1, false, true, 0, fun _ => 0, true, 0, fun _ => 0, 0, true, 0, fun _ => 0, fun _ => 0⟩
abbrev dNwP (b : Bool) (sp sv sn si h v n : Int) (inr : Bool) (dp ls lt lf ll lp kd ix key val : Int) : Dx :=
 dEdP (selI b sp) (selI b sv) (selI b sn) (selI b si) (selB b inr) (selI b dp) (selI b ls) (selI b lt) (selI b lf) (selI b ll) (selI b lp) (nwE b h v n kd ix key val) 0 0 0 0
abbrev dLn (s t f l p : Int) : Dx := .l [.v (.y .i64 (selI (rightC s t f l p) s)), .v (.y .i64 (selI (rightC s t f l p) t)), .v (.y .i64 (selI (rightC s t f l p) f)), .v (.y .i64 (selI (rightC s t f l p) l)), .v (.y .i64 (selI (rightC s t f l p) p))]
def goalLn : Prop := ∀ (s t f l p : Int), wxP Tryz.prog (smL lEd) (fun _ => none) 18 [sConf] [dCf s t f l p] sConf (dLn s t f l p) []
def goalNwP : Prop := ∀ (sp sv sn si h v n : Int) (inr : Bool) (dp ls lt lf ll lp kd ix key val : Int), inU h = true →
 wxP Tryz.prog (smL lEd) (fun _ => none) 17 [sConf, sSpot, rW4] [dCf ls lt lf ll lp, dSpot sp sv sn si h v n inr dp, .l [.v (.y .i64 kd), .v (.y .i64 ix), .v (.y .u64 key), .v (.y .u64 val)]] sEdP (dNwP (okNw h n kd inr ls lf) sp sv sn si h v n inr dp ls lt lf ll lp kd ix key val) []
def goalTkP : Prop := ∀ (sp sv sn si : Int) (inr : Bool) (dp ls lt lf ll lp : Int) (E : EdS) (po mk ma mb got : Int), invE ls lt lf ll lp E = true →
 wxP Tryz.prog (smL lEd) (fun _ => none) 21 [sEdP, .sc] [dEdP sp sv sn si inr dp ls lt lf ll lp E po mk ma mb, .v (.y .u64 got)] sEdP (dEdP sp sv sn si inr dp ls lt lf ll lp (tkE ls lt lf E got) (outE E po got) (mkE E got) (maE E got) 0) []
def goalWtP : Prop := ∀ (sp sv sn si : Int) (inr : Bool) (dp ls lt lf ll lp : Int) (E : EdS) (po mk ma mb : Int), invE ls lt lf ll lp E = true →
 wxP Tryz.prog (smL lEd) (fun _ => none) 23 [sEdP] [dEdP sp sv sn si inr dp ls lt lf ll lp E po mk ma mb] rW4 (dW4 ls lt lf E) []
def goalDnP : Prop := ∀ (sp sv sn si : Int) (inr : Bool) (dp ls lt lf ll lp : Int) (E : EdS) (po mk ma mb : Int), invO E po = true →
 wxP Tryz.prog noSm (fun _ => none) 20 [sEdP] [dEdP sp sv sn si inr dp ls lt lf ll lp E po mk ma mb] (.tup [.sc, .sc]) (.l [.v (.y .i64 (dnE E po)), .v (.y .u64 (oldE E po))]) []
theorem trI_lt {n : Nat} {k : Nat → Int} {j : Nat} (h : j < n) : trI n k j = k j := if_pos h
theorem rises_tr {nk : Nat} {k : Nat → Int} : risesB (trI nk k) nk = risesB k nk := by
 rw [Bool.eq_iff_iff, risesB_iff, risesB_iff]
 constructor
 · intro h j hj; have := h j hj; rwa [trI_lt (by omega), trI_lt (by omega)] at this
 · intro h j hj; have := h j hj; rwa [trI_lt (by omega), trI_lt (by omega)]
theorem fits_tr {i : Bool} {nk : Nat} {k : Nat → Int} {nv : Nat} {cf : Int} : fitsC i nk (trI nk k) nv cf = fitsC i nk k nv cf := by
 unfold fitsC; rw [rises_tr]
theorem setOk_tr {cs s : Int} {i : Bool} {nk : Nat} {k : Nat → Int} {nv : Nat} {cf a : Int} : setOk cs s i nk (trI nk k) nv cf a = setOk cs s i nk k nv cf a := by
 unfold setOk; rw [fits_tr]
theorem fits_len {nk : Nat} {k : Nat → Int} {nv : Nat} {cf : Int} (h : fitsC false nk k nv cf = true) : nv = nk := by
 have := (fits_t.1 h).2.1; simpa using this
theorem insOk_tr {cs s : Int} {i : Bool} {nk : Nat} {k : Nat → Int} {nv : Nat} {cf a key : Int} : insOk cs s i nk (trI nk k) nv cf a key = insOk cs s i nk k nv cf a key := by
 unfold insOk
 rw [fits_tr]
 rw [Bool.eq_iff_iff, decide_eq_true_iff, decide_eq_true_iff]
 constructor
 · rintro ⟨h1, h2, h3, h4, h5, h6, h7, h8⟩
   subst h3
   have := fits_len h2
   refine ⟨h1, h2, rfl, h4, h5, h6, ?_, ?_⟩
   · rcases h7 with h | h
     · exact .inl h
     · by_cases e : a = 0
       · exact .inl e
       · rw [trI_lt (by unfold yNat; omega)] at h; exact .inr h
   · rcases h8 with h | h
     · exact .inl h
     · by_cases e : a = nv
       · exact .inl e
       · rw [trI_lt (by unfold yNat; omega)] at h; exact .inr h
 · rintro ⟨h1, h2, h3, h4, h5, h6, h7, h8⟩
   subst h3
   have := fits_len h2
   refine ⟨h1, h2, rfl, h4, h5, h6, ?_, ?_⟩
   · rcases h7 with h | h
     · exact .inl h
     · by_cases e : a = 0
       · exact .inl e
       · rw [trI_lt (by unfold yNat; omega)]; exact .inr h
   · rcases h8 with h | h
     · exact .inl h
     · by_cases e : a = nv
       · exact .inl e
       · rw [trI_lt (by unfold yNat; omega)]; exact .inr h
theorem flat_congr {α : Type} {f g : Nat → List α} {n : Nat} (h : ∀ d, d < n → f d = g d) : (List.range n).flatMap f = (List.range n).flatMap g := by
 simp only [List.flatMap]
 congr 1
 exact List.map_congr_left fun d hd => h d (List.mem_range.1 hd)
theorem set_tr {cs ct cf s v : Int} {i : Bool} {nk : Nat} {k : Nat → Int} {nv : Nat} {a b : Int} : setL cs ct cf s v i nk (trI nk k) nv a b = setL cs ct cf s v i nk k nv a b := by
 unfold setL; rw [setOk_tr]
theorem rem_tr {cs ct cf s v : Int} {i : Bool} {nk : Nat} {k : Nat → Int} {nv : Nat} {w : Nat → Int} {a : Int} : remL cs ct cf s v i nk (trI nk k) nv (trI nv w) a = remL cs ct cf s v i nk k nv w a := by
 unfold remL; rw [setOk_tr]
 split
 · rename_i h
   unfold setOk at h
   rw [decide_eq_true_iff] at h
   obtain ⟨_, h2, rfl, h4, h5⟩ := h
   have := fits_len h2
   congr 1
   unfold cloL cloO shO
   congr 2
   refine flat_congr fun d hd => ?_
   rw [trI_lt (by unfold yNat at *; omega), trI_lt (by unfold yNat at *; omega)]
 · rfl
theorem ins_tr {cs ct cf s v : Int} {i : Bool} {nk : Nat} {k : Nat → Int} {nv : Nat} {w : Nat → Int} {a b c : Int} : insL cs ct cf s v i nk (trI nk k) nv (trI nv w) a b c = insL cs ct cf s v i nk k nv w a b c := by
 unfold insL; rw [insOk_tr]
 split
 · rename_i h
   unfold insOk at h
   rw [decide_eq_true_iff] at h
   obtain ⟨_, h2, rfl, h4, h5, _⟩ := h
   have := fits_len h2
   congr 1
   unfold opL
   split
   · rfl
   · rename_i hj
     have hj2 : yNat a < nv := by unfold yNat at *; omega
     unfold opO dnL
     congr 1
     rw [trI_lt (by omega), trI_lt (by omega)]
     congr 1
     refine flat_congr fun d hd => ?_
     rw [trI_lt (by omega), trI_lt (by omega)]
 · rfl
theorem plE_nm {cs ct cf : Int} {E : EdS} : plE cs ct cf (nmE E) = plE cs ct cf E := by
 unfold plE nmE
 simp only [set_tr, rem_tr, ins_tr]
theorem trI_eq {n : Nat} {k k' : Nat → Int} (h : ∀ j, j < n → k j = k' j) : trI n k = trI n k' := by
 funext j; unfold trI; split
 · exact h j ‹_›
 · rfl
theorem nm_k {E : EdS} {b : Bool} {m : Nat} {k k' : Nat → Int} (h : ∀ j, j < m → k j = k' j) : nmE { E with kn := b, nk := m, k := k } = nmE { E with kn := b, nk := m, k := k' } := by
 unfold nmE; simp only [trI_eq h]
theorem nm_w {E : EdS} {b : Bool} {m : Nat} {k k' : Nat → Int} (h : ∀ j, j < m → k j = k' j) : nmE { E with vn := b, nv := m, w := k } = nmE { E with vn := b, nv := m, w := k' } := by
 unfold nmE; simp only [trI_eq h]
theorem selI_t (x : Int) : selI true x = x := rfl
theorem selI_f (x : Int) : selI false x = 0 := rfl
theorem selB_t (x : Bool) : selB true x = x := rfl
theorem selB_f (x : Bool) : selB false x = false := rfl
theorem okNw_t {h n kd : Int} {inr : Bool} {cs cf : Int} : okNw h n kd inr cs cf = true ↔ (hrC h cs = true ∧ 1 ≤ kd ∧ kd ≤ 3 ∧ inr = false ∧ 0 ≤ n ∧ n ≤ cf) := by
 unfold okNw; rw [Bool.and_eq_true, decide_eq_true_iff]
theorem okNw_f {h n kd : Int} {inr : Bool} {cs cf : Int} (e : okNw h n kd inr cs cf = false) : ¬ (hrC h cs = true ∧ 1 ≤ kd ∧ kd ≤ 3 ∧ inr = false ∧ 0 ≤ n ∧ n ≤ cf) := fun h => by
 rw [okNw_t.2 h] at e; cases e
def goalLnV : Prop := (∀ (s t f l p : Int), (true = true → (yNot (rightC s t f l p) = true → selI (rightC s t f l p) s = (0 : Int) ∧ selI (rightC s t f l p) t = (0 : Int) ∧ selI (rightC s t f l p) f = (0 : Int) ∧ selI (rightC s t f l p) l = (0 : Int) ∧ selI (rightC s t f l p) p = (0 : Int) ∧ true = true) ∧ (yNot (rightC s t f l p) = false → selI (rightC s t f l p) s = s ∧ selI (rightC s t f l p) t = t ∧ selI (rightC s t f l p) f = f ∧ selI (rightC s t f l p) l = l ∧ selI (rightC s t f l p) p = p ∧ true = true)) ∧ (true = false → False))
theorem goalLn_eq : goalLn = goalLnV := by kernel_rfl
set_option maxHeartbeats 4000000 in
theorem goalLn_vc : goalLnV := by
 unfold goalLnV
 intro s t f l p
 cases hr : rightC s t f l p with
 | true => simp only [vS, forall_const, selI_t]; repeat' (first | apply And.intro | intro _) <;> trivial
 | false => simp only [vS, forall_const, selI_f]; repeat' (first | apply And.intro | intro _) <;> trivial
theorem goalLn_tt : (goalLn) = True := goalLn_eq.trans (eq_true goalLn_vc)
theorem goalLn_ok : goalLn := @ft' goalLn goalLn_tt
def goalNwPV : Prop := (∀ (sp sv sn si h v n : Int) (inr : Bool) (dp ls lt lf ll lp kd ix key val : Int), yAnd (yLe 0 h) (yLt h 18446744073709551616) = true → (yLt kd (1 : Int) = true → selI (okNw h n kd inr ls lf) sp = (0 : Int) ∧ selI (okNw h n kd inr ls lf) sv = (0 : Int) ∧ selI (okNw h n kd inr ls lf) sn = (0 : Int) ∧ selI (okNw h n kd inr ls lf) si = (0 : Int) ∧ selI (okNw h n kd inr ls lf) h = (0 : Int) ∧ selI (okNw h n kd inr ls lf) v = (0 : Int) ∧ selI (okNw h n kd inr ls lf) n = (0 : Int) ∧ selB (okNw h n kd inr ls lf) inr = false ∧ selI (okNw h n kd inr ls lf) dp = (0 : Int) ∧ selI (okNw h n kd inr ls lf) ls = (0 : Int) ∧ selI (okNw h n kd inr ls lf) lt = (0 : Int) ∧ selI (okNw h n kd inr ls lf) lf = (0 : Int) ∧ selI (okNw h n kd inr ls lf) ll = (0 : Int) ∧ selI (okNw h n kd inr ls lf) lp = (0 : Int) ∧ selI (okNw h n kd inr ls lf) kd = (0 : Int) ∧ selI (okNw h n kd inr ls lf) ix = (0 : Int) ∧ selI (okNw h n kd inr ls lf) key = (0 : Int) ∧ selI (okNw h n kd inr ls lf) val = (0 : Int) ∧ selI (okNw h n kd inr ls lf) (1 : Int) = (0 : Int) ∧ (0 : Int) = (0 : Int) ∧ false = false ∧ true = true ∧ nat_lit 0 = nat_lit 0 ∧ true = true ∧ nat_lit 0 = nat_lit 0 ∧ (0 : Int) = (0 : Int) ∧ true = true ∧ nat_lit 0 = nat_lit 0 ∧ (0 : Int) = (0 : Int) ∧ (0 : Int) = (0 : Int) ∧ (0 : Int) = (0 : Int) ∧ true = true) ∧ (yLt kd (1 : Int) = false → (yLt 3 kd = true → selI (okNw h n kd inr ls lf) sp = (0 : Int) ∧ selI (okNw h n kd inr ls lf) sv = (0 : Int) ∧ selI (okNw h n kd inr ls lf) sn = (0 : Int) ∧ selI (okNw h n kd inr ls lf) si = (0 : Int) ∧ selI (okNw h n kd inr ls lf) h = (0 : Int) ∧ selI (okNw h n kd inr ls lf) v = (0 : Int) ∧ selI (okNw h n kd inr ls lf) n = (0 : Int) ∧ selB (okNw h n kd inr ls lf) inr = false ∧ selI (okNw h n kd inr ls lf) dp = (0 : Int) ∧ selI (okNw h n kd inr ls lf) ls = (0 : Int) ∧ selI (okNw h n kd inr ls lf) lt = (0 : Int) ∧ selI (okNw h n kd inr ls lf) lf = (0 : Int) ∧ selI (okNw h n kd inr ls lf) ll = (0 : Int) ∧ selI (okNw h n kd inr ls lf) lp = (0 : Int) ∧ selI (okNw h n kd inr ls lf) kd = (0 : Int) ∧ selI (okNw h n kd inr ls lf) ix = (0 : Int) ∧ selI (okNw h n kd inr ls lf) key = (0 : Int) ∧ selI (okNw h n kd inr ls lf) val = (0 : Int) ∧ selI (okNw h n kd inr ls lf) (1 : Int) = (0 : Int) ∧ (0 : Int) = (0 : Int) ∧ false = false ∧ true = true ∧ nat_lit 0 = nat_lit 0 ∧ true = true ∧ nat_lit 0 = nat_lit 0 ∧ (0 : Int) = (0 : Int) ∧ true = true ∧ nat_lit 0 = nat_lit 0 ∧ (0 : Int) = (0 : Int) ∧ (0 : Int) = (0 : Int) ∧ (0 : Int) = (0 : Int) ∧ true = true) ∧ (yLt 3 kd = false → (yAnd (yLe 0 h) (yLt h 18446744073709551616) = true → (yNot (hrC h ls) = true → selI (okNw h n kd inr ls lf) sp = (0 : Int) ∧ selI (okNw h n kd inr ls lf) sv = (0 : Int) ∧ selI (okNw h n kd inr ls lf) sn = (0 : Int) ∧ selI (okNw h n kd inr ls lf) si = (0 : Int) ∧ selI (okNw h n kd inr ls lf) h = (0 : Int) ∧ selI (okNw h n kd inr ls lf) v = (0 : Int) ∧ selI (okNw h n kd inr ls lf) n = (0 : Int) ∧ selB (okNw h n kd inr ls lf) inr = false ∧ selI (okNw h n kd inr ls lf) dp = (0 : Int) ∧ selI (okNw h n kd inr ls lf) ls = (0 : Int) ∧ selI (okNw h n kd inr ls lf) lt = (0 : Int) ∧ selI (okNw h n kd inr ls lf) lf = (0 : Int) ∧ selI (okNw h n kd inr ls lf) ll = (0 : Int) ∧ selI (okNw h n kd inr ls lf) lp = (0 : Int) ∧ selI (okNw h n kd inr ls lf) kd = (0 : Int) ∧ selI (okNw h n kd inr ls lf) ix = (0 : Int) ∧ selI (okNw h n kd inr ls lf) key = (0 : Int) ∧ selI (okNw h n kd inr ls lf) val = (0 : Int) ∧ selI (okNw h n kd inr ls lf) (1 : Int) = (0 : Int) ∧ (0 : Int) = (0 : Int) ∧ false = false ∧ true = true ∧ nat_lit 0 = nat_lit 0 ∧ true = true ∧ nat_lit 0 = nat_lit 0 ∧ (0 : Int) = (0 : Int) ∧ true = true ∧ nat_lit 0 = nat_lit 0 ∧ (0 : Int) = (0 : Int) ∧ (0 : Int) = (0 : Int) ∧ (0 : Int) = (0 : Int) ∧ true = true) ∧ (yNot (hrC h ls) = false → (inr = true → selI (okNw h n kd inr ls lf) sp = (0 : Int) ∧ selI (okNw h n kd inr ls lf) sv = (0 : Int) ∧ selI (okNw h n kd inr ls lf) sn = (0 : Int) ∧ selI (okNw h n kd inr ls lf) si = (0 : Int) ∧ selI (okNw h n kd inr ls lf) h = (0 : Int) ∧ selI (okNw h n kd inr ls lf) v = (0 : Int) ∧ selI (okNw h n kd inr ls lf) n = (0 : Int) ∧ selB (okNw h n kd inr ls lf) inr = false ∧ selI (okNw h n kd inr ls lf) dp = (0 : Int) ∧ selI (okNw h n kd inr ls lf) ls = (0 : Int) ∧ selI (okNw h n kd inr ls lf) lt = (0 : Int) ∧ selI (okNw h n kd inr ls lf) lf = (0 : Int) ∧ selI (okNw h n kd inr ls lf) ll = (0 : Int) ∧ selI (okNw h n kd inr ls lf) lp = (0 : Int) ∧ selI (okNw h n kd inr ls lf) kd = (0 : Int) ∧ selI (okNw h n kd inr ls lf) ix = (0 : Int) ∧ selI (okNw h n kd inr ls lf) key = (0 : Int) ∧ selI (okNw h n kd inr ls lf) val = (0 : Int) ∧ selI (okNw h n kd inr ls lf) (1 : Int) = (0 : Int) ∧ (0 : Int) = (0 : Int) ∧ false = false ∧ true = true ∧ nat_lit 0 = nat_lit 0 ∧ true = true ∧ nat_lit 0 = nat_lit 0 ∧ (0 : Int) = (0 : Int) ∧ true = true ∧ nat_lit 0 = nat_lit 0 ∧ (0 : Int) = (0 : Int) ∧ (0 : Int) = (0 : Int) ∧ (0 : Int) = (0 : Int) ∧ true = true) ∧ (inr = false → (yLt n (0 : Int) = true → selI (okNw h n kd inr ls lf) sp = (0 : Int) ∧ selI (okNw h n kd inr ls lf) sv = (0 : Int) ∧ selI (okNw h n kd inr ls lf) sn = (0 : Int) ∧ selI (okNw h n kd inr ls lf) si = (0 : Int) ∧ selI (okNw h n kd inr ls lf) h = (0 : Int) ∧ selI (okNw h n kd inr ls lf) v = (0 : Int) ∧ selI (okNw h n kd inr ls lf) n = (0 : Int) ∧ selB (okNw h n kd inr ls lf) inr = false ∧ selI (okNw h n kd inr ls lf) dp = (0 : Int) ∧ selI (okNw h n kd inr ls lf) ls = (0 : Int) ∧ selI (okNw h n kd inr ls lf) lt = (0 : Int) ∧ selI (okNw h n kd inr ls lf) lf = (0 : Int) ∧ selI (okNw h n kd inr ls lf) ll = (0 : Int) ∧ selI (okNw h n kd inr ls lf) lp = (0 : Int) ∧ selI (okNw h n kd inr ls lf) kd = (0 : Int) ∧ selI (okNw h n kd inr ls lf) ix = (0 : Int) ∧ selI (okNw h n kd inr ls lf) key = (0 : Int) ∧ selI (okNw h n kd inr ls lf) val = (0 : Int) ∧ selI (okNw h n kd inr ls lf) (1 : Int) = (0 : Int) ∧ (0 : Int) = (0 : Int) ∧ false = false ∧ true = true ∧ nat_lit 0 = nat_lit 0 ∧ true = true ∧ nat_lit 0 = nat_lit 0 ∧ (0 : Int) = (0 : Int) ∧ true = true ∧ nat_lit 0 = nat_lit 0 ∧ (0 : Int) = (0 : Int) ∧ (0 : Int) = (0 : Int) ∧ (0 : Int) = (0 : Int) ∧ true = true) ∧ (yLt n (0 : Int) = false → (yLt lf n = true → selI (okNw h n kd inr ls lf) sp = (0 : Int) ∧ selI (okNw h n kd inr ls lf) sv = (0 : Int) ∧ selI (okNw h n kd inr ls lf) sn = (0 : Int) ∧ selI (okNw h n kd inr ls lf) si = (0 : Int) ∧ selI (okNw h n kd inr ls lf) h = (0 : Int) ∧ selI (okNw h n kd inr ls lf) v = (0 : Int) ∧ selI (okNw h n kd inr ls lf) n = (0 : Int) ∧ selB (okNw h n kd inr ls lf) inr = false ∧ selI (okNw h n kd inr ls lf) dp = (0 : Int) ∧ selI (okNw h n kd inr ls lf) ls = (0 : Int) ∧ selI (okNw h n kd inr ls lf) lt = (0 : Int) ∧ selI (okNw h n kd inr ls lf) lf = (0 : Int) ∧ selI (okNw h n kd inr ls lf) ll = (0 : Int) ∧ selI (okNw h n kd inr ls lf) lp = (0 : Int) ∧ selI (okNw h n kd inr ls lf) kd = (0 : Int) ∧ selI (okNw h n kd inr ls lf) ix = (0 : Int) ∧ selI (okNw h n kd inr ls lf) key = (0 : Int) ∧ selI (okNw h n kd inr ls lf) val = (0 : Int) ∧ selI (okNw h n kd inr ls lf) (1 : Int) = (0 : Int) ∧ (0 : Int) = (0 : Int) ∧ false = false ∧ true = true ∧ nat_lit 0 = nat_lit 0 ∧ true = true ∧ nat_lit 0 = nat_lit 0 ∧ (0 : Int) = (0 : Int) ∧ true = true ∧ nat_lit 0 = nat_lit 0 ∧ (0 : Int) = (0 : Int) ∧ (0 : Int) = (0 : Int) ∧ (0 : Int) = (0 : Int) ∧ true = true) ∧ (yLt lf n = false → selI (okNw h n kd inr ls lf) sp = sp ∧ selI (okNw h n kd inr ls lf) sv = sv ∧ selI (okNw h n kd inr ls lf) sn = sn ∧ selI (okNw h n kd inr ls lf) si = si ∧ selI (okNw h n kd inr ls lf) h = h ∧ selI (okNw h n kd inr ls lf) v = v ∧ selI (okNw h n kd inr ls lf) n = n ∧ selB (okNw h n kd inr ls lf) inr = inr ∧ selI (okNw h n kd inr ls lf) dp = dp ∧ selI (okNw h n kd inr ls lf) ls = ls ∧ selI (okNw h n kd inr ls lf) lt = lt ∧ selI (okNw h n kd inr ls lf) lf = lf ∧ selI (okNw h n kd inr ls lf) ll = ll ∧ selI (okNw h n kd inr ls lf) lp = lp ∧ selI (okNw h n kd inr ls lf) kd = kd ∧ selI (okNw h n kd inr ls lf) ix = ix ∧ selI (okNw h n kd inr ls lf) key = key ∧ selI (okNw h n kd inr ls lf) val = val ∧ selI (okNw h n kd inr ls lf) (1 : Int) = (1 : Int) ∧ (0 : Int) = (0 : Int) ∧ false = false ∧ true = true ∧ nat_lit 0 = nat_lit 0 ∧ true = true ∧ nat_lit 0 = nat_lit 0 ∧ (0 : Int) = (0 : Int) ∧ true = true ∧ nat_lit 0 = nat_lit 0 ∧ (0 : Int) = (0 : Int) ∧ (0 : Int) = (0 : Int) ∧ (0 : Int) = (0 : Int) ∧ true = true))))) ∧ (yAnd (yLe 0 h) (yLt h 18446744073709551616) = false → False))))
theorem goalNwP_eq : goalNwP = goalNwPV := by kernel_rfl
set_option maxHeartbeats 4000000 in
theorem goalNwP_vc : goalNwPV := by
 unfold goalNwPV
 intro sp sv sn si h v n inr dp ls lt lf ll lp kd ix key val hh
 cases hk : okNw h n kd inr ls lf with
 | true =>
   obtain ⟨k1, k2, k3, k4, k5, k6⟩ := okNw_t.1 hk
   subst k4
   simp only [yAnd_t, yLe_t, yLt_t] at hh
   simp only [vS, forall_const, selI_t, selB_t, k1]
   repeat' (first | apply And.intro | intro _)
   all_goals first
     | trivial
     | (exfalso; omega)
 | false =>
   have hk2 := okNw_f hk
   simp only [yAnd_t, yLe_t, yLt_t] at hh
   simp only [vS, forall_const, selI_f, selB_f]
   repeat' (first | apply And.intro | intro _)
   all_goals first
     | trivial
     | (exfalso; omega)
     | (exfalso; exact hk2 ⟨by assumption, by omega, by omega, by assumption, by omega, by omega⟩)
theorem goalNwP_tt : (goalNwP) = True := goalNwP_eq.trans (eq_true goalNwP_vc)
theorem goalNwP_ok : goalNwP := @ft' goalNwP goalNwP_tt
def goalWtP_0 (E : EdS) := yAnd (yLe 0 (qH E)) (yLt (qH E) 18446744073709551616) = false → False
def goalWtPV : Prop := (∀ (_sp _sv _sn _si : Int) (_inr : Bool) (_dp ls lt lf ll lp : Int) (E : EdS) (_po _mk _ma _mb : Int), invE ls lt lf ll lp E = true → (yEq (qAt E) (1 : Int) = true → (yAnd (yLe 0 (qH E)) (yLt (qH E) 18446744073709551616) = true → (rightC ls lt lf ll lp = true → (yAnd (yLe 0 (qV E)) (yLt (qV E) 18446744073709551616) = true → wtK E = (3 : Int) ∧ wtA ls lt lf E = verC ls lt lf (slotC (qH E)) ∧ wtO E = qV E ∧ wtN E = lockC (qV E) ∧ true = true) ∧ (yAnd (yLe 0 (qV E)) (yLt (qV E) 18446744073709551616) = false → False)) ∧ (rightC ls lt lf ll lp = false → False)) ∧ (goalWtP_0 E)) ∧ (yEq (qAt E) (1 : Int) = false → (yEq (qAt E) (2 : Int) = true → (yAnd (yLe 0 (qH E)) (yLt (qH E) 18446744073709551616) = true → (rightC ls lt lf ll lp = true → wtK E = (1 : Int) ∧ wtA ls lt lf E = keyC ls lt lf (slotC (qH E)) (yInt (qNk E)) ∧ wtO E = (0 : Int) ∧ wtN E = (0 : Int) ∧ true = true) ∧ (rightC ls lt lf ll lp = false → False)) ∧ (goalWtP_0 E)) ∧ (yEq (qAt E) (2 : Int) = false → (yEq (qAt E) (3 : Int) = true → (yAnd (yLe 0 (qH E)) (yLt (qH E) 18446744073709551616) = true → (rightC ls lt lf ll lp = true → wtK E = (1 : Int) ∧ wtA ls lt lf E = valC ls lt lf (slotC (qH E)) (yInt (qNv E)) ∧ wtO E = (0 : Int) ∧ wtN E = (0 : Int) ∧ true = true) ∧ (rightC ls lt lf ll lp = false → False)) ∧ (goalWtP_0 E)) ∧ (yEq (qAt E) (3 : Int) = false → (yEq (qAt E) (4 : Int) = true → (yIn 0 (qNw E) = true → (yIn 0 (qNw E) = true → wtK E = (2 : Int) ∧ wtA ls lt lf E = qWa E 0 ∧ wtO E = (0 : Int) ∧ wtN E = qWb E 0 ∧ true = true) ∧ (yIn 0 (qNw E) = false → False)) ∧ (yIn 0 (qNw E) = false → False)) ∧ (yEq (qAt E) (4 : Int) = false → (yEq (qAt E) (5 : Int) = true → (yAnd (yLe 0 (qH E)) (yLt (qH E) 18446744073709551616) = true → (rightC ls lt lf ll lp = true → wtK E = (2 : Int) ∧ wtA ls lt lf E = verC ls lt lf (slotC (qH E)) ∧ wtO E = (0 : Int) ∧ wtN E = qV E ∧ true = true) ∧ (rightC ls lt lf ll lp = false → False)) ∧ (goalWtP_0 E)) ∧ (yEq (qAt E) (5 : Int) = false → wtK E = (0 : Int) ∧ wtA ls lt lf E = (0 : Int) ∧ wtO E = (0 : Int) ∧ wtN E = (0 : Int) ∧ true = true))))))
theorem goalWtP_eq : goalWtP = goalWtPV := by kernel_rfl
set_option maxHeartbeats 4000000 in
theorem goalWtP_vc : goalWtPV := by
 unfold goalWtPV goalWtP_0
 intro sp sv sn si inr dp ls lt lf ll lp E po mk ma mb hE
 unfold invE at hE
 rw [decide_eq_true_iff] at hE
 simp only [qH, qV, qAt, qNk, qNv, qNw, qWa, qWb, wtK, wtA, wtO, wtN]
 obtain ⟨hh, hE⟩ := hE
 simp only [inU, yAnd_t, yLe_t, yLt_t] at hh
 rcases hE with h0 | ⟨hr, hv, hs, hnb, hkd, hn, hst⟩
 · simp only [h0, vS, forall_const, Int.reduceEq, if_false]
   repeat' (first | apply And.intro | intro _)
   all_goals first
     | trivial
     | (exfalso; omega)
 · simp only [inU, yAnd_t, yLe_t, yLt_t] at hv
   simp only [vS, forall_const, hr]
   repeat' (first | apply And.intro | intro _)
   all_goals first
     | trivial
     | (exfalso; omega)
     | ((repeat' split) <;> first | rfl | omega | (exfalso; omega) | (trace_state; fail))
theorem goalWtP_tt : (goalWtP) = True := goalWtP_eq.trans (eq_true goalWtP_vc)
theorem goalWtP_ok : goalWtP := @ft' goalWtP goalWtP_tt
def goalDnPV : Prop := (∀ (_sp _sv _sn _si : Int) (_inr : Bool) (_dp _ls _lt _lf _ll _lp : Int) (E : EdS) (po _mk _ma _mb : Int), invO E po = true → (yNot (yEq (qAt E) 0) = true → dnE E po = (0 : Int) ∧ oldE E po = (0 : Int) ∧ true = true) ∧ (yNot (yEq (qAt E) 0) = false → (yNot (yEq po 1) = true → dnE E po = (3 : Int) ∧ oldE E po = (0 : Int) ∧ true = true) ∧ (yNot (yEq po 1) = false → (yEq (qKd E) (2 : Int) = true → dnE E po = (1 : Int) ∧ oldE E po = (0 : Int) ∧ true = true) ∧ (yEq (qKd E) (2 : Int) = false → (yIn (qIx E) (qNv E) = true → dnE E po = (1 : Int) ∧ oldE E po = qW E (yNat (qIx E)) ∧ true = true) ∧ (yIn (qIx E) (qNv E) = false → False)))))
theorem goalDnP_eq : goalDnP = goalDnPV := by kernel_rfl
set_option maxHeartbeats 4000000 in
theorem goalDnP_vc : goalDnPV := by
 unfold goalDnPV
 intro sp sv sn si inr dp ls lt lf ll lp E po mk ma mb hE
 unfold invO at hE
 rw [decide_eq_true_iff] at hE
 simp only [qAt, qKd, qIx, qNv, qW, dnE, oldE]
 simp only [vS, forall_const]
 repeat' (first | apply And.intro | intro _)
 all_goals first
   | trivial
   | (exfalso; omega)
   | (exfalso; rcases hE (by assumption) (by assumption) with h | h <;> omega)
   | ((repeat' split) <;> first | rfl | omega | (exfalso; omega))
theorem goalDnP_tt : (goalDnP) = True := goalDnP_eq.trans (eq_true goalDnP_vc)
theorem goalDnP_ok : goalDnP := @ft' goalDnP goalDnP_tt
def goalPlP_0 (E : EdS) := yAnd (yAnd (yLe 0 (qV E)) (yLt (qV E) 18446744073709551616)) (yAnd (yNle (qNk E) 80) (yNle (qNv E) 80))
def goalPlP_1 (ls : Int) (lt : Int) (lf : Int) (E : EdS) := insL ls lt lf (slotC (qH E)) (qV E) (qNb E) (qNk E) (fun (i : Nat) => qK E i) (qNv E) (fun (i : Nat) => qW E i) (qIx E) (qKey E) (qVal E)
def goalPlP_2 (ls : Int) (lt : Int) (lf : Int) (E : EdS) := remL ls lt lf (slotC (qH E)) (qV E) (qNb E) (qNk E) (fun (i : Nat) => qK E i) (qNv E) (fun (i : Nat) => qW E i) (qIx E)
def goalPlP_3 (E : EdS) := yCol (CK.int IntKind.u64) (qNk E) fun (i : Nat) => AV.y IntKind.u64 (qK E i)
def goalPlP_4 (E : EdS) := yCol (CK.int IntKind.u64) (qNv E) fun (i : Nat) => AV.y IntKind.u64 (qW E i)
def goalPlP_5 (ls : Int) (lt : Int) (lf : Int) (E : EdS) := setL ls lt lf (slotC (qH E)) (qV E) (qNb E) (qNk E) (fun (i : Nat) => qK E i) (qNv E) (qIx E) (qVal E)
def goalPlPV : Prop := (∀ (_sp _sv _sn _si : Int) (_inr : Bool) (_dp ls lt lf ll lp : Int) (E : EdS) (_po _mk _ma _mb : Int), prePl ls lt lf ll lp E = true → (yAnd (yLe 0 (qH E)) (yLt (qH E) 18446744073709551616) = true → (yEq (qKd E) (1 : Int) = true → ((goalPlP_3 E) = true → ((goalPlP_4 E) = true → (yAnd (rightC ls lt lf ll lp) (goalPlP_0 E) = true → rE (plE ls lt lf E) = rE (goalPlP_5 ls lt lf E) ∧ nat_lit 0 = nat_lit 0 ∧ rN (plE ls lt lf E) = rN (goalPlP_5 ls lt lf E) ∧ rN (plE ls lt lf E) = rN (goalPlP_5 ls lt lf E) ∧ (∀ (i : Nat), Nat.succ i ≤ rN (plE ls lt lf E) → rA (plE ls lt lf E) i = rA (goalPlP_5 ls lt lf E) i ∧ rB (plE ls lt lf E) i = rB (goalPlP_5 ls lt lf E) i ∧ True) ∧ true = true) ∧ (yAnd (rightC ls lt lf ll lp) (goalPlP_0 E) = false → False)) ∧ ((goalPlP_4 E) = false → False)) ∧ ((goalPlP_3 E) = false → False)) ∧ (yEq (qKd E) (1 : Int) = false → (yEq (qKd E) (2 : Int) = true → ((goalPlP_3 E) = true → ((goalPlP_4 E) = true → (yAnd (rightC ls lt lf ll lp) (goalPlP_0 E) = true → rE (plE ls lt lf E) = rE (goalPlP_1 ls lt lf E) ∧ nat_lit 0 = nat_lit 0 ∧ rN (plE ls lt lf E) = rN (goalPlP_1 ls lt lf E) ∧ rN (plE ls lt lf E) = rN (goalPlP_1 ls lt lf E) ∧ (∀ (i : Nat), Nat.succ i ≤ rN (plE ls lt lf E) → rA (plE ls lt lf E) i = rA (goalPlP_1 ls lt lf E) i ∧ rB (plE ls lt lf E) i = rB (goalPlP_1 ls lt lf E) i ∧ True) ∧ true = true) ∧ (yAnd (rightC ls lt lf ll lp) (goalPlP_0 E) = false → False)) ∧ ((goalPlP_4 E) = false → False)) ∧ ((goalPlP_3 E) = false → False)) ∧ (yEq (qKd E) (2 : Int) = false → ((goalPlP_3 E) = true → ((goalPlP_4 E) = true → (yAnd (rightC ls lt lf ll lp) (goalPlP_0 E) = true → rE (plE ls lt lf E) = rE (goalPlP_2 ls lt lf E) ∧ nat_lit 0 = nat_lit 0 ∧ rN (plE ls lt lf E) = rN (goalPlP_2 ls lt lf E) ∧ rN (plE ls lt lf E) = rN (goalPlP_2 ls lt lf E) ∧ (∀ (i : Nat), Nat.succ i ≤ rN (plE ls lt lf E) → rA (plE ls lt lf E) i = rA (goalPlP_2 ls lt lf E) i ∧ rB (plE ls lt lf E) i = rB (goalPlP_2 ls lt lf E) i ∧ True) ∧ true = true) ∧ (yAnd (rightC ls lt lf ll lp) (goalPlP_0 E) = false → False)) ∧ ((goalPlP_4 E) = false → False)) ∧ ((goalPlP_3 E) = false → False)))) ∧ (yAnd (yLe 0 (qH E)) (yLt (qH E) 18446744073709551616) = false → False))
theorem goalPlP_eq : goalPlP = goalPlPV := by kernel_rfl
set_option maxHeartbeats 4000000 in
theorem goalPlP_vc : goalPlPV := by
 unfold goalPlPV goalPlP_5 goalPlP_4 goalPlP_3 goalPlP_2 goalPlP_1 goalPlP_0
 intro sp sv sn si inr dp ls lt lf ll lp E po mk ma mb hE
 unfold prePl at hE
 simp only [yAnd_t, yNle_t] at hE
 obtain ⟨hr, hh, hv, h8, h9⟩ := hE
 have hh2 := hh
 have hv2 := hv
 simp only [inU, yAnd_t, yLe_t, yLt_t] at hh2 hv2
 by_cases k1 : E.kd = 1
 · have hP : plE ls lt lf E = setL ls lt lf (slotC E.h) E.v E.nb E.nk E.k E.nv E.ix E.val := by unfold plE; rw [if_pos k1]
   have e1 : qKd E = 1 := k1
   simp only [vS, forall_const, false_or, hP, hr, eq_true e1]
   repeat' (first | apply And.intro | intro _)
   all_goals first
     | rfl
     | trivial
     | (exfalso; simp only [qH, qV, qNk, qNv] at *; omega)
 · by_cases k2 : E.kd = 2
   · have hP : plE ls lt lf E = insL ls lt lf (slotC E.h) E.v E.nb E.nk E.k E.nv E.w E.ix E.key E.val := by unfold plE; rw [if_neg k1, if_pos k2]
     have e1 : ¬ qKd E = 1 := k1
     have e2 : qKd E = 2 := k2
     simp only [vS, forall_const, false_or, hP, hr, eq_false e1, eq_true e2]
     repeat' (first | apply And.intro | intro _)
     all_goals first
       | rfl
       | trivial
       | (exfalso; simp only [qH, qV, qNk, qNv] at *; omega)
   · have hP : plE ls lt lf E = remL ls lt lf (slotC E.h) E.v E.nb E.nk E.k E.nv E.w E.ix := by unfold plE; rw [if_neg k1, if_neg k2]
     have e1 : ¬ qKd E = 1 := k1
     have e2 : ¬ qKd E = 2 := k2
     simp only [vS, forall_const, false_or, hP, hr, eq_false e1, eq_false e2]
     repeat' (first | apply And.intro | intro _)
     all_goals first
       | rfl
       | trivial
       | (exfalso; simp only [qH, qV, qNk, qNv] at *; omega)
theorem goalPlP_tt : (goalPlP) = True := goalPlP_eq.trans (eq_true goalPlP_vc)
theorem goalPlP_ok : goalPlP := @ft' goalPlP goalPlP_tt
theorem rE_t {l : List (Int × Int)} (h : (rN l : Int) = 0) : rE l = true := by cases l with | nil => rfl | cons a l => simp [rN] at h; omega
theorem rE_f {l : List (Int × Int)} (h : ¬ (rN l : Int) = 0) : rE l = false := by cases l with | nil => exact absurd rfl h | cons a l => rfl
def goalRdP_0 (ls : Int) (lt : Int) (lf : Int) (E : EdS) := plE ls lt lf { h := qH E, v := qV E, n := qN E, kd := qKd E, ix := qIx E, key := qKey E, val := qVal E, at_ := qAt E, nb := qNb E, kn := qKn E, nk := qNk E, k := fun (i : Nat) => qK E i, vn := qVn E, nv := qNv E, w := fun (i : Nat) => qW E i, lk := qLk E, wn := qWn E, nw := qNw E, wa := fun (i : Nat) => qWa E i, wb := fun (i : Nat) => qWb E i }
def goalRdP_1 (ls : Int) (lt : Int) (lf : Int) (E : EdS) := qKn (rdE ls lt lf (nmE E)) = qKn E ∧ qNk (rdE ls lt lf (nmE E)) = qNk E ∧ ∀ (i : Nat), Nat.succ i ≤ qNk (rdE ls lt lf (nmE E)) → qK (rdE ls lt lf (nmE E)) i = qK E i ∧ True
def goalRdP_2 (ls : Int) (lt : Int) (lf : Int) (E : EdS) := qVn (rdE ls lt lf (nmE E)) = qVn E ∧ qNv (rdE ls lt lf (nmE E)) = qNv E ∧ ∀ (i : Nat), Nat.succ i ≤ qNv (rdE ls lt lf (nmE E)) → qW (rdE ls lt lf (nmE E)) i = qW E i ∧ True
def goalRdPV : Prop := (∀ (sp sv sn si : Int) (inr : Bool) (dp ls lt lf ll lp : Int) (E : EdS) (po mk ma mb : Int), prePl ls lt lf ll lp E = true → (yLt (yInt (qNk E)) (qN E) = true → sp = sp ∧ sv = sv ∧ sn = sn ∧ si = si ∧ qH (rdE ls lt lf (nmE E)) = qH E ∧ qV (rdE ls lt lf (nmE E)) = qV E ∧ qN (rdE ls lt lf (nmE E)) = qN E ∧ inr = inr ∧ dp = dp ∧ ls = ls ∧ lt = lt ∧ lf = lf ∧ ll = ll ∧ lp = lp ∧ qKd (rdE ls lt lf (nmE E)) = qKd E ∧ qIx (rdE ls lt lf (nmE E)) = qIx E ∧ qKey (rdE ls lt lf (nmE E)) = qKey E ∧ qVal (rdE ls lt lf (nmE E)) = qVal E ∧ qAt (rdE ls lt lf (nmE E)) = (2 : Int) ∧ po = po ∧ qNb (rdE ls lt lf (nmE E)) = qNb E ∧ (goalRdP_1 ls lt lf E) ∧ (goalRdP_2 ls lt lf E) ∧ qLk (rdE ls lt lf (nmE E)) = qLk E ∧ (qWn (rdE ls lt lf (nmE E)) = qWn E ∧ qNw (rdE ls lt lf (nmE E)) = qNw E ∧ ∀ (i : Nat), Nat.succ i ≤ qNw (rdE ls lt lf (nmE E)) → qWa (rdE ls lt lf (nmE E)) i = qWa E i ∧ qWb (rdE ls lt lf (nmE E)) i = qWb E i ∧ True) ∧ mk = mk ∧ ma = ma ∧ mb = mb ∧ true = true) ∧ (yLt (yInt (qNk E)) (qN E) = false → (yLt (yInt (qNv E)) (qN E) = true → sp = sp ∧ sv = sv ∧ sn = sn ∧ si = si ∧ qH (rdE ls lt lf (nmE E)) = qH E ∧ qV (rdE ls lt lf (nmE E)) = qV E ∧ qN (rdE ls lt lf (nmE E)) = qN E ∧ inr = inr ∧ dp = dp ∧ ls = ls ∧ lt = lt ∧ lf = lf ∧ ll = ll ∧ lp = lp ∧ qKd (rdE ls lt lf (nmE E)) = qKd E ∧ qIx (rdE ls lt lf (nmE E)) = qIx E ∧ qKey (rdE ls lt lf (nmE E)) = qKey E ∧ qVal (rdE ls lt lf (nmE E)) = qVal E ∧ qAt (rdE ls lt lf (nmE E)) = (3 : Int) ∧ po = po ∧ qNb (rdE ls lt lf (nmE E)) = qNb E ∧ (goalRdP_1 ls lt lf E) ∧ (goalRdP_2 ls lt lf E) ∧ qLk (rdE ls lt lf (nmE E)) = qLk E ∧ (qWn (rdE ls lt lf (nmE E)) = qWn E ∧ qNw (rdE ls lt lf (nmE E)) = qNw E ∧ ∀ (i : Nat), Nat.succ i ≤ qNw (rdE ls lt lf (nmE E)) → qWa (rdE ls lt lf (nmE E)) i = qWa E i ∧ qWb (rdE ls lt lf (nmE E)) i = qWb E i ∧ True) ∧ mk = mk ∧ ma = ma ∧ mb = mb ∧ true = true) ∧ (yLt (yInt (qNv E)) (qN E) = false → ((yCol (CK.int IntKind.u64) (qNk E) fun (i : Nat) => AV.y IntKind.u64 (qK E i)) = true → ((yCol (CK.int IntKind.u64) (qNv E) fun (i : Nat) => AV.y IntKind.u64 (qW E i)) = true → ((yCol (CK.int IntKind.i64) (qNw E) fun (i : Nat) => AV.y IntKind.i64 (qWa E i)) = true → ((yCol (CK.int IntKind.u64) (qNw E) fun (i : Nat) => AV.y IntKind.u64 (qWb E i)) = true → (prePl ls lt lf ll lp { h := qH E, v := qV E, n := qN E, kd := qKd E, ix := qIx E, key := qKey E, val := qVal E, at_ := qAt E, nb := qNb E, kn := qKn E, nk := qNk E, k := fun (i : Nat) => qK E i, vn := qVn E, nv := qNv E, w := fun (i : Nat) => qW E i, lk := qLk E, wn := qWn E, nw := qNw E, wa := fun (i : Nat) => qWa E i, wb := fun (i : Nat) => qWb E i } = true → (yEq (yInt (rN (goalRdP_0 ls lt lf E))) (0 : Int) = true → sp = sp ∧ sv = sv ∧ sn = sn ∧ si = si ∧ qH (rdE ls lt lf (nmE E)) = qH E ∧ qV (rdE ls lt lf (nmE E)) = qV E ∧ qN (rdE ls lt lf (nmE E)) = qN E ∧ inr = inr ∧ dp = dp ∧ ls = ls ∧ lt = lt ∧ lf = lf ∧ ll = ll ∧ lp = lp ∧ qKd (rdE ls lt lf (nmE E)) = qKd E ∧ qIx (rdE ls lt lf (nmE E)) = qIx E ∧ qKey (rdE ls lt lf (nmE E)) = qKey E ∧ qVal (rdE ls lt lf (nmE E)) = qVal E ∧ qAt (rdE ls lt lf (nmE E)) = (5 : Int) ∧ po = po ∧ qNb (rdE ls lt lf (nmE E)) = qNb E ∧ (goalRdP_1 ls lt lf E) ∧ (goalRdP_2 ls lt lf E) ∧ qLk (rdE ls lt lf (nmE E)) = qLk E ∧ qWn (rdE ls lt lf (nmE E)) = rE (goalRdP_0 ls lt lf E) ∧ qNw (rdE ls lt lf (nmE E)) = rN (goalRdP_0 ls lt lf E) ∧ yNadd 0 (rN (goalRdP_0 ls lt lf E)) ≤ rN (goalRdP_0 ls lt lf E) ∧ (∀ (i : Nat), Nat.succ i ≤ qNw (rdE ls lt lf (nmE E)) → qWa (rdE ls lt lf (nmE E)) i = rA (goalRdP_0 ls lt lf E) (yNadd 0 i) ∧ qWb (rdE ls lt lf (nmE E)) i = rB (goalRdP_0 ls lt lf E) (yNadd 0 i) ∧ True) ∧ mk = mk ∧ ma = ma ∧ mb = mb ∧ true = true) ∧ (yEq (yInt (rN (goalRdP_0 ls lt lf E))) (0 : Int) = false → sp = sp ∧ sv = sv ∧ sn = sn ∧ si = si ∧ qH (rdE ls lt lf (nmE E)) = qH E ∧ qV (rdE ls lt lf (nmE E)) = qV E ∧ qN (rdE ls lt lf (nmE E)) = qN E ∧ inr = inr ∧ dp = dp ∧ ls = ls ∧ lt = lt ∧ lf = lf ∧ ll = ll ∧ lp = lp ∧ qKd (rdE ls lt lf (nmE E)) = qKd E ∧ qIx (rdE ls lt lf (nmE E)) = qIx E ∧ qKey (rdE ls lt lf (nmE E)) = qKey E ∧ qVal (rdE ls lt lf (nmE E)) = qVal E ∧ qAt (rdE ls lt lf (nmE E)) = (4 : Int) ∧ po = po ∧ qNb (rdE ls lt lf (nmE E)) = qNb E ∧ (goalRdP_1 ls lt lf E) ∧ (goalRdP_2 ls lt lf E) ∧ qLk (rdE ls lt lf (nmE E)) = qLk E ∧ qWn (rdE ls lt lf (nmE E)) = rE (goalRdP_0 ls lt lf E) ∧ qNw (rdE ls lt lf (nmE E)) = rN (goalRdP_0 ls lt lf E) ∧ yNadd 0 (rN (goalRdP_0 ls lt lf E)) ≤ rN (goalRdP_0 ls lt lf E) ∧ (∀ (i : Nat), Nat.succ i ≤ qNw (rdE ls lt lf (nmE E)) → qWa (rdE ls lt lf (nmE E)) i = rA (goalRdP_0 ls lt lf E) (yNadd 0 i) ∧ qWb (rdE ls lt lf (nmE E)) i = rB (goalRdP_0 ls lt lf E) (yNadd 0 i) ∧ True) ∧ mk = mk ∧ ma = ma ∧ mb = mb ∧ true = true)) ∧ (prePl ls lt lf ll lp { h := qH E, v := qV E, n := qN E, kd := qKd E, ix := qIx E, key := qKey E, val := qVal E, at_ := qAt E, nb := qNb E, kn := qKn E, nk := qNk E, k := fun (i : Nat) => qK E i, vn := qVn E, nv := qNv E, w := fun (i : Nat) => qW E i, lk := qLk E, wn := qWn E, nw := qNw E, wa := fun (i : Nat) => qWa E i, wb := fun (i : Nat) => qWb E i } = false → False)) ∧ ((yCol (CK.int IntKind.u64) (qNw E) fun (i : Nat) => AV.y IntKind.u64 (qWb E i)) = false → False)) ∧ ((yCol (CK.int IntKind.i64) (qNw E) fun (i : Nat) => AV.y IntKind.i64 (qWa E i)) = false → False)) ∧ ((yCol (CK.int IntKind.u64) (qNv E) fun (i : Nat) => AV.y IntKind.u64 (qW E i)) = false → False)) ∧ ((yCol (CK.int IntKind.u64) (qNk E) fun (i : Nat) => AV.y IntKind.u64 (qK E i)) = false → False))))
theorem goalRdP_eq : goalRdP = goalRdPV := by kernel_rfl
set_option maxHeartbeats 4000000 in
theorem goalRdP_vc : goalRdPV := by
 unfold goalRdPV goalRdP_2 goalRdP_1 goalRdP_0
 intro sp sv sn si inr dp ls lt lf ll lp E po mk ma mb hE
 by_cases c1 : (E.nk : Int) < E.n
 · have hR : rdE ls lt lf (nmE E) = { nmE E with at_ := 2 } := by
     unfold rdE; rw [if_pos (show ((nmE E).nk : Int) < (nmE E).n from c1)]
   have e1 : (qNk E : Int) < qN E := c1
   simp only [vS, forall_const, hR, eq_true e1]
   repeat' (first | apply And.intro | intro _)
   all_goals first
     | rfl
     | trivial
     | omega
     | exact trI_lt (by assumption)
     | (refine ⟨?_, ?_⟩ <;> exact trI_lt (by assumption))
     | exact if_pos (rE_t (by assumption))
     | exact if_neg (by rw [rE_f (by assumption)]; exact Bool.false_ne_true)
     | (rename_i h; rw [hE] at h; cases h)
     | (rename_i h; exact absurd (h.symm.trans hE) Bool.false_ne_true)
     | (trace_state; fail)
 · have e1 : ¬ (qNk E : Int) < qN E := c1
   by_cases c2 : (E.nv : Int) < E.n
   · have hR : rdE ls lt lf (nmE E) = { nmE E with at_ := 3 } := by
       unfold rdE; rw [if_neg (show ¬ ((nmE E).nk : Int) < (nmE E).n from c1), if_pos (show ((nmE E).nv : Int) < (nmE E).n from c2)]
     have e2 : (qNv E : Int) < qN E := c2
     simp only [vS, forall_const, hR, eq_false e1, eq_true e2]
     repeat' (first | apply And.intro | intro _)
     all_goals first
       | rfl
       | trivial
       | omega
       | exact trI_lt (by assumption)
       | (refine ⟨?_, ?_⟩ <;> exact trI_lt (by assumption))
       | exact if_pos (rE_t (by assumption))
       | exact if_neg (by rw [rE_f (by assumption)]; exact Bool.false_ne_true)
       | (rename_i h; rw [hE] at h; cases h)
       | (rename_i h; exact absurd (h.symm.trans hE) Bool.false_ne_true)
       | (trace_state; fail)
   · have hR : rdE ls lt lf (nmE E) = { nmE E with wn := rE (plE ls lt lf E), nw := rN (plE ls lt lf E), wa := rA (plE ls lt lf E), wb := rB (plE ls lt lf E), at_ := if rE (plE ls lt lf E) then 5 else 4 } := by
       unfold rdE; rw [plE_nm, if_neg (show ¬ ((nmE E).nk : Int) < (nmE E).n from c1), if_neg (show ¬ ((nmE E).nv : Int) < (nmE E).n from c2)]
     have e2 : ¬ (qNv E : Int) < qN E := c2
     simp only [vS, forall_const, hR, eq_false e1, eq_false e2]
     repeat' (first | apply And.intro | intro _)
     all_goals first
       | rfl
       | trivial
       | omega
       | exact trI_lt (by assumption)
       | (refine ⟨?_, ?_⟩ <;> exact trI_lt (by assumption))
       | exact if_pos (rE_t (by assumption))
       | exact if_neg (by rw [rE_f (by assumption)]; exact Bool.false_ne_true)
       | (rename_i h; rw [hE] at h; cases h)
       | (rename_i h; exact absurd (h.symm.trans hE) Bool.false_ne_true)
       | (trace_state; fail)
theorem goalRdP_tt : (goalRdP) = True := goalRdP_eq.trans (eq_true goalRdP_vc)
theorem goalRdP_ok : goalRdP := @ft' goalRdP goalRdP_tt
end Go.Proofs.YtinijejfhmcmdaaGreatDoor.Ex
end
section
namespace Go.Proofs.YtinijejfhmcmdaaGreatDoor.Ex
open Go
theorem tk1 {cs ct cf : Int} {E : EdS} {got : Int} (h : E.at_ = 1) (hg : got = 1) : tkE cs ct cf E got = rdE cs ct cf (nmE E) := by unfold tkE; rw [if_pos h, if_pos hg]
theorem tk1n {cs ct cf : Int} {E : EdS} {got : Int} (h : E.at_ = 1) (hg : ¬ got = 1) : tkE cs ct cf E got = { E with at_ := 0 } := by unfold tkE; rw [if_pos h, if_neg hg]
theorem tk2 {cs ct cf : Int} {E : EdS} {got : Int} (h : E.at_ = 2) : tkE cs ct cf E got = rdE cs ct cf (nmE { E with kn := false, nk := E.nk + 1, k := snocI E.nk E.k got }) := by unfold tkE; rw [if_neg (by omega), if_pos h]
theorem tk3 {cs ct cf : Int} {E : EdS} {got : Int} (h : E.at_ = 3) : tkE cs ct cf E got = rdE cs ct cf (nmE { E with vn := false, nv := E.nv + 1, w := snocI E.nv E.w got }) := by unfold tkE; rw [if_neg (by omega), if_neg (by omega), if_pos h]
theorem tk4 {cs ct cf : Int} {E : EdS} {got : Int} (h : E.at_ = 4) : tkE cs ct cf E got = { E with nw := E.nw - 1, wa := fun j => E.wa (1 + j), wb := fun j => E.wb (1 + j), at_ := if E.nw = 1 then 0 else 4 } := by unfold tkE; rw [if_neg (by omega), if_neg (by omega), if_neg (by omega), if_pos h]
theorem tk5 {cs ct cf : Int} {E : EdS} {got : Int} (h : E.at_ = 5) : tkE cs ct cf E got = { E with at_ := 0 } := by unfold tkE; rw [if_neg (by omega), if_neg (by omega), if_neg (by omega), if_neg (by omega), if_pos h]
theorem tk0 {cs ct cf : Int} {E : EdS} {got : Int} (h : E.at_ ≠ 1 ∧ E.at_ ≠ 2 ∧ E.at_ ≠ 3 ∧ E.at_ ≠ 4 ∧ E.at_ ≠ 5) : tkE cs ct cf E got = E := by unfold tkE; rw [if_neg h.1, if_neg h.2.1, if_neg h.2.2.1, if_neg h.2.2.2.1, if_neg h.2.2.2.2]
theorem ou1 {E : EdS} {po got : Int} (h : E.at_ = 1) (hg : got = 1) : outE E po got = po ∧ mkE E got = 0 ∧ maE E got = 0 := by unfold outE mkE maE; simp only [h, hg, if_true, and_self]
theorem ou1n {E : EdS} {po got : Int} (h : E.at_ = 1) (hg : ¬ got = 1) : outE E po got = 3 ∧ mkE E got = 3 ∧ maE E got = E.h := by unfold outE mkE maE; simp only [h, hg, if_true, if_false, and_self]
theorem ou4 {E : EdS} {po got : Int} (h : E.at_ = 4) : outE E po got = (if E.nw = 1 then 1 else po) ∧ mkE E got = (if E.nw = 1 then 12 else 0) ∧ maE E got = 0 := by
 unfold outE mkE maE; simp [h]
theorem ou5 {E : EdS} {po got : Int} (h : E.at_ = 5) : outE E po got = 3 ∧ mkE E got = 0 ∧ maE E got = 0 := by unfold outE mkE maE; simp [h]
theorem ou0 {E : EdS} {po got : Int} (h1 : E.at_ ≠ 1) (h4 : E.at_ ≠ 4) (h5 : E.at_ ≠ 5) : outE E po got = po ∧ mkE E got = 0 ∧ maE E got = 0 := by unfold outE mkE maE; simp [h1, h4, h5]
theorem sn_P {n : Nat} {k : Nat → Int} {x : Int} : ∀ j, j < n + 1 → snocI n k x j = (fun i : Nat => ySel (yNlt i n) (k i) x) j := fun j _ => by
 unfold snocI; simp only [ySel, yNlt]; by_cases h : j < n <;> simp [h]
theorem invE_pre {cs ct cf cl cp : Int} {E : EdS} (h : invE cs ct cf cl cp E = true) (h0 : E.at_ ≠ 0) (h4 : E.at_ ≠ 4) (h5 : E.at_ ≠ 5) :
   ∀ X : EdS, X.h = E.h → X.v = E.v → (X.nk : Int) ≤ E.nk + 1 → (X.nv : Int) ≤ E.nv + 1 → prePl cs ct cf cl cp X = true := fun X e1 e2 e3 e4 => by
 unfold invE at h
 rw [decide_eq_true_iff] at h
 obtain ⟨hh, h⟩ := h
 rcases h with h | ⟨hr, hv, _, _, _, hn, hst⟩
 · exact absurd h h0
 · have hc := rightC_iff.1 hr
   unfold prePl
   simp only [yAnd_t, yNle_t, hr, true_and]
   refine ⟨by show inU X.h = true; rw [e1]; exact hh, by show inU X.v = true; rw [e2]; exact hv, ?_, ?_⟩
   · show X.nk ≤ 80; omega
   · show X.nv ≤ 80; omega
theorem invE_len {cs ct cf cl cp : Int} {E : EdS} (h : invE cs ct cf cl cp E = true) (h0 : E.at_ ≠ 0) (h4 : E.at_ ≠ 4) (h5 : E.at_ ≠ 5) : qNk E ≤ 64 ∧ qNv E ≤ 64 := by
 unfold invE at h
 rw [decide_eq_true_iff] at h
 obtain ⟨hh, h⟩ := h
 rcases h with h | ⟨hr, hv, _, _, _, hn, hst⟩
 · exact absurd h h0
 · have hc := rightC_iff.1 hr
   unfold qNk qNv
   omega
def goalTkP_0 (ls : Int) (lt : Int) (lf : Int) (E : EdS) (got : Int) := rdE ls lt lf (nmE { h := qH E, v := qV E, n := qN E, kd := qKd E, ix := qIx E, key := qKey E, val := qVal E, at_ := qAt E, nb := qNb E, kn := false, nk := yNadd (yNat (yInt (qNk E))) 1, k := fun (i : Nat) => ySel (yNlt i (yNat (yInt (qNk E)))) (qK E i) got, vn := qVn E, nv := qNv E, w := fun (i : Nat) => qW E i, lk := qLk E, wn := qWn E, nw := qNw E, wa := fun (i : Nat) => qWa E i, wb := fun (i : Nat) => qWb E i })
def goalTkP_1 (ls : Int) (lt : Int) (lf : Int) (E : EdS) (got : Int) := rdE ls lt lf (nmE { h := qH E, v := qV E, n := qN E, kd := qKd E, ix := qIx E, key := qKey E, val := qVal E, at_ := qAt E, nb := qNb E, kn := qKn E, nk := qNk E, k := fun (i : Nat) => qK E i, vn := false, nv := yNadd (yNat (yInt (qNv E))) 1, w := fun (i : Nat) => ySel (yNlt i (yNat (yInt (qNv E)))) (qW E i) got, lk := qLk E, wn := qWn E, nw := qNw E, wa := fun (i : Nat) => qWa E i, wb := fun (i : Nat) => qWb E i })
def goalTkP_2 (ls : Int) (lt : Int) (lf : Int) (E : EdS) := rdE ls lt lf (nmE { h := qH E, v := qV E, n := qN E, kd := qKd E, ix := qIx E, key := qKey E, val := qVal E, at_ := qAt E, nb := qNb E, kn := qKn E, nk := yNat (yInt (qNk E)), k := fun (i : Nat) => qK E i, vn := qVn E, nv := qNv E, w := fun (i : Nat) => qW E i, lk := qLk E, wn := qWn E, nw := qNw E, wa := fun (i : Nat) => qWa E i, wb := fun (i : Nat) => qWb E i })
def goalTkP_3 (ls : Int) (lt : Int) (lf : Int) (E : EdS) := rdE ls lt lf (nmE { h := qH E, v := qV E, n := qN E, kd := qKd E, ix := qIx E, key := qKey E, val := qVal E, at_ := qAt E, nb := qNb E, kn := qKn E, nk := qNk E, k := fun (i : Nat) => qK E i, vn := qVn E, nv := yNat (yInt (qNv E)), w := fun (i : Nat) => qW E i, lk := qLk E, wn := qWn E, nw := qNw E, wa := fun (i : Nat) => qWa E i, wb := fun (i : Nat) => qWb E i })
def goalTkP_4 (ls : Int) (lt : Int) (lf : Int) (E : EdS) := rdE ls lt lf (nmE { h := qH E, v := qV E, n := qN E, kd := qKd E, ix := qIx E, key := qKey E, val := qVal E, at_ := qAt E, nb := qNb E, kn := qKn E, nk := qNk E, k := fun (i : Nat) => qK E i, vn := qVn E, nv := qNv E, w := fun (i : Nat) => qW E i, lk := qLk E, wn := qWn E, nw := qNw E, wa := fun (i : Nat) => qWa E i, wb := fun (i : Nat) => qWb E i })
def goalTkP_5 (E : EdS) := yCol (CK.int IntKind.i64) (qNw E) fun (i : Nat) => AV.y IntKind.i64 (qWa E i)
def goalTkP_6 (E : EdS) := yCol (CK.int IntKind.u64) (qNw E) fun (i : Nat) => AV.y IntKind.u64 (qWb E i)
def goalTkP_7 (ls : Int) (lt : Int) (lf : Int) (E : EdS) (got : Int) := qKn (tkE ls lt lf E got) = qKn E ∧ qNk (tkE ls lt lf E got) = qNk E ∧ ∀ (i : Nat), Nat.succ i ≤ qNk (tkE ls lt lf E got) → qK (tkE ls lt lf E got) i = qK E i ∧ True
def goalTkP_8 (ls : Int) (lt : Int) (lf : Int) (E : EdS) (got : Int) := qVn (tkE ls lt lf E got) = qVn E ∧ qNv (tkE ls lt lf E got) = qNv E ∧ ∀ (i : Nat), Nat.succ i ≤ qNv (tkE ls lt lf E got) → qW (tkE ls lt lf E got) i = qW E i ∧ True
def goalTkP_9 (E : EdS) := yCol (CK.int IntKind.u64) (qNk E) fun (i : Nat) => AV.y IntKind.u64 (qK E i)
def goalTkP_10 (E : EdS) := yCol (CK.int IntKind.u64) (qNv E) fun (i : Nat) => AV.y IntKind.u64 (qW E i)
def goalTkP_11 (ls : Int) (lt : Int) (lf : Int) (E : EdS) (got : Int) := qWn (tkE ls lt lf E got) = qWn E ∧ qNw (tkE ls lt lf E got) = qNw E ∧ ∀ (i : Nat), Nat.succ i ≤ qNw (tkE ls lt lf E got) → qWa (tkE ls lt lf E got) i = qWa E i ∧ qWb (tkE ls lt lf E got) i = qWb E i ∧ True
def goalTkPV : Prop := (∀ (sp sv sn si : Int) (inr : Bool) (dp ls lt lf ll lp : Int) (E : EdS) (po _mk _ma _mb got : Int), invE ls lt lf ll lp E = true → (yEq (qAt E) (1 : Int) = true → (yNot (yEq got 1) = true → sp = sp ∧ sv = sv ∧ sn = sn ∧ si = si ∧ qH (tkE ls lt lf E got) = qH E ∧ qV (tkE ls lt lf E got) = qV E ∧ qN (tkE ls lt lf E got) = qN E ∧ inr = inr ∧ dp = dp ∧ ls = ls ∧ lt = lt ∧ lf = lf ∧ ll = ll ∧ lp = lp ∧ qKd (tkE ls lt lf E got) = qKd E ∧ qIx (tkE ls lt lf E got) = qIx E ∧ qKey (tkE ls lt lf E got) = qKey E ∧ qVal (tkE ls lt lf E got) = qVal E ∧ qAt (tkE ls lt lf E got) = (0 : Int) ∧ outE E po got = (3 : Int) ∧ qNb (tkE ls lt lf E got) = qNb E ∧ (goalTkP_7 ls lt lf E got) ∧ (goalTkP_8 ls lt lf E got) ∧ qLk (tkE ls lt lf E got) = qLk E ∧ (goalTkP_11 ls lt lf E got) ∧ mkE E got = (3 : Int) ∧ maE E got = qH E ∧ (0 : Int) = (0 : Int) ∧ true = true) ∧ (yNot (yEq got 1) = false → ((goalTkP_9 E) = true → ((goalTkP_10 E) = true → ((goalTkP_5 E) = true → ((goalTkP_6 E) = true → (prePl ls lt lf ll lp { h := qH E, v := qV E, n := qN E, kd := qKd E, ix := qIx E, key := qKey E, val := qVal E, at_ := qAt E, nb := qNb E, kn := qKn E, nk := qNk E, k := fun (i : Nat) => qK E i, vn := qVn E, nv := qNv E, w := fun (i : Nat) => qW E i, lk := qLk E, wn := qWn E, nw := qNw E, wa := fun (i : Nat) => qWa E i, wb := fun (i : Nat) => qWb E i } = true → sp = sp ∧ sv = sv ∧ sn = sn ∧ si = si ∧ qH (tkE ls lt lf E got) = qH (goalTkP_4 ls lt lf E) ∧ qV (tkE ls lt lf E got) = qV (goalTkP_4 ls lt lf E) ∧ qN (tkE ls lt lf E got) = qN (goalTkP_4 ls lt lf E) ∧ inr = inr ∧ dp = dp ∧ ls = ls ∧ lt = lt ∧ lf = lf ∧ ll = ll ∧ lp = lp ∧ qKd (tkE ls lt lf E got) = qKd (goalTkP_4 ls lt lf E) ∧ qIx (tkE ls lt lf E got) = qIx (goalTkP_4 ls lt lf E) ∧ qKey (tkE ls lt lf E got) = qKey (goalTkP_4 ls lt lf E) ∧ qVal (tkE ls lt lf E got) = qVal (goalTkP_4 ls lt lf E) ∧ qAt (tkE ls lt lf E got) = qAt (goalTkP_4 ls lt lf E) ∧ outE E po got = po ∧ qNb (tkE ls lt lf E got) = qNb (goalTkP_4 ls lt lf E) ∧ (qKn (tkE ls lt lf E got) = qKn (goalTkP_4 ls lt lf E) ∧ qNk (tkE ls lt lf E got) = qNk (goalTkP_4 ls lt lf E) ∧ ∀ (i : Nat), Nat.succ i ≤ qNk (tkE ls lt lf E got) → qK (tkE ls lt lf E got) i = qK (goalTkP_4 ls lt lf E) i ∧ True) ∧ (qVn (tkE ls lt lf E got) = qVn (goalTkP_4 ls lt lf E) ∧ qNv (tkE ls lt lf E got) = qNv (goalTkP_4 ls lt lf E) ∧ ∀ (i : Nat), Nat.succ i ≤ qNv (tkE ls lt lf E got) → qW (tkE ls lt lf E got) i = qW (goalTkP_4 ls lt lf E) i ∧ True) ∧ qLk (tkE ls lt lf E got) = qLk (goalTkP_4 ls lt lf E) ∧ (qWn (tkE ls lt lf E got) = qWn (goalTkP_4 ls lt lf E) ∧ qNw (tkE ls lt lf E got) = qNw (goalTkP_4 ls lt lf E) ∧ ∀ (i : Nat), Nat.succ i ≤ qNw (tkE ls lt lf E got) → qWa (tkE ls lt lf E got) i = qWa (goalTkP_4 ls lt lf E) i ∧ qWb (tkE ls lt lf E got) i = qWb (goalTkP_4 ls lt lf E) i ∧ True) ∧ mkE E got = (0 : Int) ∧ maE E got = (0 : Int) ∧ (0 : Int) = (0 : Int) ∧ true = true) ∧ (prePl ls lt lf ll lp { h := qH E, v := qV E, n := qN E, kd := qKd E, ix := qIx E, key := qKey E, val := qVal E, at_ := qAt E, nb := qNb E, kn := qKn E, nk := qNk E, k := fun (i : Nat) => qK E i, vn := qVn E, nv := qNv E, w := fun (i : Nat) => qW E i, lk := qLk E, wn := qWn E, nw := qNw E, wa := fun (i : Nat) => qWa E i, wb := fun (i : Nat) => qWb E i } = false → False)) ∧ ((goalTkP_6 E) = false → False)) ∧ ((goalTkP_5 E) = false → False)) ∧ ((goalTkP_10 E) = false → False)) ∧ ((goalTkP_9 E) = false → False))) ∧ (yEq (qAt E) (1 : Int) = false → (yEq (qAt E) (2 : Int) = true → (yIn (yInt (qNk E)) (Nat.succ (qNk E)) = true → (yNeq (yNat (yInt (qNk E))) (yNat (yInt (qNk E))) = true → (yIn (yInt (qNk E)) (Nat.succ (qNk E)) = true → (yNeq 1 (nat_lit 0) = true → ((yCol (CK.int IntKind.u64) (yNat (yInt (qNk E))) fun (i : Nat) => AV.y IntKind.u64 (qK E i)) = true → ((goalTkP_10 E) = true → ((goalTkP_5 E) = true → ((goalTkP_6 E) = true → (prePl ls lt lf ll lp { h := qH E, v := qV E, n := qN E, kd := qKd E, ix := qIx E, key := qKey E, val := qVal E, at_ := qAt E, nb := qNb E, kn := qKn E, nk := yNat (yInt (qNk E)), k := fun (i : Nat) => qK E i, vn := qVn E, nv := qNv E, w := fun (i : Nat) => qW E i, lk := qLk E, wn := qWn E, nw := qNw E, wa := fun (i : Nat) => qWa E i, wb := fun (i : Nat) => qWb E i } = true → sp = sp ∧ sv = sv ∧ sn = sn ∧ si = si ∧ qH (tkE ls lt lf E got) = qH (goalTkP_2 ls lt lf E) ∧ qV (tkE ls lt lf E got) = qV (goalTkP_2 ls lt lf E) ∧ qN (tkE ls lt lf E got) = qN (goalTkP_2 ls lt lf E) ∧ inr = inr ∧ dp = dp ∧ ls = ls ∧ lt = lt ∧ lf = lf ∧ ll = ll ∧ lp = lp ∧ qKd (tkE ls lt lf E got) = qKd (goalTkP_2 ls lt lf E) ∧ qIx (tkE ls lt lf E got) = qIx (goalTkP_2 ls lt lf E) ∧ qKey (tkE ls lt lf E got) = qKey (goalTkP_2 ls lt lf E) ∧ qVal (tkE ls lt lf E got) = qVal (goalTkP_2 ls lt lf E) ∧ qAt (tkE ls lt lf E got) = qAt (goalTkP_2 ls lt lf E) ∧ outE E po got = po ∧ qNb (tkE ls lt lf E got) = qNb (goalTkP_2 ls lt lf E) ∧ (qKn (tkE ls lt lf E got) = qKn (goalTkP_2 ls lt lf E) ∧ qNk (tkE ls lt lf E got) = qNk (goalTkP_2 ls lt lf E) ∧ ∀ (i : Nat), Nat.succ i ≤ qNk (tkE ls lt lf E got) → qK (tkE ls lt lf E got) i = qK (goalTkP_2 ls lt lf E) i ∧ True) ∧ (qVn (tkE ls lt lf E got) = qVn (goalTkP_2 ls lt lf E) ∧ qNv (tkE ls lt lf E got) = qNv (goalTkP_2 ls lt lf E) ∧ ∀ (i : Nat), Nat.succ i ≤ qNv (tkE ls lt lf E got) → qW (tkE ls lt lf E got) i = qW (goalTkP_2 ls lt lf E) i ∧ True) ∧ qLk (tkE ls lt lf E got) = qLk (goalTkP_2 ls lt lf E) ∧ (qWn (tkE ls lt lf E got) = qWn (goalTkP_2 ls lt lf E) ∧ qNw (tkE ls lt lf E got) = qNw (goalTkP_2 ls lt lf E) ∧ ∀ (i : Nat), Nat.succ i ≤ qNw (tkE ls lt lf E got) → qWa (tkE ls lt lf E got) i = qWa (goalTkP_2 ls lt lf E) i ∧ qWb (tkE ls lt lf E got) i = qWb (goalTkP_2 ls lt lf E) i ∧ True) ∧ mkE E got = (0 : Int) ∧ maE E got = (0 : Int) ∧ (0 : Int) = (0 : Int) ∧ true = true) ∧ (prePl ls lt lf ll lp { h := qH E, v := qV E, n := qN E, kd := qKd E, ix := qIx E, key := qKey E, val := qVal E, at_ := qAt E, nb := qNb E, kn := qKn E, nk := yNat (yInt (qNk E)), k := fun (i : Nat) => qK E i, vn := qVn E, nv := qNv E, w := fun (i : Nat) => qW E i, lk := qLk E, wn := qWn E, nw := qNw E, wa := fun (i : Nat) => qWa E i, wb := fun (i : Nat) => qWb E i } = false → False)) ∧ ((goalTkP_6 E) = false → False)) ∧ ((goalTkP_5 E) = false → False)) ∧ ((goalTkP_10 E) = false → False)) ∧ ((yCol (CK.int IntKind.u64) (yNat (yInt (qNk E))) fun (i : Nat) => AV.y IntKind.u64 (qK E i)) = false → False)) ∧ (yNeq 1 (nat_lit 0) = false → (yGrow (yNadd (yNat (yInt (qNk E))) 1) (nat_lit 8) = true → (yNle (yNadd 0 (yNadd (yNat (yInt (qNk E))) 1)) (yNadd (yNat (yInt (qNk E))) 1) = true → ((yCol (CK.int IntKind.u64) (yNadd (yNat (yInt (qNk E))) 1) fun (i : Nat) => AV.y IntKind.u64 (ySel (yNlt i (yNat (yInt (qNk E)))) (qK E i) got)) = true → ((goalTkP_10 E) = true → ((goalTkP_5 E) = true → ((goalTkP_6 E) = true → (prePl ls lt lf ll lp { h := qH E, v := qV E, n := qN E, kd := qKd E, ix := qIx E, key := qKey E, val := qVal E, at_ := qAt E, nb := qNb E, kn := false, nk := yNadd (yNat (yInt (qNk E))) 1, k := fun (i : Nat) => ySel (yNlt i (yNat (yInt (qNk E)))) (qK E i) got, vn := qVn E, nv := qNv E, w := fun (i : Nat) => qW E i, lk := qLk E, wn := qWn E, nw := qNw E, wa := fun (i : Nat) => qWa E i, wb := fun (i : Nat) => qWb E i } = true → sp = sp ∧ sv = sv ∧ sn = sn ∧ si = si ∧ qH (tkE ls lt lf E got) = qH (goalTkP_0 ls lt lf E got) ∧ qV (tkE ls lt lf E got) = qV (goalTkP_0 ls lt lf E got) ∧ qN (tkE ls lt lf E got) = qN (goalTkP_0 ls lt lf E got) ∧ inr = inr ∧ dp = dp ∧ ls = ls ∧ lt = lt ∧ lf = lf ∧ ll = ll ∧ lp = lp ∧ qKd (tkE ls lt lf E got) = qKd (goalTkP_0 ls lt lf E got) ∧ qIx (tkE ls lt lf E got) = qIx (goalTkP_0 ls lt lf E got) ∧ qKey (tkE ls lt lf E got) = qKey (goalTkP_0 ls lt lf E got) ∧ qVal (tkE ls lt lf E got) = qVal (goalTkP_0 ls lt lf E got) ∧ qAt (tkE ls lt lf E got) = qAt (goalTkP_0 ls lt lf E got) ∧ outE E po got = po ∧ qNb (tkE ls lt lf E got) = qNb (goalTkP_0 ls lt lf E got) ∧ (qKn (tkE ls lt lf E got) = qKn (goalTkP_0 ls lt lf E got) ∧ qNk (tkE ls lt lf E got) = qNk (goalTkP_0 ls lt lf E got) ∧ ∀ (i : Nat), Nat.succ i ≤ qNk (tkE ls lt lf E got) → qK (tkE ls lt lf E got) i = qK (goalTkP_0 ls lt lf E got) i ∧ True) ∧ (qVn (tkE ls lt lf E got) = qVn (goalTkP_0 ls lt lf E got) ∧ qNv (tkE ls lt lf E got) = qNv (goalTkP_0 ls lt lf E got) ∧ ∀ (i : Nat), Nat.succ i ≤ qNv (tkE ls lt lf E got) → qW (tkE ls lt lf E got) i = qW (goalTkP_0 ls lt lf E got) i ∧ True) ∧ qLk (tkE ls lt lf E got) = qLk (goalTkP_0 ls lt lf E got) ∧ (qWn (tkE ls lt lf E got) = qWn (goalTkP_0 ls lt lf E got) ∧ qNw (tkE ls lt lf E got) = qNw (goalTkP_0 ls lt lf E got) ∧ ∀ (i : Nat), Nat.succ i ≤ qNw (tkE ls lt lf E got) → qWa (tkE ls lt lf E got) i = qWa (goalTkP_0 ls lt lf E got) i ∧ qWb (tkE ls lt lf E got) i = qWb (goalTkP_0 ls lt lf E got) i ∧ True) ∧ mkE E got = (0 : Int) ∧ maE E got = (0 : Int) ∧ (0 : Int) = (0 : Int) ∧ true = true) ∧ (prePl ls lt lf ll lp { h := qH E, v := qV E, n := qN E, kd := qKd E, ix := qIx E, key := qKey E, val := qVal E, at_ := qAt E, nb := qNb E, kn := false, nk := yNadd (yNat (yInt (qNk E))) 1, k := fun (i : Nat) => ySel (yNlt i (yNat (yInt (qNk E)))) (qK E i) got, vn := qVn E, nv := qNv E, w := fun (i : Nat) => qW E i, lk := qLk E, wn := qWn E, nw := qNw E, wa := fun (i : Nat) => qWa E i, wb := fun (i : Nat) => qWb E i } = false → False)) ∧ ((goalTkP_6 E) = false → False)) ∧ ((goalTkP_5 E) = false → False)) ∧ ((goalTkP_10 E) = false → False)) ∧ ((yCol (CK.int IntKind.u64) (yNadd (yNat (yInt (qNk E))) 1) fun (i : Nat) => AV.y IntKind.u64 (ySel (yNlt i (yNat (yInt (qNk E)))) (qK E i) got)) = false → False)) ∧ (yNle (yNadd 0 (yNadd (yNat (yInt (qNk E))) 1)) (yNadd (yNat (yInt (qNk E))) 1) = false → False)) ∧ (yGrow (yNadd (yNat (yInt (qNk E))) 1) (nat_lit 8) = false → False))) ∧ (yIn (yInt (qNk E)) (Nat.succ (qNk E)) = false → False)) ∧ (yNeq (yNat (yInt (qNk E))) (yNat (yInt (qNk E))) = false → False)) ∧ (yIn (yInt (qNk E)) (Nat.succ (qNk E)) = false → False)) ∧ (yEq (qAt E) (2 : Int) = false → (yEq (qAt E) (3 : Int) = true → (yIn (yInt (qNv E)) (Nat.succ (qNv E)) = true → (yNeq (yNat (yInt (qNv E))) (yNat (yInt (qNv E))) = true → (yIn (yInt (qNv E)) (Nat.succ (qNv E)) = true → (yNeq 1 (nat_lit 0) = true → ((goalTkP_9 E) = true → ((yCol (CK.int IntKind.u64) (yNat (yInt (qNv E))) fun (i : Nat) => AV.y IntKind.u64 (qW E i)) = true → ((goalTkP_5 E) = true → ((goalTkP_6 E) = true → (prePl ls lt lf ll lp { h := qH E, v := qV E, n := qN E, kd := qKd E, ix := qIx E, key := qKey E, val := qVal E, at_ := qAt E, nb := qNb E, kn := qKn E, nk := qNk E, k := fun (i : Nat) => qK E i, vn := qVn E, nv := yNat (yInt (qNv E)), w := fun (i : Nat) => qW E i, lk := qLk E, wn := qWn E, nw := qNw E, wa := fun (i : Nat) => qWa E i, wb := fun (i : Nat) => qWb E i } = true → sp = sp ∧ sv = sv ∧ sn = sn ∧ si = si ∧ qH (tkE ls lt lf E got) = qH (goalTkP_3 ls lt lf E) ∧ qV (tkE ls lt lf E got) = qV (goalTkP_3 ls lt lf E) ∧ qN (tkE ls lt lf E got) = qN (goalTkP_3 ls lt lf E) ∧ inr = inr ∧ dp = dp ∧ ls = ls ∧ lt = lt ∧ lf = lf ∧ ll = ll ∧ lp = lp ∧ qKd (tkE ls lt lf E got) = qKd (goalTkP_3 ls lt lf E) ∧ qIx (tkE ls lt lf E got) = qIx (goalTkP_3 ls lt lf E) ∧ qKey (tkE ls lt lf E got) = qKey (goalTkP_3 ls lt lf E) ∧ qVal (tkE ls lt lf E got) = qVal (goalTkP_3 ls lt lf E) ∧ qAt (tkE ls lt lf E got) = qAt (goalTkP_3 ls lt lf E) ∧ outE E po got = po ∧ qNb (tkE ls lt lf E got) = qNb (goalTkP_3 ls lt lf E) ∧ (qKn (tkE ls lt lf E got) = qKn (goalTkP_3 ls lt lf E) ∧ qNk (tkE ls lt lf E got) = qNk (goalTkP_3 ls lt lf E) ∧ ∀ (i : Nat), Nat.succ i ≤ qNk (tkE ls lt lf E got) → qK (tkE ls lt lf E got) i = qK (goalTkP_3 ls lt lf E) i ∧ True) ∧ (qVn (tkE ls lt lf E got) = qVn (goalTkP_3 ls lt lf E) ∧ qNv (tkE ls lt lf E got) = qNv (goalTkP_3 ls lt lf E) ∧ ∀ (i : Nat), Nat.succ i ≤ qNv (tkE ls lt lf E got) → qW (tkE ls lt lf E got) i = qW (goalTkP_3 ls lt lf E) i ∧ True) ∧ qLk (tkE ls lt lf E got) = qLk (goalTkP_3 ls lt lf E) ∧ (qWn (tkE ls lt lf E got) = qWn (goalTkP_3 ls lt lf E) ∧ qNw (tkE ls lt lf E got) = qNw (goalTkP_3 ls lt lf E) ∧ ∀ (i : Nat), Nat.succ i ≤ qNw (tkE ls lt lf E got) → qWa (tkE ls lt lf E got) i = qWa (goalTkP_3 ls lt lf E) i ∧ qWb (tkE ls lt lf E got) i = qWb (goalTkP_3 ls lt lf E) i ∧ True) ∧ mkE E got = (0 : Int) ∧ maE E got = (0 : Int) ∧ (0 : Int) = (0 : Int) ∧ true = true) ∧ (prePl ls lt lf ll lp { h := qH E, v := qV E, n := qN E, kd := qKd E, ix := qIx E, key := qKey E, val := qVal E, at_ := qAt E, nb := qNb E, kn := qKn E, nk := qNk E, k := fun (i : Nat) => qK E i, vn := qVn E, nv := yNat (yInt (qNv E)), w := fun (i : Nat) => qW E i, lk := qLk E, wn := qWn E, nw := qNw E, wa := fun (i : Nat) => qWa E i, wb := fun (i : Nat) => qWb E i } = false → False)) ∧ ((goalTkP_6 E) = false → False)) ∧ ((goalTkP_5 E) = false → False)) ∧ ((yCol (CK.int IntKind.u64) (yNat (yInt (qNv E))) fun (i : Nat) => AV.y IntKind.u64 (qW E i)) = false → False)) ∧ ((goalTkP_9 E) = false → False)) ∧ (yNeq 1 (nat_lit 0) = false → (yGrow (yNadd (yNat (yInt (qNv E))) 1) (nat_lit 8) = true → ((goalTkP_9 E) = true → (yNle (yNadd 0 (yNadd (yNat (yInt (qNv E))) 1)) (yNadd (yNat (yInt (qNv E))) 1) = true → ((yCol (CK.int IntKind.u64) (yNadd (yNat (yInt (qNv E))) 1) fun (i : Nat) => AV.y IntKind.u64 (ySel (yNlt i (yNat (yInt (qNv E)))) (qW E i) got)) = true → ((goalTkP_5 E) = true → ((goalTkP_6 E) = true → (prePl ls lt lf ll lp { h := qH E, v := qV E, n := qN E, kd := qKd E, ix := qIx E, key := qKey E, val := qVal E, at_ := qAt E, nb := qNb E, kn := qKn E, nk := qNk E, k := fun (i : Nat) => qK E i, vn := false, nv := yNadd (yNat (yInt (qNv E))) 1, w := fun (i : Nat) => ySel (yNlt i (yNat (yInt (qNv E)))) (qW E i) got, lk := qLk E, wn := qWn E, nw := qNw E, wa := fun (i : Nat) => qWa E i, wb := fun (i : Nat) => qWb E i } = true → sp = sp ∧ sv = sv ∧ sn = sn ∧ si = si ∧ qH (tkE ls lt lf E got) = qH (goalTkP_1 ls lt lf E got) ∧ qV (tkE ls lt lf E got) = qV (goalTkP_1 ls lt lf E got) ∧ qN (tkE ls lt lf E got) = qN (goalTkP_1 ls lt lf E got) ∧ inr = inr ∧ dp = dp ∧ ls = ls ∧ lt = lt ∧ lf = lf ∧ ll = ll ∧ lp = lp ∧ qKd (tkE ls lt lf E got) = qKd (goalTkP_1 ls lt lf E got) ∧ qIx (tkE ls lt lf E got) = qIx (goalTkP_1 ls lt lf E got) ∧ qKey (tkE ls lt lf E got) = qKey (goalTkP_1 ls lt lf E got) ∧ qVal (tkE ls lt lf E got) = qVal (goalTkP_1 ls lt lf E got) ∧ qAt (tkE ls lt lf E got) = qAt (goalTkP_1 ls lt lf E got) ∧ outE E po got = po ∧ qNb (tkE ls lt lf E got) = qNb (goalTkP_1 ls lt lf E got) ∧ (qKn (tkE ls lt lf E got) = qKn (goalTkP_1 ls lt lf E got) ∧ qNk (tkE ls lt lf E got) = qNk (goalTkP_1 ls lt lf E got) ∧ ∀ (i : Nat), Nat.succ i ≤ qNk (tkE ls lt lf E got) → qK (tkE ls lt lf E got) i = qK (goalTkP_1 ls lt lf E got) i ∧ True) ∧ (qVn (tkE ls lt lf E got) = qVn (goalTkP_1 ls lt lf E got) ∧ qNv (tkE ls lt lf E got) = qNv (goalTkP_1 ls lt lf E got) ∧ ∀ (i : Nat), Nat.succ i ≤ qNv (tkE ls lt lf E got) → qW (tkE ls lt lf E got) i = qW (goalTkP_1 ls lt lf E got) i ∧ True) ∧ qLk (tkE ls lt lf E got) = qLk (goalTkP_1 ls lt lf E got) ∧ (qWn (tkE ls lt lf E got) = qWn (goalTkP_1 ls lt lf E got) ∧ qNw (tkE ls lt lf E got) = qNw (goalTkP_1 ls lt lf E got) ∧ ∀ (i : Nat), Nat.succ i ≤ qNw (tkE ls lt lf E got) → qWa (tkE ls lt lf E got) i = qWa (goalTkP_1 ls lt lf E got) i ∧ qWb (tkE ls lt lf E got) i = qWb (goalTkP_1 ls lt lf E got) i ∧ True) ∧ mkE E got = (0 : Int) ∧ maE E got = (0 : Int) ∧ (0 : Int) = (0 : Int) ∧ true = true) ∧ (prePl ls lt lf ll lp { h := qH E, v := qV E, n := qN E, kd := qKd E, ix := qIx E, key := qKey E, val := qVal E, at_ := qAt E, nb := qNb E, kn := qKn E, nk := qNk E, k := fun (i : Nat) => qK E i, vn := false, nv := yNadd (yNat (yInt (qNv E))) 1, w := fun (i : Nat) => ySel (yNlt i (yNat (yInt (qNv E)))) (qW E i) got, lk := qLk E, wn := qWn E, nw := qNw E, wa := fun (i : Nat) => qWa E i, wb := fun (i : Nat) => qWb E i } = false → False)) ∧ ((goalTkP_6 E) = false → False)) ∧ ((goalTkP_5 E) = false → False)) ∧ ((yCol (CK.int IntKind.u64) (yNadd (yNat (yInt (qNv E))) 1) fun (i : Nat) => AV.y IntKind.u64 (ySel (yNlt i (yNat (yInt (qNv E)))) (qW E i) got)) = false → False)) ∧ (yNle (yNadd 0 (yNadd (yNat (yInt (qNv E))) 1)) (yNadd (yNat (yInt (qNv E))) 1) = false → False)) ∧ ((goalTkP_9 E) = false → False)) ∧ (yGrow (yNadd (yNat (yInt (qNv E))) 1) (nat_lit 8) = false → False))) ∧ (yIn (yInt (qNv E)) (Nat.succ (qNv E)) = false → False)) ∧ (yNeq (yNat (yInt (qNv E))) (yNat (yInt (qNv E))) = false → False)) ∧ (yIn (yInt (qNv E)) (Nat.succ (qNv E)) = false → False)) ∧ (yEq (qAt E) (3 : Int) = false → (yEq (qAt E) (4 : Int) = true → (yIn 1 (Nat.succ (qNw E)) = true → (yEq (yInt (yNsub (qNw E) 1)) (0 : Int) = true → sp = sp ∧ sv = sv ∧ sn = sn ∧ si = si ∧ qH (tkE ls lt lf E got) = qH E ∧ qV (tkE ls lt lf E got) = qV E ∧ qN (tkE ls lt lf E got) = qN E ∧ inr = inr ∧ dp = dp ∧ ls = ls ∧ lt = lt ∧ lf = lf ∧ ll = ll ∧ lp = lp ∧ qKd (tkE ls lt lf E got) = qKd E ∧ qIx (tkE ls lt lf E got) = qIx E ∧ qKey (tkE ls lt lf E got) = qKey E ∧ qVal (tkE ls lt lf E got) = qVal E ∧ qAt (tkE ls lt lf E got) = (0 : Int) ∧ outE E po got = (1 : Int) ∧ qNb (tkE ls lt lf E got) = qNb E ∧ (goalTkP_7 ls lt lf E got) ∧ (goalTkP_8 ls lt lf E got) ∧ qLk (tkE ls lt lf E got) = qLk E ∧ (qWn (tkE ls lt lf E got) = qWn E ∧ qNw (tkE ls lt lf E got) = yNsub (qNw E) 1 ∧ ∀ (i : Nat), Nat.succ i ≤ qNw (tkE ls lt lf E got) → qWa (tkE ls lt lf E got) i = qWa E (yNadd 1 i) ∧ qWb (tkE ls lt lf E got) i = qWb E (yNadd 1 i) ∧ True) ∧ mkE E got = (12 : Int) ∧ maE E got = (0 : Int) ∧ (0 : Int) = (0 : Int) ∧ true = true) ∧ (yEq (yInt (yNsub (qNw E) 1)) (0 : Int) = false → sp = sp ∧ sv = sv ∧ sn = sn ∧ si = si ∧ qH (tkE ls lt lf E got) = qH E ∧ qV (tkE ls lt lf E got) = qV E ∧ qN (tkE ls lt lf E got) = qN E ∧ inr = inr ∧ dp = dp ∧ ls = ls ∧ lt = lt ∧ lf = lf ∧ ll = ll ∧ lp = lp ∧ qKd (tkE ls lt lf E got) = qKd E ∧ qIx (tkE ls lt lf E got) = qIx E ∧ qKey (tkE ls lt lf E got) = qKey E ∧ qVal (tkE ls lt lf E got) = qVal E ∧ qAt (tkE ls lt lf E got) = qAt E ∧ outE E po got = po ∧ qNb (tkE ls lt lf E got) = qNb E ∧ (goalTkP_7 ls lt lf E got) ∧ (goalTkP_8 ls lt lf E got) ∧ qLk (tkE ls lt lf E got) = qLk E ∧ (qWn (tkE ls lt lf E got) = qWn E ∧ qNw (tkE ls lt lf E got) = yNsub (qNw E) 1 ∧ ∀ (i : Nat), Nat.succ i ≤ qNw (tkE ls lt lf E got) → qWa (tkE ls lt lf E got) i = qWa E (yNadd 1 i) ∧ qWb (tkE ls lt lf E got) i = qWb E (yNadd 1 i) ∧ True) ∧ mkE E got = (0 : Int) ∧ maE E got = (0 : Int) ∧ (0 : Int) = (0 : Int) ∧ true = true)) ∧ (yIn 1 (Nat.succ (qNw E)) = false → False)) ∧ (yEq (qAt E) (4 : Int) = false → (yEq (qAt E) (5 : Int) = true → sp = sp ∧ sv = sv ∧ sn = sn ∧ si = si ∧ qH (tkE ls lt lf E got) = qH E ∧ qV (tkE ls lt lf E got) = qV E ∧ qN (tkE ls lt lf E got) = qN E ∧ inr = inr ∧ dp = dp ∧ ls = ls ∧ lt = lt ∧ lf = lf ∧ ll = ll ∧ lp = lp ∧ qKd (tkE ls lt lf E got) = qKd E ∧ qIx (tkE ls lt lf E got) = qIx E ∧ qKey (tkE ls lt lf E got) = qKey E ∧ qVal (tkE ls lt lf E got) = qVal E ∧ qAt (tkE ls lt lf E got) = (0 : Int) ∧ outE E po got = (3 : Int) ∧ qNb (tkE ls lt lf E got) = qNb E ∧ (goalTkP_7 ls lt lf E got) ∧ (goalTkP_8 ls lt lf E got) ∧ qLk (tkE ls lt lf E got) = qLk E ∧ (goalTkP_11 ls lt lf E got) ∧ mkE E got = (0 : Int) ∧ maE E got = (0 : Int) ∧ (0 : Int) = (0 : Int) ∧ true = true) ∧ (yEq (qAt E) (5 : Int) = false → sp = sp ∧ sv = sv ∧ sn = sn ∧ si = si ∧ qH (tkE ls lt lf E got) = qH E ∧ qV (tkE ls lt lf E got) = qV E ∧ qN (tkE ls lt lf E got) = qN E ∧ inr = inr ∧ dp = dp ∧ ls = ls ∧ lt = lt ∧ lf = lf ∧ ll = ll ∧ lp = lp ∧ qKd (tkE ls lt lf E got) = qKd E ∧ qIx (tkE ls lt lf E got) = qIx E ∧ qKey (tkE ls lt lf E got) = qKey E ∧ qVal (tkE ls lt lf E got) = qVal E ∧ qAt (tkE ls lt lf E got) = qAt E ∧ outE E po got = po ∧ qNb (tkE ls lt lf E got) = qNb E ∧ (goalTkP_7 ls lt lf E got) ∧ (goalTkP_8 ls lt lf E got) ∧ qLk (tkE ls lt lf E got) = qLk E ∧ (goalTkP_11 ls lt lf E got) ∧ mkE E got = (0 : Int) ∧ maE E got = (0 : Int) ∧ (0 : Int) = (0 : Int) ∧ true = true))))))
theorem goalTkP_eq : goalTkP = goalTkPV := by kernel_rfl
set_option maxHeartbeats 8000000 in
theorem goalTkP_vc : goalTkPV := by
 unfold goalTkPV goalTkP_11 goalTkP_10 goalTkP_9 goalTkP_8 goalTkP_7 goalTkP_6 goalTkP_5 goalTkP_4 goalTkP_3 goalTkP_2 goalTkP_1 goalTkP_0
 intro sp sv sn si inr dp ls lt lf ll lp E po mk ma mb got hE
 have hH : E.at_ ≠ 0 → E.at_ ≠ 4 → E.at_ ≠ 5 → ∀ X : EdS, X.h = E.h → X.v = E.v → (X.nk : Int) ≤ E.nk + 1 → (X.nv : Int) ≤ E.nv + 1 → prePl ls lt lf ll lp X = true := invE_pre hE
 have hq : E.at_ = qAt E := rfl
 by_cases a1 : E.at_ = 1
 · have hH := hH (by omega) (by omega) (by omega)
   have hB := invE_len hE (by omega) (by omega) (by omega)
   have e1 : qAt E = 1 := by omega
   by_cases g : got = 1
   · obtain ⟨o1, o2, o3⟩ := ou1 (po := po) a1 g
     simp only [vS, forall_const, tk1 a1 g, o1, o2, o3, eq_true e1, eq_true g]
     repeat' (first | apply And.intro | intro _)
     all_goals first
       | rfl
       | trivial
       | omega
       | exact hH _ rfl rfl (by simp only [qNk, yNat_e, yInt_e]; omega) (by simp only [qNv, yNat_e, yInt_e]; omega)
       | (rename_i h; refine absurd (h.symm.trans (hH _ rfl rfl ?_ ?_)) Bool.false_ne_true <;> first | omega | (simp only [qNk, qNv]; omega))
       | (trace_state; fail)
   · obtain ⟨o1, o2, o3⟩ := ou1n (po := po) a1 g
     simp only [vS, forall_const, tk1n a1 g, o1, o2, o3, eq_true e1, eq_false g]
     repeat' (first | apply And.intro | intro _)
     all_goals first
       | rfl
       | trivial
       | omega
       | exact hH _ rfl rfl (by simp only [qNk, yNat_e, yInt_e]; omega) (by simp only [qNv, yNat_e, yInt_e]; omega)
       | (rename_i h; refine absurd (h.symm.trans (hH _ rfl rfl ?_ ?_)) Bool.false_ne_true <;> first | omega | (simp only [qNk, qNv]; omega))
       | (trace_state; fail)
 by_cases a2 : E.at_ = 2
 · have hH := hH (by omega) (by omega) (by omega)
   have hB := invE_len hE (by omega) (by omega) (by omega)
   have e1 : ¬ qAt E = 1 := by omega
   have e2 : qAt E = 2 := by omega
   obtain ⟨o1, o2, o3⟩ := ou0 (po := po) (got := got) a1 (by omega) (by omega)
   have hT : tkE ls lt lf E got = rdE ls lt lf (nmE { E with kn := false, nk := E.nk + 1, k := fun i : Nat => ySel (yNlt i E.nk) (E.k i) got }) := by rw [tk2 a2, nm_k sn_P]
   simp only [vS, forall_const, hT, o1, o2, o3, eq_false e1, eq_true e2]
   repeat' (first | apply And.intro | intro _)
   all_goals first
     | rfl
     | trivial
     | omega
     | exact hH _ rfl rfl (by simp only [qNk, yNat_e, yInt_e]; omega) (by simp only [qNv, yNat_e, yInt_e]; omega)
     | (rename_i h; refine absurd (h.symm.trans (hH _ rfl rfl ?_ ?_)) Bool.false_ne_true <;> first | omega | (simp only [qNk, qNv]; omega))
     | (trace_state; fail)
 by_cases a3 : E.at_ = 3
 · have hH := hH (by omega) (by omega) (by omega)
   have hB := invE_len hE (by omega) (by omega) (by omega)
   have e1 : ¬ qAt E = 1 := by omega
   have e2 : ¬ qAt E = 2 := by omega
   have e3 : qAt E = 3 := by omega
   obtain ⟨o1, o2, o3⟩ := ou0 (po := po) (got := got) a1 (by omega) (by omega)
   have hT : tkE ls lt lf E got = rdE ls lt lf (nmE { E with vn := false, nv := E.nv + 1, w := fun i : Nat => ySel (yNlt i E.nv) (E.w i) got }) := by rw [tk3 a3, nm_w sn_P]
   simp only [vS, forall_const, hT, o1, o2, o3, eq_false e1, eq_false e2, eq_true e3]
   repeat' (first | apply And.intro | intro _)
   all_goals first
     | rfl
     | trivial
     | omega
     | exact hH _ rfl rfl (by simp only [qNk, yNat_e, yInt_e]; omega) (by simp only [qNv, yNat_e, yInt_e]; omega)
     | (rename_i h; refine absurd (h.symm.trans (hH _ rfl rfl ?_ ?_)) Bool.false_ne_true <;> first | omega | (simp only [qNk, qNv]; omega))
     | (trace_state; fail)
 clear hH
 have hw : E.at_ = 4 → 0 < E.nw ∧ E.nw ≤ 1000000 := fun a => by
   unfold invE at hE
   rw [decide_eq_true_iff] at hE
   rcases hE.2 with h | ⟨_, _, _, _, _, _, hst⟩
   · omega
   · omega
 by_cases a4 : E.at_ = 4
 · have hw := hw a4
   have e1 : ¬ qAt E = 1 := by omega
   have e2 : ¬ qAt E = 2 := by omega
   have e3 : ¬ qAt E = 3 := by omega
   have e4 : qAt E = 4 := by omega
   obtain ⟨o1, o2, o3⟩ := ou4 (po := po) (got := got) a4
   simp only [vS, forall_const, tk4 a4, o1, o2, o3, eq_false e1, eq_false e2, eq_false e3, eq_true e4]
   repeat' (first | apply And.intro | intro _)
   all_goals first
     | rfl
     | trivial
     | omega
     | (simp only [qNw] at *; omega)
     | exact if_pos (by simp only [qNw] at *; omega)
     | exact if_neg (by simp only [qNw] at *; omega)
     | exact (if_neg (by simp only [qNw] at *; omega)).trans (Eq.symm ‹qAt E = 4›)
     | (trace_state; fail)
 clear hw
 by_cases a5 : E.at_ = 5
 · have e1 : ¬ qAt E = 1 := by omega
   have e2 : ¬ qAt E = 2 := by omega
   have e3 : ¬ qAt E = 3 := by omega
   have e4 : ¬ qAt E = 4 := by omega
   have e5 : qAt E = 5 := by omega
   obtain ⟨o1, o2, o3⟩ := ou5 (po := po) (got := got) a5
   simp only [vS, forall_const, tk5 a5, o1, o2, o3, eq_false e1, eq_false e2, eq_false e3, eq_false e4, eq_true e5]
   repeat' (first | apply And.intro | intro _)
   all_goals first
     | rfl
     | trivial
     | omega
     | (simp only [qNw] at *; omega)
     | exact if_pos (by simp only [qNw] at *; omega)
     | exact if_neg (by simp only [qNw] at *; omega)
     | exact (if_neg (by simp only [qNw] at *; omega)).trans (Eq.symm ‹qAt E = 4›)
     | (trace_state; fail)
 · have e1 : ¬ qAt E = 1 := by omega
   have e2 : ¬ qAt E = 2 := by omega
   have e3 : ¬ qAt E = 3 := by omega
   have e4 : ¬ qAt E = 4 := by omega
   have e5 : ¬ qAt E = 5 := by omega
   obtain ⟨o1, o2, o3⟩ := ou0 (po := po) (got := got) a1 a4 a5
   simp only [vS, forall_const, tk0 ⟨a1, a2, a3, a4, a5⟩, o1, o2, o3, eq_false e1, eq_false e2, eq_false e3, eq_false e4, eq_false e5]
   repeat' (first | apply And.intro | intro _)
   all_goals first
     | rfl
     | trivial
     | omega
     | (simp only [qNw] at *; omega)
     | exact if_pos (by simp only [qNw] at *; omega)
     | exact if_neg (by simp only [qNw] at *; omega)
     | exact (if_neg (by simp only [qNw] at *; omega)).trans (Eq.symm ‹qAt E = 4›)
     | (trace_state; fail)
theorem goalTkP_tt : (goalTkP) = True := goalTkP_eq.trans (eq_true goalTkP_vc)
theorem goalTkP_ok : goalTkP := @ft' goalTkP goalTkP_tt
end Go.Proofs.YtinijejfhmcmdaaGreatDoor.Ex
end
section
namespace Go.Proofs.YtinijejfhmcmdaaGreatDoor.Ex
open Go
theorem lPl_ok (hm : Tryz.prog.follows .mixedOrders = true) : SmAll Tryz.prog lPl :=
 ⟨smSl16 hm @goalSl16_ok, smSl16 hm @goalSl16R_ok, smSetP hm @goalSetP_ok, smInsP hm @goalInsP_ok, smRemP hm @goalRemP_ok, trivial⟩
theorem smPlP (hm : Tryz.prog.follows .mixedOrders = true) : SmCall Tryz.prog 87 (fun args h => (ctX [sEdP] ownW fPlP args h).sel) :=
 ctX_ok hm (smL_ok (lPl_ok hm)) (fun ds r post h => by
   unfold fPlP at h
   split at h
   · rename_i sp sv sn si h v n inr dp ls lt lf ll lp kd ix key val at_ po nb kn nk k vn nv w lk wn nw wa wb mk ma mb
     simp only [Option.some.injEq, Prod.mk.injEq] at h
     obtain ⟨h1, rfl, rfl⟩ := h
     refine ⟨fun _ => none, 1000, ?_⟩
     have h2 := @goalPlP_ok
     unfold goalPlP at h2
     revert h1
     exact @h2 sp sv sn si inr dp ls lt lf ll lp ⟨h, v, n, kd, ix, key, val, at_, nb, kn, nk, k, vn, nv, w, lk, wn, nw, wa, wb⟩ po mk ma mb
   · cases h)
theorem lRd_ok (hm : Tryz.prog.follows .mixedOrders = true) : SmAll Tryz.prog lRd := ⟨smPlP hm, trivial⟩
theorem smRdP (hm : Tryz.prog.follows .mixedOrders = true) : SmCall Tryz.prog 46 (fun args h => (ctX [sEdP] sEdP fRdP args h).sel) :=
 ctX_ok hm (smL_ok (lRd_ok hm)) (fun ds r post h => by
   unfold fRdP at h
   split at h
   · rename_i sp sv sn si h v n inr dp ls lt lf ll lp kd ix key val at_ po nb kn nk k vn nv w lk wn nw wa wb mk ma mb
     simp only [Option.some.injEq, Prod.mk.injEq] at h
     obtain ⟨h1, rfl, rfl⟩ := h
     refine ⟨fun _ => none, 1000, ?_⟩
     have h2 := @goalRdP_ok
     unfold goalRdP at h2
     revert h1
     exact @h2 sp sv sn si inr dp ls lt lf ll lp ⟨h, v, n, kd, ix, key, val, at_, nb, kn, nk, k, vn, nv, w, lk, wn, nw, wa, wb⟩ po mk ma mb
   · cases h)
theorem smLockE (hm : Tryz.prog.follows .mixedOrders = true) : SmCall Tryz.prog 51 (fun args h => (ctS gW (fW lockC) args h).sel) := smW (f := 51) (F := lockC) hm @goalLock_ok
theorem lEd_ok (hm : Tryz.prog.follows .mixedOrders = true) : SmAll Tryz.prog lEd :=
 ⟨smSl16 hm @goalSl16_ok, smSl16 hm @goalSl16R_ok, smLockE hm, smVer hm, smL2 (f := 52) (F := keyC) hm @goalKey_ok, smVal hm, smVerR hm, smR2 (f := 39) (F := keyC) hm @goalKeyR_ok, smValR hm, smRdP hm, smHr hm @goalHr_ok, smHr hm @goalHrR_ok, smRight hm, trivial⟩
theorem smTkP (hm : Tryz.prog.follows .mixedOrders = true) : SmCall Tryz.prog 21 (fun args h => (ctX [sEdP, .sc] sEdP fTkP args h).sel) :=
 ctX_ok hm (smL_ok (lEd_ok hm)) (fun ds r post h => by
   unfold fTkP at h
   split at h
   · rename_i sp sv sn si h v n inr dp ls lt lf ll lp kd ix key val at_ po nb kn nk k vn nv w lk wn nw wa wb mk ma mb got
     simp only [Option.some.injEq, Prod.mk.injEq] at h
     obtain ⟨h1, rfl, rfl⟩ := h
     refine ⟨fun _ => none, 1000, ?_⟩
     have h2 := @goalTkP_ok
     unfold goalTkP at h2
     revert h1
     exact @h2 sp sv sn si inr dp ls lt lf ll lp ⟨h, v, n, kd, ix, key, val, at_, nb, kn, nk, k, vn, nv, w, lk, wn, nw, wa, wb⟩ po mk ma mb got
   · cases h)
theorem smWtP (hm : Tryz.prog.follows .mixedOrders = true) : SmCall Tryz.prog 23 (fun args h => (ctX [sEdP] rW4 fWtP args h).sel) :=
 ctX_ok hm (smL_ok (lEd_ok hm)) (fun ds r post h => by
   unfold fWtP at h
   split at h
   · rename_i sp sv sn si h v n inr dp ls lt lf ll lp kd ix key val at_ po nb kn nk k vn nv w lk wn nw wa wb mk ma mb
     simp only [Option.some.injEq, Prod.mk.injEq] at h
     obtain ⟨h1, rfl, rfl⟩ := h
     refine ⟨fun _ => none, 1000, ?_⟩
     have h2 := @goalWtP_ok
     unfold goalWtP at h2
     revert h1
     exact @h2 sp sv sn si inr dp ls lt lf ll lp ⟨h, v, n, kd, ix, key, val, at_, nb, kn, nk, k, vn, nv, w, lk, wn, nw, wa, wb⟩ po mk ma mb
   · cases h)
theorem smDnP (hm : Tryz.prog.follows .mixedOrders = true) : SmCall Tryz.prog 20 (fun args h => (ctX [sEdP] (.tup [.sc, .sc]) fDnP args h).sel) :=
 ctX_ok hm noSm_ok (fun ds r post h => by
   unfold fDnP at h
   split at h
   · rename_i sp sv sn si h v n inr dp ls lt lf ll lp kd ix key val at_ po nb kn nk k vn nv w lk wn nw wa wb mk ma mb
     simp only [Option.some.injEq, Prod.mk.injEq] at h
     obtain ⟨h1, rfl, rfl⟩ := h
     refine ⟨fun _ => none, 1000, ?_⟩
     have h2 := @goalDnP_ok
     unfold goalDnP at h2
     revert h1
     exact @h2 sp sv sn si inr dp ls lt lf ll lp ⟨h, v, n, kd, ix, key, val, at_, nb, kn, nk, k, vn, nv, w, lk, wn, nw, wa, wb⟩ po mk ma mb
   · cases h)
/-! Marks, and numbers, that are the same. -/
end Go.Proofs.YtinijejfhmcmdaaGreatDoor.Ex
end
section
namespace Go.Proofs.YtinijejfhmcmdaaGreatDoor.Ex
open Go
/-! New, where it goes, and where it does not. -/
abbrev E0 (h v n kd ix key val : Int) : EdS := ⟨h, v, n, kd, ix, key, val, 1, false, true, 0, fun _ => 0, true, 0, fun _ => 0, 0, true, 0, fun _ => 0, fun _ => 0⟩
def fLnT (ds : List Dx) : Option (Bool × Dx × List (List Dx)) :=
 match ds with
 | [.l [.v (.y .i64 s), .v (.y .i64 t), .v (.y .i64 f), .v (.y .i64 l), .v (.y .i64 p)]] => some (rightC s t f l p, dCf s t f l p, [])
 | _ => none
def fWrongT (ds : List Da) : Option (Bool × AV) :=
 match ds with
 | [.agg [.v (.y .i64 s), .v (.y .i64 t), .v (.y .i64 f), .v (.y .i64 l), .v (.y .i64 p)]] => some (rightC s t f l p, .i .i64 (-1))
 | _ => none
def fNwPT (ds : List Dx) : Option (Bool × Dx × List (List Dx)) :=
 match ds with
 | [.l [.v (.y .i64 ls), .v (.y .i64 lt), .v (.y .i64 lf), .v (.y .i64 ll), .v (.y .i64 lp)], .l [.v (.y .u64 sp), .v (.y .u64 sv), .v (.y .i64 sn), .v (.y .i64 si), .v (.y .u64 h), .v (.y .u64 v), .v (.y .i64 n), .v (.yb inr), .v (.y .i64 dp)], .l [.v (.y .i64 kd), .v (.y .i64 ix), .v (.y .u64 key), .v (.y .u64 val)]] =>
   some (yAnd (inU h) (okNw h n kd inr ls lf), dEdP sp sv sn si inr dp ls lt lf ll lp (E0 h v n kd ix key val) 0 0 0 0, [])
 | _ => none
structure EdI where
 e : EdS
 po : Int
 mq : Int
 mb : Int
 i : Nat
instance : Inhabited EdI := ⟨⟨default, 0, 0, 0, 0⟩⟩
def prEp (cs ct cf cl cp h : Int) (m : Nat) (x : EdI) : Prop :=
 x.i ≤ m + 1 ∧ invE cs ct cf cl cp x.e = true ∧ (x.e.at_ ≠ 0 → x.e.h = h) ∧ invO x.e x.po = true ∧ (x.e.at_ = 0 → x.po = 1 ∨ x.po = 3)
abbrev cellsX (s : Sx) (d : Dx) : List AV := match (canX nmI s d []).1 with | .agg vs => vs | _ => []
theorem invE_iff {cs ct cf cl cp : Int} {E : EdS} : invE cs ct cf cl cp E = true ↔ (inU E.h = true ∧ (E.at_ = 0 ∨ (rightC cs ct cf cl cp = true ∧ inU E.v = true ∧ (1 ≤ slotC E.h ∧ slotC E.h ≤ cs) ∧ E.nb = false ∧ (1 ≤ E.kd ∧ E.kd ≤ 3) ∧ (0 ≤ E.n ∧ E.n ≤ cf) ∧
   ((E.at_ = 1 ∧ E.nk = 0 ∧ E.nv = 0) ∨ (E.at_ = 2 ∧ (E.nk : Int) < E.n ∧ E.nv = 0) ∨ (E.at_ = 3 ∧ (E.nk : Int) = E.n ∧ (E.nv : Int) < E.n) ∨ (E.at_ = 4 ∧ 0 < E.nw ∧ E.nw ≤ 1000000 ∧ (E.kd = 2 ∨ (0 ≤ E.ix ∧ E.ix < E.nv))) ∨ E.at_ = 5)))) := decide_eq_true_iff
theorem plE_ok {cs ct cf : Int} {E : EdS} (h : rE (plE cs ct cf E) = false) : E.kd = 2 ∨ (0 ≤ E.ix ∧ E.ix < E.nv) := by
 unfold plE at h
 split at h
 · unfold setL at h
   split at h
   · rename_i hk; unfold setOk at hk; rw [decide_eq_true_iff] at hk; exact .inr hk.2.2.2
   · cases h
 · split at h
   · exact .inl ‹_›
   · unfold remL at h
     split at h
     · rename_i hk; unfold setOk at hk; rw [decide_eq_true_iff] at hk; exact .inr hk.2.2.2
     · cases h
theorem plE_len {cs ct cf : Int} {E : EdS} (h : E.nv ≤ 80) : rN (plE cs ct cf E) ≤ 1000000 := by
 unfold plE
 split
 · exact set_len
 · split
   · exact ins_len h
   · exact rem_len h
theorem rE_pos {l : List (Int × Int)} (h : rE l = false) : 0 < rN l := by cases l with | nil => cases h | cons a l => exact Nat.succ_pos _
theorem rd_inv {cs ct cf cl cp : Int} {E : EdS} (hr : rightC cs ct cf cl cp = true) (hh : inU E.h = true) (hv : inU E.v = true) (hs : 1 ≤ slotC E.h ∧ slotC E.h ≤ cs) (hb : E.nb = false) (hk : 1 ≤ E.kd ∧ E.kd ≤ 3) (hn : 0 ≤ E.n ∧ E.n ≤ cf)
   (h : ((E.nk : Int) < E.n ∧ E.nv = 0) ∨ ((E.nk : Int) = E.n ∧ (E.nv : Int) ≤ E.n)) : invE cs ct cf cl cp (rdE cs ct cf (nmE E)) = true ∧ (rdE cs ct cf (nmE E)).at_ ≠ 0 ∧ (rdE cs ct cf (nmE E)).h = E.h := by
 rw [invE_iff]
 have hc := rightC_iff.1 hr
 unfold rdE
 split
 · rename_i h1
   have h1 : (E.nk : Int) < E.n := h1
   exact ⟨⟨hh, .inr ⟨hr, hv, hs, hb, hk, hn, .inr (.inl ⟨rfl, h1, by show E.nv = 0; omega⟩)⟩⟩, by show (2 : Int) ≠ 0; omega, rfl⟩
 · rename_i h1
   have h1 : ¬ (E.nk : Int) < E.n := h1
   split
   · rename_i h2
     have h2 : (E.nv : Int) < E.n := h2
     exact ⟨⟨hh, .inr ⟨hr, hv, hs, hb, hk, hn, .inr (.inr (.inl ⟨rfl, by show (E.nk : Int) = E.n; omega, h2⟩))⟩⟩, by show (3 : Int) ≠ 0; omega, rfl⟩
   · rename_i h2
     cases hL : rE (plE cs ct cf (nmE E)) with
     | true => exact ⟨⟨hh, .inr ⟨hr, hv, hs, hb, hk, hn, .inr (.inr (.inr (.inr rfl)))⟩⟩, by show (5 : Int) ≠ 0; omega, rfl⟩
     | false =>
       have hl : rN (plE cs ct cf (nmE E)) ≤ 1000000 := plE_len (by show E.nv ≤ 80; omega)
       exact ⟨⟨hh, .inr ⟨hr, hv, hs, hb, hk, hn, .inr (.inr (.inr (.inl ⟨rfl, rE_pos hL, hl, plE_ok hL⟩)))⟩⟩, by show (4 : Int) ≠ 0; omega, rfl⟩
theorem invO_iff {E : EdS} {po : Int} : invO E po = true ↔ (E.at_ = 0 → po = 1 → E.kd = 2 ∨ (0 ≤ E.ix ∧ E.ix < E.nv)) := decide_eq_true_iff
theorem tk_inv {cs ct cf cl cp h : Int} {m : Nat} {x : EdI} {got : Int} (hx : prEp cs ct cf cl cp h m x) (hi : x.i + 1 ≤ m + 1) : prEp cs ct cf cl cp h m ⟨tkE cs ct cf x.e got, outE x.e x.po got, mkE x.e got, maE x.e got, x.i + 1⟩ := by
 obtain ⟨h1, h2, h3, h4, h5⟩ := hx
 obtain ⟨E, po, mq, mb, i⟩ := x
 simp only at h1 h2 h3 h4 h5 hi ⊢
 have h2' := h2
 rw [invE_iff] at h2'
 obtain ⟨hh, h2'⟩ := h2'
 by_cases a0 : E.at_ = 0
 · rw [tk0 (by omega)]
   obtain ⟨o1, _, _⟩ := ou0 (E := E) (po := po) (got := got) (by omega) (by omega) (by omega)
   rw [o1]
   exact ⟨hi, h2, h3, h4, h5⟩
 · rcases h2' with h0 | ⟨hr, hv, hs, hb, hk, hn, hst⟩
   · exact absurd h0 a0
   have hE := h3 a0
   by_cases a1 : E.at_ = 1
   · by_cases g : got = 1
     · rw [tk1 a1 g]
       obtain ⟨q1, q2, q3⟩ := rd_inv (ct := ct) (cl := cl) (cp := cp) hr hh hv hs hb hk hn (by omega)
       exact ⟨hi, q1, fun _ => q3.trans hE, invO_iff.2 fun e => absurd e q2, fun e => absurd e q2⟩
     · rw [tk1n a1 g, (ou1n a1 g).1]
       exact ⟨hi, invE_iff.2 ⟨hh, .inl rfl⟩, fun e => absurd rfl e, invO_iff.2 fun _ e => absurd (show (3 : Int) = 1 from e) (by omega), fun _ => .inr rfl⟩
   · by_cases a2 : E.at_ = 2
     · rw [tk2 a2]
       obtain ⟨q1, q2, q3⟩ := rd_inv (ct := ct) (cl := cl) (cp := cp) (E := { E with kn := false, nk := E.nk + 1, k := snocI E.nk E.k got }) hr hh hv hs hb hk hn (by show (((E.nk + 1 : Nat) : Int) < E.n ∧ E.nv = 0) ∨ (((E.nk + 1 : Nat) : Int) = E.n ∧ (E.nv : Int) ≤ E.n); omega)
       exact ⟨hi, q1, fun _ => q3.trans hE, invO_iff.2 fun e => absurd e q2, fun e => absurd e q2⟩
     · by_cases a3 : E.at_ = 3
       · rw [tk3 a3]
         obtain ⟨q1, q2, q3⟩ := rd_inv (ct := ct) (cl := cl) (cp := cp) (E := { E with vn := false, nv := E.nv + 1, w := snocI E.nv E.w got }) hr hh hv hs hb hk hn (by show ((E.nk : Int) < E.n ∧ E.nv + 1 = 0) ∨ ((E.nk : Int) = E.n ∧ ((E.nv + 1 : Nat) : Int) ≤ E.n); omega)
         exact ⟨hi, q1, fun _ => q3.trans hE, invO_iff.2 fun e => absurd e q2, fun e => absurd e q2⟩
       · by_cases a4 : E.at_ = 4
         · rw [tk4 a4, (ou4 a4).1]
           by_cases w : E.nw = 1
           · rw [if_pos w, if_pos w]
             exact ⟨hi, invE_iff.2 ⟨hh, .inl rfl⟩, fun e => absurd rfl e, invO_iff.2 fun _ _ => by show E.kd = 2 ∨ (0 ≤ E.ix ∧ E.ix < E.nv); omega, fun _ => .inl rfl⟩
           · rw [if_neg w, if_neg w]
             refine ⟨hi, invE_iff.2 ⟨hh, .inr ⟨hr, hv, hs, hb, hk, hn, .inr (.inr (.inr (.inl ⟨rfl, ?_, ?_, ?_⟩)))⟩⟩, fun _ => hE, invO_iff.2 fun e => absurd (show (4 : Int) = 0 from e) (by omega), fun e => absurd (show (4 : Int) = 0 from e) (by omega)⟩
             · show 0 < E.nw - 1; omega
             · show E.nw - 1 ≤ 1000000; omega
             · show E.kd = 2 ∨ (0 ≤ E.ix ∧ E.ix < E.nv); omega
         · have a5 : E.at_ = 5 := by omega
           rw [tk5 a5, (ou5 a5).1]
           exact ⟨hi, invE_iff.2 ⟨hh, .inl rfl⟩, fun e => absurd rfl e, invO_iff.2 fun _ e => absurd (show (3 : Int) = 1 from e) (by omega), fun _ => .inr rfl⟩
theorem e0_inv {cs ct cf cl cp h v n kd ix key val : Int} {inr : Bool} (m : Nat) (hh : inU h = true) (hv : inU v = true) (hr : rightC cs ct cf cl cp = true) (hk : okNw h n kd inr cs cf = true) : prEp cs ct cf cl cp h m ⟨E0 h v n kd ix key val, 0, 0, 0, 0⟩ := by
 obtain ⟨k1, k2, k3, k4, k5, k6⟩ := okNw_t.1 hk
 have k0 := hrC_t.1 k1
 exact ⟨Nat.zero_le _, invE_iff.2 ⟨hh, .inr ⟨hr, hv, ⟨k0.1, k0.2.1⟩, rfl, ⟨k2, k3⟩, ⟨k5, k6⟩, .inl ⟨rfl, rfl, rfl⟩⟩⟩, fun _ => rfl, invO_iff.2 fun e => absurd (show (1 : Int) = 0 from e) (by omega), fun e => absurd (show (1 : Int) = 0 from e) (by omega)⟩
end Go.Proofs.YtinijejfhmcmdaaGreatDoor.Ex
end
section
namespace Go.Proofs.YtinijejfhmcmdaaGreatDoor.Ex
open Go
def prFd (n i : Nat) : Prop := i ≤ n
def updW (w : Nat → Int) (a : Nat) (v : Int) (j : Nat) : Int := if j = a then v else w j
def spanW (w : Nat → Int) (b n : Nat) (f : Nat → Int) (j : Nat) : Int := if b ≤ j ∧ j < b + n then f (j - b) else w j
def lkC (s t f slot : Int) : Int := if 0 ≤ slot ∧ slot ≤ s then nodeC t f slot + 2 else -1
def nB (t f s : Int) : Nat := yNat (nodeC t f s)
def sizeN (s t f : Int) : Nat := yNat (sizeC s t f)
def putW (t f s : Int) (inner : Bool) (nk : Nat) (k : Nat → Int) (nv : Nat) (v : Nat → Int) (link : Int) (w : Nat → Int) : Nat → Int :=
 updW (updW (spanW (spanW w (nB t f s + 3) nk k) (nB t f s + 3 + yNat f) nv v) (nB t f s + 2) link) (nB t f s + 1) (packC inner nv)
abbrev mutU : Sx := .mut 25 [.int .u64]
abbrev ownU : Sx := .own 25 [.int .u64]
abbrev sNdP : Sx := .agg [.sc, plU, plU, .sc]
abbrev sNdR : Sx := .agg [.sc, roU, roU, .sc]
abbrev sNdO : Sx := .agg [.sc, ownU, ownU, .sc]
abbrev dNo (i kn : Bool) (nk : Nat) (k : Nat → Int) (vn : Bool) (nv : Nat) (v : Nat → Int) (l : Int) : Dx := .l [.v (.yb i), .rows kn nk [.int .u64 k], .rows vn nv [.int .u64 v], .v (.y .u64 l)]
abbrev arM (n : Nat) (w : Nat → Int) : AO := .arr false 25 1 n (colF [.int .u64 w])
abbrev slM (id n : Nat) : AV := .ysl false (yNeq n 0) id 1 0 n
def fSz (ds : List Da) : Option (Bool × AV) :=
 match ds with
 | [.agg [.v (.y .i64 s), .v (.y .i64 t), .v (.y .i64 f), .v (.y .i64 l), .v (.y .i64 p)]] => some (rightC s t f l p, .y .i64 (sizeC s t f))
 | _ => none
def fN8 (ds : List Da) : Option (Bool × AV) :=
 match ds with
 | [.agg [.v (.y .i64 s), .v (.y .i64 t), .v (.y .i64 f), .v (.y .i64 l), .v (.y .i64 p)], .cell (.v (.y .i64 slot))] => some (yAnd (rightC s t f l p) (yAnd (yLe 0 slot) (yLe slot (yAdd s 1))), .y .i64 (nodeC t f slot))
 | _ => none
def lMe0 : List (Nat × Sm) := [(5, .ct (ctS gConf fWrongT))]
def lMe : List (Nat × Sm) := [(12, .ct (ctS gL1 (fR1 verC))), (37, .ct (ctS gL1 (fR1 shapeC))), (38, .ct (ctS gL1 (fR1 lkC))), (39, .ct (ctS gL2 (fR2 keyC))), (35, .ct (ctS gL2 (fR2 valC))), (40, .ct (ctS gPk fPk)), (6, .ct (ctS gConf fSz))]
def goalSz : Prop := ∀ (s t f l p : Int), rightC s t f l p = true → wxF Tryz.prog (smL lMe0) (fun _ => none) 1000 6 (canA gConf (dConf s t f l p) []).1 (heapOf (canA gConf (dConf s t f l p) []).2) (fun v _ => cmpC (.y .i64 (sizeC s t f)) v)
def goalN8 : Prop := ∀ (s t f l p slot : Int), yAnd (rightC s t f l p) (yAnd (yLe 0 slot) (yLe slot (yAdd s 1))) = true → wxF Tryz.prog noSm (fun _ => none) 1000 27 (canA gL1 (dL1 s t f l p slot) []).1 (heapOf (canA gL1 (dL1 s t f l p slot) []).2) (fun v _ => cmpC (.y .i64 (nodeC t f slot)) v)
def goalLk8 : Prop := gR1goal Tryz.prog 38 lkC
def wordC (l d : Bool) (c g : Int) : Int := g % 16777216 * 1099511627776 + c % 274877906944 * 4 + (if d then 2 else 0) + (if l then 1 else 0)
abbrev gWd : List Ag := [.agg [none, none, none, none]]
abbrev dWd (l d : Bool) (c g : Int) : List Da := [.agg [.v (.yb l), .v (.yb d), .v (.y .u64 c), .v (.y .u64 g)]]
def fWd (ds : List Da) : Option (Bool × AV) :=
 match ds with
 | [.agg [.v (.yb l), .v (.yb d), .v (.y .u64 c), .v (.y .u64 g)]] => some (yAnd (inU c) (inU g), .y .u64 (wordC l d c g))
 | _ => none
def goalWd : Prop := ∀ (l d : Bool) (c g : Int), yAnd (inU c) (inU g) = true → wxF Tryz.prog noSm (fun _ => none) 1000 11 (canA gWd (dWd l d c g) []).1 (heapOf (canA gWd (dWd l d c g) []).2) (fun v _ => cmpC (.y .u64 (wordC l d c g)) v)
def new0 (s t f : Int) : Nat → Int := updW (updW (updW (fun _ => 0) (yNat (shapeC s t f 0)) 3) (yNat (valC s t f 0 0)) 65537) (yNat (verC s t f 1)) (wordC false false 0 1)
def newI (s t f : Int) : Nat → Nat → Int
 | 0 => new0 s t f
 | i + 1 => if ((2 + i : Nat) : Int) < s then updW (updW (newI s t f i) (yNat (verC s t f ((2 + i : Nat) : Int))) 2) (yNat (lkC s t f ((2 + i : Nat) : Int))) (((2 + i : Nat) : Int) + 1) else updW (newI s t f i) (yNat (verC s t f ((2 + i : Nat) : Int))) 2
def newW (s t f : Int) : Nat → Int := if 2 ≤ s then updW (newI s t f (yNat s - 1)) 2 2 else newI s t f (yNat s - 1)
def prNw (s : Int) (i : Nat) : Prop := (i : Int) + 1 ≤ s
def msNw (s : Int) (i : Nat) : Nat := yNat s - i
def annNw (s t f : Int) (b : Nat) : Option (St → LoopA) :=
 match b with
 | 0 => some fun z => { ι := Nat, tms := [4], tmU := fun i => [.y .i64 (yInt (yNadd 2 i))], ids := tmpId z.tm 3, hpU := fun i => [arM (sizeN s t f) (newI s t f i)], del := [], ex := 0, pre := prNw s, ms := msNw s }
 | _ => none
def lNw : List (Nat × Sm) := (11, .ct (ctS gWd fWd)) :: lMe
def goalNw : Prop := ∀ (s t f l p : Int), rightC s t f l p = true → wxP Tryz.prog (smL lNw) (annNw s t f) 9 [sConf] [dCf s t f l p] ownU (.rows false (sizeN s t f) [.int .u64 (newW s t f)]) []
def annPt (K V n nk nv : Nat) (k v w : Nat → Int) (b : Nat) : Option (St → LoopA) :=
 match b with
 | 0 => some fun _ => { ι := Nat, tms := [8], tmU := fun i => [.y .i64 (yInt i)], ids := [0], hpU := fun i => [arM n (spanW w K i k)], del := [], ex := 0, pre := prFd nk, ms := msFit nk }
 | 1 => some fun _ => { ι := Nat, tms := [9], tmU := fun i => [.y .i64 (yInt i)], ids := [0], hpU := fun i => [arM n (spanW (spanW w K nk k) V i v)], del := [], ex := 0, pre := prFd nv, ms := msFit nv }
 | _ => none
def prePt (s t f l p slot : Int) (n nk nv : Nat) : Bool := yAnd (rightC s t f l p) (yAnd (yAnd (yLe 0 slot) (yLe slot s)) (yAnd (yNeq n (sizeN s t f)) (yAnd (yLe (yInt nk) f) (yLe (yInt nv) f))))
def goalPt : Prop := ∀ (s t f l p slot : Int) (mn : Bool) (n : Nat) (w : Nat → Int) (i kn : Bool) (nk : Nat) (k : Nat → Int) (vn : Bool) (nv : Nat) (v : Nat → Int) (link : Int), prePt s t f l p slot n nk nv = true →
 wxP Tryz.prog (smL lMe) (annPt (yNadd (nB t f slot) 3) (yNadd (yNadd (nB t f slot) 3) (yNat f)) n nk nv k v w) 10 [sConf, mutU, .sc, sNdP] [dCf s t f l p, .rows mn n [.int .u64 w], .v (.y .i64 slot), dNo i kn nk k vn nv v link]
   (.tup []) (.l []) [[.rows mn n [.int .u64 (putW t f slot i nk k nv v link w)]]]
def doW (k a : Int) (old new : Int) (n : Nat) (w : Nat → Int) : Nat → Int := if 0 ≤ a ∧ a < (n : Int) ∧ (k = 2 ∨ k = 3 ∧ w (yNat a) = old) then updW w (yNat a) new else w
def doR (k a : Int) (old : Int) (n : Nat) (w : Nat → Int) : Int := if 0 ≤ a ∧ a < (n : Int) then (if k = 1 then w (yNat a) else if k = 3 ∧ w (yNat a) = old then 1 else 0) else 0
def goalDo : Prop := ∀ (mn : Bool) (n : Nat) (w : Nat → Int) (k a o v : Int), yNle n 1000000 = true →
 wxP Tryz.prog noSm (fun _ => none) 22 [mutU, rW4] [.rows mn n [.int .u64 w], .l [.v (.y .i64 k), .v (.y .i64 a), .v (.y .u64 o), .v (.y .u64 v)]]
   .sc (.v (.y .u64 (doR k a o n w))) [[.rows mn n [.int .u64 (doW k a o v n w)]]]
def goalCp : Prop := ∀ (mn : Bool) (n : Nat) (w : Nat → Int), yNle n 1000000 = true →
 wxP Tryz.prog noSm (fun _ => none) 16 [roU] [.rows mn n [.int .u64 w]] plU (.rows false n [.int .u64 w]) []
def entC (w f : Int) : Int := if f < 0 then 0 else if w / 2 % 256 > f then f else w / 2 % 256
def innC (w : Int) : Bool := decide (w % 2 = 1)
abbrev gEnt : List Ag := [.cell none, .cell none]
abbrev dEn (w f : Int) : List Da := [.cell (.v (.y .u64 w)), .cell (.v (.y .i64 f))]
def fEn (ds : List Da) : Option (Bool × AV) :=
 match ds with
 | [.cell (.v (.y .u64 w)), .cell (.v (.y .i64 f))] => some (inU w, .y .i64 (entC w f))
 | _ => none
def fIn (ds : List Da) : Option (Bool × AV) :=
 match ds with
 | [.cell (.v (.y .u64 w))] => some (inU w, .yb (innC w))
 | _ => none
def goalEn : Prop := ∀ (w f : Int), inU w = true → wxF Tryz.prog noSm (fun _ => none) 1000 55 (canA gEnt (dEn w f) []).1 (heapOf (canA gEnt (dEn w f) []).2) (fun v _ => cmpC (.y .i64 (entC w f)) v)
def goalIn : Prop := ∀ (w : Int), inU w = true → wxF Tryz.prog noSm (fun _ => none) 1000 56 (canA gW (dW w) []).1 (heapOf (canA gW (dW w) []).2) (fun v _ => cmpC (.yb (innC w)) v)
def ndS (t f s : Int) (w : Nat → Int) : Int := w (nB t f s + 1)
def ndI (t f s : Int) (w : Nat → Int) : Bool := innC (ndS t f s w)
def ndN (t f s : Int) (w : Nat → Int) : Nat := yNat (entC (ndS t f s w) f)
def ndM (b : Bool) (i : Nat) : Nat := if b then i - 1 else i
def ndK (t f s : Int) (w : Nat → Int) (j : Nat) : Int := w (nB t f s + 3 + j)
def ndVl (t f s : Int) (w : Nat → Int) (j : Nat) : Int := w (nB t f s + 3 + yNat f + j)
def ndL (t f s : Int) (w : Nat → Int) : Int := w (nB t f s + 2)
def annNd (t f s : Int) (w : Nat → Int) (b : Nat) : Option (St → LoopA) :=
 match b with
 | 0 => some fun z => { ι := Nat, tms := [10], tmU := fun i => [.y .i64 (yInt i)], ids := [3, z.h.nx, Nat.succ z.h.nx], hpU := fun i => [.cells [.yb (ndI t f s w), slM z.h.nx (ndM (ndI t f s w) i), slM (Nat.succ z.h.nx) i, .y .u64 (ndL t f s w)] 27 none, arM (ndM (ndI t f s w) i) (ndK t f s w), arM i (ndVl t f s w)], del := [], ex := 2, pre := prFd (ndN t f s w), ms := msFit (ndN t f s w) }
 | _ => none
def preNd (s t f l p slot : Int) (n : Nat) (w : Nat → Int) : Bool := yAnd (rightC s t f l p) (yAnd (yAnd (yLe 0 slot) (yLe slot s)) (yAnd (yNeq n (sizeN s t f)) (inU (ndS t f slot w))))
def lNd : List (Nat × Sm) := (55, .ct (ctS gEnt fEn)) :: (56, .ct (ctS gW fIn)) :: lMe
def goalNd : Prop := ∀ (s t f l p slot : Int) (mn : Bool) (n : Nat) (w : Nat → Int), preNd s t f l p slot n w = true →
 wxP Tryz.prog (smL lNd) (annNd t f slot w) 25 [sConf, roU, .sc] [dCf s t f l p, .rows mn n [.int .u64 w], .v (.y .i64 slot)]
   sNdP (dNo (ndI t f slot w) (yNeq (ndM (ndI t f slot w) (ndN t f slot w)) 0) (ndM (ndI t f slot w) (ndN t f slot w)) (ndK t f slot w) (yNeq (ndN t f slot w) 0) (ndN t f slot w) (ndVl t f slot w) (ndL t f slot w)) []
def eqW (n : Nat) (a : Nat → Int) (m : Nat) (b : Nat → Int) : Bool := decide (n = m ∧ ∀ j, j < n → a j = b j)
abbrev gWs : List Ag := [.cell cU, .cell cU]
abbrev dWs (an : Bool) (n : Nat) (a : Nat → Int) (bn : Bool) (m : Nat) (b : Nat → Int) : List Da := [.cell (.rows an n [.int .u64 a]), .cell (.rows bn m [.int .u64 b])]
def fWs (ds : List Da) : Option (Bool × AV) :=
 match ds with
 | [.cell (.rows _ n [.int .u64 a]), .cell (.rows _ m [.int .u64 b])] => some (yNle n 1000000, .yb (eqW n a m b))
 | _ => none
def prWs (n : Nat) (a b : Nat → Int) (i : Nat) : Prop := i ≤ n ∧ ∀ j, j < i → a j = b j
def annWs (n : Nat) (a b : Nat → Int) (k : Nat) : Option (St → LoopA) :=
 match k with
 | 0 => some fun _ => { ι := Nat, tms := [5], tmU := fun i => [.y .i64 (yInt i)], ids := [], hpU := fun _ => [], del := [], ex := 0, pre := prWs n a b, ms := msFit n }
 | _ => none
def goalWs : Prop := ∀ (an : Bool) (n : Nat) (a : Nat → Int) (bn : Bool) (m : Nat) (b : Nat → Int), yNle n 1000000 = true →
 wxF Tryz.prog noSm (annWs n a b) 1000 54 (canA gWs (dWs an n a bn m b) []).1 (heapOf (canA gWs (dWs an n a bn m b) []).2) (fun v _ => cmpC (.yb (eqW n a m b)) v)
abbrev gNN : List Ag := [.agg [none, cU, cU, none], .agg [none, cU, cU, none]]
abbrev dNN (i kn : Bool) (nk : Nat) (k : Nat → Int) (vn : Bool) (nv : Nat) (v : Nat → Int) (l : Int) (i' kn' : Bool) (nk' : Nat) (k' : Nat → Int) (vn' : Bool) (nv' : Nat) (v' : Nat → Int) (l' : Int) : List Da :=
 [.agg [.v (.yb i), .rows kn nk [.int .u64 k], .rows vn nv [.int .u64 v], .v (.y .u64 l)], .agg [.v (.yb i'), .rows kn' nk' [.int .u64 k'], .rows vn' nv' [.int .u64 v'], .v (.y .u64 l')]]
def fNN (ds : List Da) : Option (Bool × AV) :=
 match ds with
 | [.agg [.v (.yb i), .rows _ nk [.int .u64 k], .rows _ nv [.int .u64 v], .v (.y .u64 l)], .agg [.v (.yb i'), .rows _ nk' [.int .u64 k'], .rows _ nv' [.int .u64 v'], .v (.y .u64 l')]] =>
   some (yAnd (yNle nk 1000000) (yNle nv 1000000), .yb (yAnd (yIff i i') (yAnd (eqW nk k nk' k') (yAnd (eqW nv v nv' v') (yEq l l')))))
 | _ => none
def lWs : List (Nat × Sm) := [(54, .ct (ctS gWs fWs))]
def goalNN : Prop := ∀ (i kn : Bool) (nk : Nat) (k : Nat → Int) (vn : Bool) (nv : Nat) (v : Nat → Int) (l : Int) (i' kn' : Bool) (nk' : Nat) (k' : Nat → Int) (vn' : Bool) (nv' : Nat) (v' : Nat → Int) (l' : Int), yAnd (yNle nk 1000000) (yNle nv 1000000) = true →
 wxF Tryz.prog (smL lWs) (fun _ => none) 1000 24 (canA gNN (dNN i kn nk k vn nv v l i' kn' nk' k' vn' nv' v' l') []).1 (heapOf (canA gNN (dNN i kn nk k vn nv v l i' kn' nk' k' vn' nv' v' l') []).2) (fun u _ => cmpC (.yb (yAnd (yIff i i') (yAnd (eqW nk k nk' k') (yAnd (eqW nv v nv' v') (yEq l l'))))) u)
def atC (k : Nat → Int) (x : Int) : Nat → Nat
 | 0 => 0
 | n + 1 => atC k x n + if k n < x then 1 else 0
def isC (k : Nat → Int) (x : Int) : Nat → Bool
 | 0 => false
 | n + 1 => isC k x n || decide (k n = x)
theorem atC_le {k : Nat → Int} {x : Int} : ∀ n, atC k x n ≤ n
 | 0 => Nat.le_refl _
 | n + 1 => by have := atC_le (k := k) (x := x) n; unfold atC; split <;> omega
def annFd (n : Nat) (k : Nat → Int) (x : Int) (b : Nat) : Option (St → LoopA) :=
 match b with
 | 0 => some fun _ => { ι := Nat, tms := [6, 7, 8], tmU := fun i => [.y .i64 (yInt (atC k x i)), .yb (isC k x i), .y .i64 (yInt i)], ids := [], hpU := fun _ => [], del := [], ex := 0, pre := prFd n, ms := msFit n }
 | _ => none
def goalFd : Prop := ∀ (i kn : Bool) (nk : Nat) (k : Nat → Int) (vn : Bool) (nv : Nat) (v : Nat → Int) (l x : Int), yNle nk 1000000 = true →
 wxP Tryz.prog noSm (annFd nk k x) 13 [sNdR, .sc] [dNo i kn nk k vn nv v l, .v (.y .u64 x)] (.tup [.sc, .sc]) (.l [.v (.y .i64 (yInt (atC k x nk))), .v (.yb (isC k x nk))]) []
def fFd (ds : List Dx) : Option (Bool × Dx × List (List Dx)) :=
 match ds with
 | [.l [.v (.yb _), .rows _ nk [.int .u64 k], .rows _ _ [.int .u64 _], .v (.y .u64 _)], .v (.y .u64 x)] => some (yNle nk 1000000, .l [.v (.y .i64 (yInt (atC k x nk))), .v (.yb (isC k x nk))], [])
 | _ => none
def shfM (m : Nat) (k : Nat → Int) (j : Nat) : Int := k (m + j)
def joinF (n : Nat) (a b : Nat → Int) (j : Nat) : Int := if j < n then a j else b (j - n)
def ndIds (h : AH) (x : Nat) : List Nat := match h.get x with | some (.cells [_, .ysl _ _ a _ _ _, .ysl _ _ b _ _ _, _] _ _) => [a, b] | _ => []
def annCu (k w : Nat → Int) (l : Int) (a c : Nat) (b : Nat) : Option (St → LoopA) :=
 match b with
 | 0 => some fun z => { ι := Nat, tms := [10], tmU := fun d => [.y .i64 (yInt (yNadd a d))], ids := [4, z.h.nx, Nat.succ z.h.nx], hpU := fun d => [.cells [.b false, slM z.h.nx d, slM (Nat.succ z.h.nx) d, .y .u64 l] 27 none, arM d (shfM a k), arM d (shfM a w)], del := [], ex := 2, pre := prFd c, ms := msFit c }
 | _ => none
def goalCu : Prop := ∀ (i kn : Bool) (nk : Nat) (k : Nat → Int) (vn : Bool) (nv : Nat) (w : Nat → Int) (l l2 : Int) (a c : Nat), yNle nv 80 = true → yNeq nk nv = true → yNle (yNadd a c) nv = true →
 wxP Tryz.prog noSm (annCu k w l2 a c) 42 [sNdR, .sc, .sc, .sc] [dNo i kn nk k vn nv w l, .v (.y .i64 (yInt a)), .v (.y .i64 (yInt (yNadd a c))), .v (.y .u64 l2)] sNdO (dNo false (yNeq c 0) c (shfM a k) (yNeq c 0) c (shfM a w) l2) []
def fCu (ds : List Dx) : Option (Bool × Dx × List (List Dx)) :=
 match ds with
 | [.l [.v (.yb _), .rows _ nk [.int .u64 k], .rows _ nv [.int .u64 w], .v (.y .u64 _)], .v (.y .i64 a), .v (.y .i64 b), .v (.y .u64 l2)] =>
   some (yAnd (yNle nv 80) (yAnd (yNeq nk nv) (yAnd (yAnd (yLe 0 a) (yLe a b)) (yLe b (yInt nv)))), dNo false (yNeq (yNsub (yNat b) (yNat a)) 0) (yNsub (yNat b) (yNat a)) (shfM (yNat a) k) (yNeq (yNsub (yNat b) (yNat a)) 0) (yNsub (yNat b) (yNat a)) (shfM (yNat a) w) l2, [])
 | _ => none
def annJn (na : Nat) (ka wa kb wb : Nat → Int) (l : Int) (n : Nat) (b : Nat) : Option (St → LoopA) :=
 match b with
 | 0 => some fun z => { ι := Nat, tms := [8], tmU := fun d => [.y .i64 (yInt d)], ids := [9, z.h.nx, Nat.succ z.h.nx], hpU := fun d => [.cells [.b false, slM z.h.nx (yNadd na d), slM (Nat.succ z.h.nx) (yNadd na d), .y .u64 l] 27 none, arM (yNadd na d) (joinF na ka kb), arM (yNadd na d) (joinF na wa wb)], del := ndIds z.h 9, ex := 2, pre := prFd n, ms := msFit n }
 | _ => none
def lCu : List (Nat × Sm) := [(42, .ct (ctX [sNdR, .sc, .sc, .sc] sNdO fCu))]
def goalJn : Prop := ∀ (i kn : Bool) (na : Nat) (ka : Nat → Int) (vn : Bool) (wa : Nat → Int) (l : Int) (i' kn' : Bool) (n : Nat) (kb : Nat → Int) (vn' : Bool) (wb : Nat → Int) (l' l2 : Int), yAnd (yNle na 80) (yNle n 80) = true →
 wxP Tryz.prog (smL lCu) (annJn na (shfM 0 ka) (shfM 0 wa) kb wb l2 n) 41 [sNdR, sNdR, .sc] [dNo i kn na ka vn na wa l, dNo i' kn' n kb vn' n wb l', .v (.y .u64 l2)] sNdO
   (dNo false (yNeq (yNadd na n) 0) (yNadd na n) (joinF na ka kb) (yNeq (yNadd na n) 0) (yNadd na n) (joinF na wa wb) l2) []
def fJn (ds : List Dx) : Option (Bool × Dx × List (List Dx)) :=
 match ds with
 | [.l [.v (.yb _), .rows _ na [.int .u64 ka], .rows _ na' [.int .u64 wa], .v (.y .u64 _)], .l [.v (.yb _), .rows _ n [.int .u64 kb], .rows _ n' [.int .u64 wb], .v (.y .u64 _)], .v (.y .u64 l2)] =>
   some (yAnd (yAnd (yNle na 80) (yNle n 80)) (yAnd (yNeq na na') (yNeq n n')), dNo false (yNeq (yNadd na n) 0) (yNadd na n) (joinF na ka kb) (yNeq (yNadd na n) 0) (yNadd na n) (joinF na wa wb) l2, [])
 | _ => none
def putN (is : Bool) (n : Nat) : Nat := if is then n else n + 1
def putK (is : Bool) (ix : Nat) (x : Int) (k : Nat → Int) (j : Nat) : Int := if j < ix then k j else if j = ix then x else k (if is then j else j - 1)
def drN (is : Bool) (n : Nat) : Nat := if is then n - 1 else n
def drK (is : Bool) (ix : Nat) (k : Nat → Int) (j : Nat) : Int := if j < ix then k j else k (if is then j + 1 else j)
def lPu : List (Nat × Sm) := [(13, .ct (ctX [sNdR, .sc] (.tup [.sc, .sc]) fFd)), (42, .ct (ctX [sNdR, .sc, .sc, .sc] sNdO fCu)), (41, .ct (ctX [sNdR, sNdR, .sc] sNdO fJn))]
def goalPu : Prop := ∀ (i kn : Bool) (n : Nat) (k : Nat → Int) (vn : Bool) (w : Nat → Int) (l x y : Int) (ix : Nat) (is : Bool), yNle n 64 = true → ix = atC k x n → is = isC k x n → risesB k n = true →
 wxP Tryz.prog (smL lPu) (fun _ => none) 14 [sNdR, .sc, .sc] [dNo i kn n k vn n w l, .v (.y .u64 x), .v (.y .u64 y)] sNdP (dNo false (yNeq (putN is n) 0) (putN is n) (putK is ix x k) (yNeq (putN is n) 0) (putN is n) (putK is ix y w) l) []
def goalDr : Prop := ∀ (i kn : Bool) (n : Nat) (k : Nat → Int) (vn : Bool) (w : Nat → Int) (l x : Int) (ix : Nat) (is : Bool), yNle n 64 = true → ix = atC k x n → is = isC k x n → risesB k n = true →
 wxP Tryz.prog (smL lPu) (fun _ => none) 15 [sNdR, .sc] [dNo i kn n k vn n w l, .v (.y .u64 x)] sNdP (dNo false (yNeq (drN is n) 0) (drN is n) (drK is ix k) (yNeq (drN is n) 0) (drN is n) (drK is ix w) l) []
end Go.Proofs.YtinijejfhmcmdaaGreatDoor.Ex
end
