/- Contracts: num.form and gleaningref02.Form at the base 10 are a number's digits. -/
import Derived.Test.YtjelhmdkaemiiaaDoorSl
import Derived.Test.YtjelhmdkaemiiaaDoorWi
import Derived.Test.YtjelhmdkaemiiaaDoorProg
namespace Go.Proofs.YtjelhmdkaemiiaaDoor.Ex
open Go

-- OPEN dgU mI oL fm inU prF prG mF
def inU (n : Int) : Bool := yAnd (yLe 0 n) (yLt n 18446744073709551616)
def dgU (d : Int) : UInt8 := UInt8.ofNat (48 + d.toNat)
def mI (n : Int) (k : Nat) : Int := match k with
  | 0 => n
  | k + 1 => mI n k / 10
def oL (n : Int) (k : Nat) : List UInt8 := match k with
  | 0 => []
  | k + 1 => dgU (mI n k % 10) :: oL n k
def fmF : Nat → Int → List UInt8 → List UInt8
  | 0, _, acc => acc
  | k + 1, n, acc => bif decide (n / 10 = 0) then dgU (n % 10) :: acc else fmF k (n / 10) (dgU (n % 10) :: acc)
/-- A number's digits to the base 10. -/
def fm (n : Int) : List UInt8 := fmF 20 n []
def prF (n : Int) (k : Nat) : Prop := k < 20 ∧ fmF (20 - k) (mI n k) (oL n k) = fm n ∧ 0 ≤ mI n k ∧ mI n k < 10 ^ (20 - k)
def prG (n : Int) (k : Nat) : Prop := prF n k ∧ 0 < mI n k ∨ mI n k = 0 ∧ oL n k = fm n
def mF (k : Nat) : Nat := 20 - k
abbrev gForm : List Ag := [.cell none, .cell none]
abbrev dForm (n : Int) : List Da := [.cell (.v (.y .u64 n)), .cell (.v (.y .u64 10))]
def annForm (n : Int) (b : Nat) : Option (St → LoopA) :=
  match b with
  | 0 => some fun _ => { ι := Nat, tms := [0, 5], tmU := fun k => [.y .u64 (mI n k), .lst false (yNeq (yLen (oL n k)) 0) 1 (yLen (oL n k)) (fun i _ => .y .u8 (yByte (oL n k) i))], ids := [], hpU := fun _ => [], del := [], ex := 0, pre := prG n, ms := mF }
  | _ => none
def annFormR (n : Int) (b : Nat) : Option (St → LoopA) :=
  match b with
  | 0 => some fun _ => { ι := Nat, tms := [0, 5], tmU := fun k => [.y .u64 (mI n k), .ys (oL n k)], ids := [], hpU := fun _ => [], del := [], ex := 0, pre := prF n, ms := mF }
  | _ => none
def fForm (ds : List Da) : Option (Bool × AV) :=
  match ds with
  | [.cell (.v (.y .u64 n)), .cell (.v (.y .u64 b))] => some (yAnd (yEq b 10) (inU n), .ys (fm n))
  | _ => none
def goalForm : Prop := ∀ (n : Int), inU n = true → wxF Tryd.prog noSm (annForm n) 1000 47 (canA gForm (dForm n) []).1 (heapOf (canA gForm (dForm n) []).2) (fun v _ => cmpC (.ys (fm n)) v)
def goalFormR : Prop := ∀ (n : Int), inU n = true → wxF Tryd.prog noSm (annFormR n) 1000 20 (canA gForm (dForm n) []).1 (heapOf (canA gForm (dForm n) []).2) (fun v _ => cmpC (.ys (fm n)) v)
def hexL : List UInt8 := [48, 49, 50, 51, 52, 53, 54, 55, 56, 57, 97, 98, 99, 100, 101, 102]
theorem ten {r : Int} (h0 : 0 ≤ r) (h1 : r < 10) : r = 0 ∨ r = 1 ∨ r = 2 ∨ r = 3 ∨ r = 4 ∨ r = 5 ∨ r = 6 ∨ r = 7 ∨ r = 8 ∨ r = 9 := by omega
theorem hex_byte {r : Int} (h0 : 0 ≤ r) (h1 : r < 10) : yByte hexL (yNat r) = yByte [dgU r] 0 := by
  rcases ten h0 h1 with rfl | rfl | rfl | rfl | rfl | rfl | rfl | rfl | rfl | rfl <;> rfl
theorem hex_slice {r : Int} (h0 : 0 ≤ r) (h1 : r < 10) : ySlice hexL (yNat r) (yNat (r + 1)) = [dgU r] := by
  rcases ten h0 h1 with rfl | rfl | rfl | rfl | rfl | rfl | rfl | rfl | rfl | rfl <;> rfl
theorem hex_len : yLen hexL = 16 := rfl
theorem fmF_step {k : Nat} {m : Int} {o : List UInt8} (h : 0 < k) : fmF k m o = bif decide (m / 10 = 0) then dgU (m % 10) :: o else fmF (k - 1) (m / 10) (dgU (m % 10) :: o) := by
  cases k with
  | zero => omega
  | succ k => rfl
theorem oL_len (n : Int) : ∀ k, (oL n k).length = k
  | 0 => rfl
  | k + 1 => by simp [oL, oL_len n k]
/-- A round. -/
theorem prF_step {n : Int} {k : Nat} (h : prF n k) : (mI n k / 10 = 0 → fm n = oL n (k + 1)) ∧ (mI n k / 10 ≠ 0 → prF n (k + 1) ∧ mF (k + 1) < mF k) := by
  obtain ⟨h1, h2, h3, h4⟩ := h
  rw [fmF_step (by omega)] at h2
  refine ⟨fun e => ?_, fun e => ?_⟩
  · rw [decide_eq_true e, cond_true] at h2; rw [← h2]; rfl
  · rw [decide_eq_false e, cond_false] at h2
    have hk : k + 1 < 20 := by
      by_cases hk : k = 19
      · subst hk
        have h5 : mI n 19 < 10 := h4
        omega
      · omega
    have h10 : (10 : Int) ^ (20 - k) = 10 ^ (20 - (k + 1)) * 10 := by
      rw [← Int.pow_succ]; congr 1; omega
    refine ⟨⟨hk, by rw [show 20 - (k + 1) = 20 - k - 1 by omega]; exact h2, ?_, ?_⟩, by unfold mF; omega⟩
    · show 0 ≤ mI n k / 10; omega
    · show mI n k / 10 < 10 ^ (20 - (k + 1))
      rw [h10] at h4
      generalize (10 : Int) ^ (20 - (k + 1)) = X at h4
      omega
theorem prF_zero {n : Int} (h : inU n = true) : prF n 0 := by
  simp only [inU, yAnd_t, yLe_t, yLt_t] at h
  refine ⟨by omega, rfl, h.1, ?_⟩
  show n < 100000000000000000000
  omega
theorem mI_lt {n : Int} (h : inU n = true) : ∀ k, 0 ≤ mI n k ∧ mI n k < 18446744073709551616
  | 0 => by simp only [inU, yAnd_t, yLe_t, yLt_t] at h; exact h
  | k + 1 => by
    have := mI_lt h k
    show 0 ≤ mI n k / 10 ∧ mI n k / 10 < _
    omega
theorem yQuo10 {m : Int} (h0 : 0 ≤ m) (h1 : m < 18446744073709551616) : yQuo .u64 m 10 = m / 10 := by
  unfold yQuo
  rw [Int.tdiv_eq_ediv_of_nonneg h0]
  unfold IntKind.wrap
  simp [IntKind.bits, IntKind.signed]
  omega
theorem yRem10 {m : Int} (h0 : 0 ≤ m) : yRem m 10 = m % 10 := by
  unfold yRem
  exact Int.tmod_eq_emod_of_nonneg h0
theorem yStr_bytes (l : List UInt8) (f : Nat → Nat → AV) (n : Nat) (hn : n = l.length) (h : ∀ i, i < n → f i 0 = .y .u8 (yByte l i)) : yStr n f = l ∧ yU8 n f = true := by
  subst hn
  constructor
  · unfold yStr
    apply List.ext_getElem?
    intro i
    by_cases hi : i < l.length
    · rw [List.getElem?_map, List.getElem?_range hi, Option.map_some, h i hi, List.getElem?_eq_getElem hi]
      simp [byteA, yI, yByte, hi]
    · rw [List.getElem?_eq_none (by simp; omega), List.getElem?_eq_none (by omega)]
  · unfold yU8
    rw [List.all_eq_true]
    intro i hi
    rw [h i (List.mem_range.1 hi)]
    rfl
set_option maxRecDepth 100000 in
theorem goalForm_eq : goalForm = (∀ (n : Int), inU n = true → (yEq n (0 : Int) = true → fm n = [(48 : UInt8)]) ∧ (yEq n (0 : Int) = false → true = true ∧ (∃ (i0 : Nat), prG n i0 ∧ true = true ∧ mI n i0 = n ∧ yNeq (yLen (oL n i0)) (nat_lit 0) = true ∧ yLen (oL n i0) = nat_lit 0 ∧ true = true) ∧ ∀ (_ : Nat → AV) (i : Nat), prG n i → (yLt (0 : Int) (mI n i) = true → (yEq (10 : Int) (0 : Int) = true → False) ∧ (yEq (10 : Int) (0 : Int) = false → (yIn (yRem (mI n i) (10 : Int)) (yLen hexL) = true → (yNeq (yLen (oL n i)) (nat_lit 0) = true → (yEq (10 : Int) (0 : Int) = true → False) ∧ (yEq (10 : Int) (0 : Int) = false → true = true ∧ ∃ (i' : Nat), prG n i' ∧ Nat.succ (mF i') ≤ mF i ∧ true = true ∧ mI n i' = yQuo IntKind.u64 (mI n i) (10 : Int) ∧ yNeq (yLen (oL n i')) (nat_lit 0) = false ∧ yLen (oL n i') = nat_lit 1 ∧ ((yByte (oL n i') (nat_lit 0) = yByte hexL (yNat (yRem (mI n i) (10 : Int))) ∧ True) ∧ True) ∧ true = true)) ∧ (yNeq (yLen (oL n i)) (nat_lit 0) = false → (yGrow (yNadd (nat_lit 1) (yLen (oL n i))) (nat_lit 1) = true → (yEq (10 : Int) (0 : Int) = true → False) ∧ (yEq (10 : Int) (0 : Int) = false → true = true ∧ ∃ (i' : Nat), prG n i' ∧ Nat.succ (mF i') ≤ mF i ∧ true = true ∧ mI n i' = yQuo IntKind.u64 (mI n i) (10 : Int) ∧ yNeq (yLen (oL n i')) (nat_lit 0) = false ∧ yLen (oL n i') = yNadd (nat_lit 1) (yLen (oL n i)) ∧ yNadd (nat_lit 0) (yNadd (nat_lit 1) (yLen (oL n i))) ≤ yNadd (nat_lit 1) (yLen (oL n i)) ∧ (∀ (i_1 : Nat), Nat.succ i_1 ≤ yLen (oL n i') → yByte (oL n i') i_1 = ySel (yNlt (yNadd (nat_lit 0) i_1) (nat_lit 1)) (yByte hexL (yNat (yRem (mI n i) (10 : Int)))) (yByte (oL n i) (yNadd (nat_lit 0) (yNsub (yNadd (nat_lit 0) i_1) (nat_lit 1)))) ∧ True) ∧ true = true)) ∧ (yGrow (yNadd (nat_lit 1) (yLen (oL n i))) (nat_lit 1) = false → False))) ∧ (yIn (yRem (mI n i) (10 : Int)) (yLen hexL) = false → False))) ∧ (yLt (0 : Int) (mI n i) = false → ((yU8 (yLen (oL n i)) fun (i_1 j : Nat) => AV.y IntKind.u8 (yByte (oL n i) (yNadd (nat_lit 0) i_1))) = true → fm n = yStr (yLen (oL n i)) fun (i_1 j : Nat) => AV.y IntKind.u8 (yByte (oL n i) (yNadd (nat_lit 0) i_1))) ∧ ((yU8 (yLen (oL n i)) fun (i_1 j : Nat) => AV.y IntKind.u8 (yByte (oL n i) (yNadd (nat_lit 0) i_1))) = false → False)))) := by kernel_rfl
set_option maxRecDepth 100000 in
theorem goalFormR_eq : goalFormR = (∀ (n : Int), inU n = true → true = true ∧ (∃ (i0 : Nat), prF n i0 ∧ true = true ∧ mI n i0 = n ∧ oL n i0 = [] ∧ true = true) ∧ ∀ (_ : Nat → AV) (i : Nat), prF n i → (yEq (10 : Int) (0 : Int) = true → False) ∧ (yEq (10 : Int) (0 : Int) = false → (yIn (yWrap IntKind.i64 (yAdd (yWrap IntKind.i64 (yRem (mI n i) (10 : Int))) (1 : Int))) (Nat.succ (yLen hexL)) = true → (yIn (yWrap IntKind.i64 (yRem (mI n i) (10 : Int))) (Nat.succ (yNat (yWrap IntKind.i64 (yAdd (yWrap IntKind.i64 (yRem (mI n i) (10 : Int))) (1 : Int))))) = true → (yNle (yNadd (yLen (ySlice hexL (yNat (yWrap IntKind.i64 (yRem (mI n i) (10 : Int)))) (yNat (yWrap IntKind.i64 (yAdd (yWrap IntKind.i64 (yRem (mI n i) (10 : Int))) (1 : Int)))))) (yLen (oL n i))) (nat_lit 9223372036854775807) = true → (yEq (10 : Int) (0 : Int) = true → False) ∧ (yEq (10 : Int) (0 : Int) = false → (yEq (yQuo IntKind.u64 (mI n i) (10 : Int)) (0 : Int) = true → fm n = yCat (ySlice hexL (yNat (yWrap IntKind.i64 (yRem (mI n i) (10 : Int)))) (yNat (yWrap IntKind.i64 (yAdd (yWrap IntKind.i64 (yRem (mI n i) (10 : Int))) (1 : Int))))) (oL n i)) ∧ (yEq (yQuo IntKind.u64 (mI n i) (10 : Int)) (0 : Int) = false → true = true ∧ ∃ (i' : Nat), prF n i' ∧ Nat.succ (mF i') ≤ mF i ∧ true = true ∧ mI n i' = yQuo IntKind.u64 (mI n i) (10 : Int) ∧ oL n i' = yCat (ySlice hexL (yNat (yWrap IntKind.i64 (yRem (mI n i) (10 : Int)))) (yNat (yWrap IntKind.i64 (yAdd (yWrap IntKind.i64 (yRem (mI n i) (10 : Int))) (1 : Int))))) (oL n i) ∧ true = true))) ∧ (yNle (yNadd (yLen (ySlice hexL (yNat (yWrap IntKind.i64 (yRem (mI n i) (10 : Int)))) (yNat (yWrap IntKind.i64 (yAdd (yWrap IntKind.i64 (yRem (mI n i) (10 : Int))) (1 : Int)))))) (yLen (oL n i))) (nat_lit 9223372036854775807) = false → False)) ∧ (yIn (yWrap IntKind.i64 (yRem (mI n i) (10 : Int))) (Nat.succ (yNat (yWrap IntKind.i64 (yAdd (yWrap IntKind.i64 (yRem (mI n i) (10 : Int))) (1 : Int))))) = false → False)) ∧ (yIn (yWrap IntKind.i64 (yAdd (yWrap IntKind.i64 (yRem (mI n i) (10 : Int))) (1 : Int))) (Nat.succ (yLen hexL)) = false → False))) := by kernel_rfl
set_option maxRecDepth 100000 in
theorem goalFormR_ok : goalFormR := by
  refine kernel_go goalFormR_eq ?_
  intro n hn
  simp only [yRem10 (mI_lt hn _).1, yQuo10 (mI_lt hn _).1 (mI_lt hn _).2, hex_len, yEq_t, yEq_f, yIn_t, yIn_f, yNle_t, yNle_f, yNadd_e, yAdd_e, true_and, and_true]
  refine ⟨⟨0, prF_zero hn, rfl, rfl⟩, fun _ i hi => ?_⟩
  obtain ⟨hm0, hm1⟩ := mI_lt hn i
  have hr0 : 0 ≤ mI n i % 10 := by omega
  have hr1 : mI n i % 10 < 10 := by omega
  have e1 : yWrap .i64 (mI n i % 10) = mI n i % 10 := wrap64 (by omega) (by omega)
  have e2 : yWrap .i64 (mI n i % 10 + 1) = mI n i % 10 + 1 := wrap64 (by omega) (by omega)
  obtain ⟨s1, s2⟩ := prF_step hi
  have hl := oL_len n i
  have hi2 : i < 20 := hi.1
  simp only [e1, e2, hex_slice hr0 hr1, ]
  have hN : ((yNat (mI n i % 10 + 1)).succ : Int) = mI n i % 10 + 2 := by unfold yNat; omega
  have hL1 : yLen [dgU (mI n i % 10)] = 1 := rfl
  have hL2 : yLen (oL n i) = i := hl
  rw [hN, hL1, hL2]
  repeat' (first | apply And.intro | intro _)
  all_goals first | omega | exact s1 (by assumption) | (have e := s2 (by assumption); exact ⟨i + 1, e.1, e.2, rfl, rfl⟩)
set_option maxRecDepth 100000 in
theorem goalForm_ok : goalForm := by
  refine kernel_go goalForm_eq ?_
  intro n hn
  simp only [yRem10 (mI_lt hn _).1, yQuo10 (mI_lt hn _).1 (mI_lt hn _).2, hex_len, yEq_t, yEq_f, yLt_t, yLt_f, yIn_t, yIn_f, yNeq_t, yNeq_f, yGrow_t, yGrow_f, yNadd_e, yNsub_e, true_and, and_true, Nat.zero_add, Nat.le_refl]
  refine ⟨fun e => by subst e; rfl, fun e0 => ⟨⟨0, .inl ⟨prF_zero hn, ?_⟩, rfl, rfl, rfl⟩, fun _ i hi => ?_⟩⟩
  · simp only [inU, yAnd_t, yLe_t, yLt_t] at hn
    show 0 < n
    omega
  obtain ⟨hm0, hm1⟩ := mI_lt hn i
  have hr0 : 0 ≤ mI n i % 10 := by omega
  have hr1 : mI n i % 10 < 10 := by omega
  have hl := oL_len n i
  have hL2 : yLen (oL n i) = i := hl
  simp only [hex_byte hr0 hr1, hL2, ]
  have hby : ∀ (x : UInt8) (l : List UInt8) (j : Nat), yByte (x :: l) j = ySel (yNlt j 1) (yByte [x] 0) (yByte l (j - 1)) := fun x l j => by
    cases j with
    | zero => rfl
    | succ j => simp [ySel, yNlt, yByte]
  refine ⟨fun hpos => ?_, fun hle => ?_⟩
  · rcases hi with ⟨h1, _⟩ | ⟨h1, _⟩
    case inr => omega
    obtain ⟨s1, s2⟩ := prF_step h1
    have hi2 : i < 20 := h1.1
    have hG : prG n (i + 1) ∧ (mF (i + 1)).succ ≤ mF i := by
      refine ⟨?_, by unfold mF; omega⟩
      by_cases e : mI n i / 10 = 0
      · exact .inr ⟨e, (s1 e).symm⟩
      · exact .inl ⟨(s2 e).1, by show 0 < mI n i / 10; omega⟩
    have hL3 : yLen (oL n (i + 1)) = i + 1 := oL_len n (i + 1)
    refine ⟨by omega, fun _ => ⟨fun _ => ⟨fun h0 => ⟨by omega, fun _ => ⟨i + 1, hG.1, hG.2, rfl, by omega, by omega, by subst h0; rfl⟩⟩, fun h0 => ⟨fun _ => ⟨by omega, fun _ => ⟨i + 1, hG.1, hG.2, rfl, by omega, by omega, fun j _ => hby _ _ j⟩⟩, by omega⟩⟩, fun h => h ⟨by omega, by omega⟩⟩⟩
  · rcases hi with ⟨_, h1⟩ | ⟨_, h1⟩
    case inl => omega
    obtain ⟨t1, t2⟩ := yStr_bytes (oL n i) (fun i_1 _ => AV.y IntKind.u8 (yByte (oL n i) i_1)) i hl.symm (fun _ _ => rfl)
    rw [t1, t2]
    exact ⟨fun _ => h1.symm, fun h => by cases h⟩
theorem smForm (hm : Tryd.prog.follows .mixedOrders = true) : SmCall Tryd.prog 47 (fun args h => (ctS gForm fForm args h).sel) :=
  ctS_ok hm noSm_ok (by decide) (fun ds a h => by
    unfold fForm at h
    split at h
    · rename_i n b
      simp only [Option.some.injEq, Prod.mk.injEq] at h
      obtain ⟨h1, rfl⟩ := h
      simp only [yAnd_t, yEq_t] at h1
      obtain ⟨rfl, h2⟩ := h1
      exact ⟨_, 1000, @goalForm_ok n h2⟩
    · cases h)
theorem smFormR (hm : Tryd.prog.follows .mixedOrders = true) : SmCall Tryd.prog 20 (fun args h => (ctS gForm fForm args h).sel) :=
  ctS_ok hm noSm_ok (by decide) (fun ds a h => by
    unfold fForm at h
    split at h
    · rename_i n b
      simp only [Option.some.injEq, Prod.mk.injEq] at h
      obtain ⟨h1, rfl⟩ := h
      simp only [yAnd_t, yEq_t] at h1
      obtain ⟨rfl, h2⟩ := h1
      exact ⟨_, 1000, @goalFormR_ok n h2⟩
    · cases h)
end Go.Proofs.YtjelhmdkaemiiaaDoor.Ex
