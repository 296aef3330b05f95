/- Contracts off the shelf: strings.Index, strings.Count (of one byte), strings.IndexByte (no CutPrefix). Contract off the shelf: strings.Split at one byte, where the number of the pieces is known. Plain: a number's digits are read back. Contract: num.reader's closure at the base 10 reads a canonical number. Contract: num.Parse reads a canonical number. Plain: an entry's line is cut into its words; lines are cut into lines; what an entry is, read back off its line. -/
import Derived.Test.YtjelhmdkaemiiaaDoorShf
import Derived.Test.YtjelhmdkaemiiaaDoorSb
import Derived.Test.YtjelhmdkaemiiaaDoorSl
import Derived.Shelf.Strings.Split
import Derived.Test.YtjelhmdkaemiiaaDoorCInt
import Derived.Test.YtjelhmdkaemiiaaDoorWo
import Derived.Test.YtjelhmdkaemiiaaDoorWi
import Derived.Test.YtjelhmdkaemiiaaDoorCLine
namespace Go.Proofs.YtjelhmdkaemiiaaDoor.Ex
open Go Go.RowKit

-- OPEN idxB cntB u8Of
def idxB (s : List UInt8) (c : UInt8) : Int := Lib.indexByte s c
def cntB (s : List UInt8) (c : UInt8) : Int := (Lib.countByte s c : Nat)
def u8Of (c : Int) : UInt8 := c.toNat.toUInt8
abbrev gS2 : List Ag := [.cell none, .cell none]
def fIdx (ds : List Da) : Option (Bool × AV) :=
  match ds with
  | [.cell (.v (.ys s)), .cell (.v (.ys [c]))] => some (true, .y .i64 (idxB s c))
  | _ => none
def fCnt (ds : List Da) : Option (Bool × AV) :=
  match ds with
  | [.cell (.v (.ys s)), .cell (.v (.ys [c]))] => some (true, .y .i64 (cntB s c))
  | _ => none
def fIby (ds : List Da) : Option (Bool × AV) :=
  match ds with
  | [.cell (.v (.ys s)), .cell (.v (.y .u8 c))] => some (true, .y .i64 (idxB s (u8Of c)))
  | _ => none
theorem two_open {w : World} {a b : AV} {us : List Value} (hd : DaRs w gS2 [.cell (.v a), .cell (.v b)] us) : ∃ u v, us = [u, v] ∧ a.R noM u ∧ b.R noM v := by
  obtain ⟨d0, ds1, u0, us1, e1, rfl, hd1, hd⟩ := hd
  simp only [List.cons.injEq] at e1
  obtain ⟨rfl, rfl⟩ := e1
  obtain ⟨d0, ds1, u1, us1, e1, rfl, hd2, hd⟩ := hd
  simp only [List.cons.injEq] at e1
  obtain ⟨rfl, rfl⟩ := e1
  obtain ⟨_, rfl⟩ := hd
  exact ⟨_, _, rfl, hd1, hd2⟩
theorem smIdx : SmCall Tryd.prog 45 (fun args h => (ctS gS2 fIdx args h).sel) :=
  ctS_hand Tryd.func45 (by kernel_rfl) (by kernel_rfl) (fun ds a us w hF hd _ => by
    unfold fIdx at hF
    split at hF
    case h_2 => cases hF
    rename_i s c
    simp only [Option.some.injEq, Prod.mk.injEq, true_and] at hF
    subst hF
    obtain ⟨u, v, rfl, h1, h2⟩ := two_open hd
    obtain rfl : u = .string ⟨s.toArray⟩ := h1
    obtain rfl : v = .string ⟨[c].toArray⟩ := h2
    exact (Any.strings_Index_one Tryd.lays143 ⟨s.toArray⟩ c w).mono fun e w' ⟨he, hw⟩ => ⟨_, he, fun M => rfl, hw ▸ Below.refl _ _⟩)
theorem smCnt : SmCall Tryd.prog 44 (fun args h => (ctS gS2 fCnt args h).sel) :=
  ctS_hand Tryd.func44 (by kernel_rfl) (by kernel_rfl) (fun ds a us w hF hd _ => by
    unfold fCnt at hF
    split at hF
    case h_2 => cases hF
    rename_i s c
    simp only [Option.some.injEq, Prod.mk.injEq, true_and] at hF
    subst hF
    obtain ⟨u, v, rfl, h1, h2⟩ := two_open hd
    obtain rfl : u = .string ⟨s.toArray⟩ := h1
    obtain rfl : v = .string ⟨[c].toArray⟩ := h2
    exact (Any.strings_Count_one Tryd.lays138 ⟨s.toArray⟩ c w).mono fun e w' ⟨he, hw⟩ => ⟨_, he, fun M => rfl, hw ▸ Below.refl _ _⟩)
theorem smIby : SmCall Tryd.prog 61 (fun args h => (ctS gS2 fIby args h).sel) :=
  ctS_hand Tryd.func61 (by kernel_rfl) (by kernel_rfl) (fun ds a us w hF hd _ => by
    unfold fIby at hF
    split at hF
    case h_2 => cases hF
    rename_i s c
    simp only [Option.some.injEq, Prod.mk.injEq, true_and] at hF
    subst hF
    obtain ⟨u, v, rfl, h1, h2⟩ := two_open hd
    obtain rfl : u = .string ⟨s.toArray⟩ := h1
    obtain rfl : v = .int .u8 c := h2
    exact (Any.strings_IndexByte Tryd.lays137 ⟨s.toArray⟩ c w).mono fun e w' ⟨he, hw⟩ => ⟨_, he, fun M => rfl, hw ▸ Below.refl _ _⟩)
end Go.Proofs.YtjelhmdkaemiiaaDoor.Ex
namespace Go.Proofs.YtjelhmdkaemiiaaDoor.Ex
open Go Go.RowKit

-- OPEN spS hdS tlS okSp
/-- A contract that hands back a new slice of scalars that need not be literals. -/
def ctN (gs : List Ag) (F : List Da → Option (Bool × List AV)) (et : TypeId) (args : List AV) (h : AH) : T (AV × AH) :=
  (rdA h gs args).bind fun ds => match F ds with
    | some (b, c) => match newA h (.cells c et none) (fun id => .sl id 0 c.length c.length false) with
      | some r => .must b (.ret r)
      | none => .no
    | none => .no
theorem ctN_hand {P : Program} {f : FuncId} {fn : Func} {gs : List Ag} {F : List Da → Option (Bool × List AV)} {et : TypeId} (hf : P.funcs[f]? = some fn) (hok : okFn fn = true) (hb : fn.body.isSome = true)
    (hc : ∀ ds c us w, F ds = some (true, c) → DaRs w gs ds us → GW w → Calls P f us.toArray w fun e w' => ∃ vs, e = .returned (.slice (some ⟨w.heap.size, 0, none⟩) c.length c.length) ∧ (∀ M, AV.RL M c vs) ∧ w' = w.alloc (.cells vs.toArray et)) :
    SmCall P f (fun args h => (ctN gs F et args h).sel) := by
  intro args h v h' hg
  obtain ⟨ds, e1, e⟩ := T.sel_bind_some hg
  split at e
  case h_2 => cases e
  rename_i b c hF
  split at e
  case h_2 => cases e
  rename_i rr0 hnew
  obtain ⟨rfl, e⟩ := T.sel_must e
  have e := T.sel_ret e
  subst e
  unfold newA at hnew
  split at hnew
  case h_2 => cases hnew
  rename_i h2 hn
  simp only [Option.some.injEq, Prod.mk.injEq] at hnew
  obtain ⟨rfl, rfl⟩ := hnew
  obtain ⟨hnx, hbs, hwl⟩ := AH.new_nx hn
  have hgt := AH.get_new hn
  refine ⟨⟨by omega, ⟨by omega, hbs, fun x hx => by rw [hwl]; exact hx, fun x hx hy hn2 => ?_, fun x hx => ?_⟩⟩, fun M us w r R ra rr fr k => ⟨?_, ?_⟩⟩
  · rw [hgt, if_neg (by omega)]
  · rw [hgt] at hx
    by_cases hid : x = h.nx
    · right; omega
    · left; simpa [hid] using hx
  · have hnn : ¬ (fn.name = "runtime.NumGoroutine") := by simpa [okFn] using hok
    cases hbb : fn.body with
    | none => rw [hbb] at hb; cases hb
    | some c => simp [callFunc, hf, hnn, hbb]
  · have hd := rdA_ok e1 ra rr
    exact (callsIn_wide (n := 0)).2 ((hc ds c us w hF hd rr.gw).mono fun e w' ⟨vs, he, hr, hw⟩ => by
      subst he
      subst hw
      have ho2 : ObR M c.length (.cells c et none) (.cells vs.toArray et) := ⟨vs, [], hr _, by rw [List.append_nil], rfl⟩
      obtain ⟨q1, q2, q3⟩ := new_ok rr hn (fr h.nx (Nat.le_refl _) (by omega)) ho2
      exact k _ _ _ (by simp only [AV.R]; exact ⟨w.heap.size, c.length, by simp [updM], rfl⟩) q1 q2 q3)
def spS (s : List UInt8) (c : UInt8) : List (List UInt8) := Lib.splitK [c] 0 (Lib.count s [c]) s
def hdS (l : List (List UInt8)) : List UInt8 := l.headD []
def tlS (l : List (List UInt8)) : List (List UInt8) := l.tail
def pick : Nat → List (List UInt8) → List AV
  | 0, _ => []
  | k + 1, l => .ys (hdS l) :: pick k (tlS l)
theorem pick_eq : ∀ (l : List (List UInt8)), pick l.length l = l.map AV.ys
  | [] => rfl
  | a :: l => by
    show AV.ys a :: pick l.length l = _
    rw [pick_eq l]; rfl
/-- The text is short, and has so many pieces. -/
def okSp (k : Nat) (s : List UInt8) (c : UInt8) : Bool := Nat.blt s.length 4000000000 && Nat.beq (s.count c + 1) k
def fSplit (k : Nat) (ds : List Da) : Option (Bool × List AV) :=
  match ds with
  | [.cell (.v (.ys s)), .cell (.v (.ys [c]))] => some (okSp k s c, pick k (spS s c))
  | _ => none
theorem RL_str (M : Mp) : ∀ (ps : List ByteArray), AV.RL M (ps.map fun p => AV.ys p.data.toList) (ps.map Value.string)
  | [] => rfl
  | p :: ps => ⟨.string p, ps.map Value.string, by show Value.string p = .string ⟨p.data.toList.toArray⟩; cases p; simp, RL_str M ps, rfl⟩
theorem genSplitOne (s : ByteArray) (c : UInt8) (N : Nat) (w : World) (hs : s.size < 4294967281) (hN : N = Lib.countB s ⟨[c].toArray⟩ + 1) :
    Calls Tryd.prog 29 #[.string s, .string ⟨[c].toArray⟩, .int .i64 0, .int .i64 (-1)] w fun e w' =>
      e = .returned (.slice (some ⟨w.heap.size, 0, none⟩) (Lib.splitB ⟨[c].toArray⟩ 0 (N - 1) s).length N) ∧ w' = w.alloc (.cells (Lib.cellsOf (Lib.splitB ⟨[c].toArray⟩ 0 (N - 1) s) N) 9) :=
  Any.strings_genSplit_core { Tryd.lays146 with } (by kernel_rfl) s ⟨[c].toArray⟩ 0 (-1) N w hs (by decide : 1 ≤ 1) (Nat.zero_le _)
    (fun x cs hx => by rw [show Lib.indexB x ⟨[c].toArray⟩ = Lib.indexByte x.data.toList c from Lib.index_one _ c]; exact Any.strings_Index_one Tryd.lays143 x c _)
    (by
      have := Any.strings_Count_one Tryd.lays138 s c w
      rw [show Lib.countB s ⟨[c].toArray⟩ = Lib.countByte s.data.toList c from Lib.count_one c _]
      exact this) (by decide) (by decide)
    (by
      have hle := Lib.countB_le ⟨[c].toArray⟩ (by decide : 1 ≤ 1) s.size s (Nat.le_refl _)
      rw [if_pos (by decide)]; omega)
set_option maxHeartbeats 1000000 in
theorem splitOne (s : ByteArray) (c : UInt8) (w : World) (hs : s.size < 4294967281) :
    Calls Tryd.prog 23 #[.string s, .string ⟨[c].toArray⟩] w fun e w' =>
      e = .returned (.slice (some ⟨w.heap.size, 0, none⟩) (Lib.countB s ⟨[c].toArray⟩ + 1) (Lib.countB s ⟨[c].toArray⟩ + 1)) ∧ w' = w.alloc (.cells ((Lib.splitB ⟨[c].toArray⟩ 0 (Lib.countB s ⟨[c].toArray⟩) s).map Value.string).toArray 9) := by
  have hlen := Lib.splitB_all ⟨[c].toArray⟩ (by decide : 1 ≤ 1) 0 _ s rfl
  have c0 := genSplitOne s c _ w hs rfl
  rw [Nat.add_sub_cancel, hlen] at c0
  have e2 : Lib.cellsOf (Lib.splitB ⟨[c].toArray⟩ 0 (Lib.countB s ⟨[c].toArray⟩) s) (Lib.countB s ⟨[c].toArray⟩ + 1) = ((Lib.splitB ⟨[c].toArray⟩ 0 (Lib.countB s ⟨[c].toArray⟩) s).map Value.string).toArray := by rw [← hlen]; exact Lib.cellsOf_full _
  rw [e2] at c0
  have L := Tryd.lays146
  have t3 := L.t3; have t9 := L.t9; have t31 := L.t31
  have a3 := L.a3; have a9 := L.a9; have a31 := L.a31
  have z3 := L.z3; have v3 := L.v3; have z9 := L.z9; have v9 := L.v9; have z31 := L.z31; have v31 := L.v31
  have e221 : ∀ args w, (callFunc (Tryd.lays146_ren.f 221) args).run Tryd.prog w = .ok (.enter (Tryd.lays146_ren.f 221) args) w := enters_of L.f221 (by kernel_rfl) rfl
  show Calls Tryd.prog (Tryd.lays146_ren.f 146) _ _ _
  go_enter L.f146, Body.n146_ntmps Tryd.lays146_ren
  go_wp2_with (go_at_fn (Tryd.lays146_ren.f 221); refine Calls.mono c0 ?_; rintro e w' ⟨rfl, hw⟩; rw [hw])
  go_ret
  exact ⟨rfl, rfl⟩

theorem smSplit (k : Nat) : SmCall Tryd.prog 23 (fun args h => (ctN gS2 (fSplit k) 9 args h).sel) :=
  ctN_hand Tryd.func23 (by kernel_rfl) (by kernel_rfl) (fun ds a us w hF hd _ => by
    unfold fSplit at hF
    split at hF
    case h_2 => cases hF
    rename_i s c
    simp only [Option.some.injEq, Prod.mk.injEq] at hF
    obtain ⟨hk, rfl⟩ := hF
    obtain ⟨u, v, rfl, h1, h2⟩ := two_open hd
    obtain rfl : u = .string ⟨s.toArray⟩ := h1
    obtain rfl : v = .string ⟨[c].toArray⟩ := h2
    simp only [okSp, Bool.and_eq_true, Nat.blt_eq, Nat.beq_eq] at hk
    obtain ⟨hlen, rfl⟩ := hk
    have hcB : Lib.countB ⟨s.toArray⟩ ⟨[c].toArray⟩ = s.count c := by show Lib.count s [c] = _; exact Lib.count_one c s
    have hsp := Lib.splitB_data ⟨[c].toArray⟩ 0 (s.count c) ⟨s.toArray⟩
    have hl := Lib.splitB_all ⟨[c].toArray⟩ (by decide : 1 ≤ 1) 0 _ ⟨s.toArray⟩ hcB
    have hsS : spS s c = (Lib.splitB ⟨[c].toArray⟩ 0 (s.count c) ⟨s.toArray⟩).map (·.data.toList) := by
      rw [hsp]; unfold spS; rw [Lib.count_one]
    have hpk : pick (s.count c + 1) (spS s c) = (Lib.splitB ⟨[c].toArray⟩ 0 (s.count c) ⟨s.toArray⟩).map fun p => AV.ys p.data.toList := by
      have e := pick_eq (spS s c)
      rw [hsS, List.length_map, hl, List.map_map] at e
      rw [hsS]; exact e
    refine (splitOne ⟨s.toArray⟩ c w (by show s.length < _; omega)).mono fun e w' ⟨he, hw⟩ => ⟨(Lib.splitB ⟨[c].toArray⟩ 0 (s.count c) ⟨s.toArray⟩).map Value.string, ?_, fun M => by rw [hpk]; exact RL_str M _, ?_⟩
    · rw [he, hpk, List.length_map, hl]
      show Ending.returned (.slice _ (Lib.countB ⟨s.toArray⟩ ⟨[c].toArray⟩ + 1) (Lib.countB ⟨s.toArray⟩ ⟨[c].toArray⟩ + 1)) = _
      rw [hcB]
    · rw [hw]
      show w.alloc (.cells ((Lib.splitB ⟨[c].toArray⟩ 0 (Lib.countB ⟨s.toArray⟩ ⟨[c].toArray⟩) ⟨s.toArray⟩).map Value.string).toArray _) = _
      rw [hcB])
end Go.Proofs.YtjelhmdkaemiiaaDoor.Ex
namespace Go.Proofs.YtjelhmdkaemiiaaDoor.Ex
open Go

def dcL (l : List UInt8) (a : Int) : Int := l.foldl (fun a d => a * 10 + ((d.toNat : Int) - 48)) a
theorem dgU_val {d : Int} (h0 : 0 ≤ d) (h1 : d < 10) : ((dgU d).toNat : Int) = 48 + d := by
  rcases ten h0 h1 with rfl | rfl | rfl | rfl | rfl | rfl | rfl | rfl | rfl | rfl <;> rfl
theorem dcL_fmF : ∀ (k : Nat) (n : Int) (acc : List UInt8), 0 ≤ n → n < 10 ^ k → 1 ≤ k → dcL (fmF k n acc) 0 = dcL acc n
  | 0, _, _, _, _, h => by omega
  | k + 1, n, acc, h0, h1, _ => by
    have hd := dgU_val (d := n % 10) (by omega) (by omega)
    unfold fmF
    by_cases e : n / 10 = 0
    · rw [decide_eq_true e, cond_true]
      show dcL acc (0 * 10 + (((dgU (n % 10)).toNat : Int) - 48)) = _
      rw [hd]; congr 1; omega
    · rw [decide_eq_false e, cond_false]
      have hk : 1 ≤ k := by
        cases k with
        | zero => exfalso; apply e; have : n < 10 := h1; omega
        | succ k => omega
      have hp : (10 : Int) ^ (k + 1) = 10 ^ k * 10 := Int.pow_succ 10 k
      rw [dcL_fmF k (n / 10) _ (by omega) (by rw [hp] at h1; omega) hk]
      show dcL acc (n / 10 * 10 + (((dgU (n % 10)).toNat : Int) - 48)) = _
      rw [hd]; congr 1; omega
theorem dcL_fm {n : Int} (h0 : 0 ≤ n) (h1 : n < 10 ^ 20) : dcL (fm n) 0 = n := dcL_fmF 20 n [] h0 h1 (by omega)
/-- Digits all, and none ahead that is zero. -/
def isD (b : UInt8) : Prop := 48 ≤ b.toNat ∧ b.toNat ≤ 57
theorem fmF_dig : ∀ (k : Nat) (n : Int) (acc : List UInt8), 0 ≤ n → (∀ b, b ∈ acc → isD b) → ∀ b, b ∈ fmF k n acc → isD b
  | 0, _, acc, _, h, b, hb => h b hb
  | k + 1, n, acc, h0, h, b, hb => by
    have hd := dgU_val (d := n % 10) (by omega) (by omega)
    have hc : ∀ b, b ∈ dgU (n % 10) :: acc → isD b := fun b hb => by
      rcases List.mem_cons.1 hb with rfl | hb
      · unfold isD; omega
      · exact h b hb
    unfold fmF at hb
    by_cases e : n / 10 = 0
    · rw [decide_eq_true e, cond_true] at hb; exact hc b hb
    · rw [decide_eq_false e, cond_false] at hb; exact fmF_dig k (n / 10) _ (by omega) hc b hb
theorem fm_dig {n : Int} (h0 : 0 ≤ n) : ∀ b, b ∈ fm n → isD b := fmF_dig 20 n [] h0 (fun b hb => by cases hb)
theorem fmF_head : ∀ (k : Nat) (n : Int) (acc : List UInt8), 1 ≤ n → n < 10 ^ k → (fmF k n acc).head? ≠ some 48
  | 0, n, acc, h0, h1 => by have : n < 1 := h1; omega
  | k + 1, n, acc, h0, h1 => by
    have hd := dgU_val (d := n % 10) (by omega) (by omega)
    unfold fmF
    by_cases e : n / 10 = 0
    · rw [decide_eq_true e, cond_true]
      intro hh
      simp only [List.head?_cons, Option.some.injEq] at hh
      rw [hh] at hd
      have : ((48 : UInt8).toNat : Int) = 48 := rfl
      omega
    · rw [decide_eq_false e, cond_false]
      have hp : (10 : Int) ^ (k + 1) = 10 ^ k * 10 := Int.pow_succ 10 k
      exact fmF_head k (n / 10) _ (by omega) (by rw [hp] at h1; omega)
theorem fm_head {n : Int} (h0 : 1 ≤ n) (h1 : n < 10 ^ 20) : (fm n).head? ≠ some 48 := fmF_head 20 n [] h0 h1
end Go.Proofs.YtjelhmdkaemiiaaDoor.Ex
namespace Go.Proofs.YtjelhmdkaemiiaaDoor.Ex
open Go

-- OPEN decI okD prP mP idxB u8Of
/-- The value of the first k digits. -/
def decI (s : List UInt8) (k : Nat) : Int := match k with
  | 0 => 0
  | k + 1 => decI s k * 10 + (yByte s k - 48)
/-- Digits, of a number of 64 bits, with no zero ahead. -/
def okD (s : List UInt8) : Bool := decide (1 ≤ s.length ∧ s.length ≤ 20 ∧ (∀ i, i < s.length → 48 ≤ yByte s i ∧ yByte s i ≤ 57) ∧ (yByte s 0 = 48 → s.length = 1) ∧ decI s s.length < 18446744073709551616)
def prP (s : List UInt8) (k : Nat) : Prop := k ≤ s.length
def mP (s : List UInt8) (k : Nat) : Nat := s.length - k
def lPar : List (Nat × Sm) := [(61, .ct (ctS gS2 fIby))]
def annPar (s : List UInt8) (b : Nat) : Option (St → LoopA) :=
  match b with
  | 0 => some fun _ => { ι := Nat, tms := [11, 5, 6], tmU := fun k => [.y .i64 (yInt k), .y .u64 (decI s k), .b false], ids := [], hpU := fun _ => [], del := [], ex := 0, pre := prP s, ms := mP s }
  | _ => none
abbrev wxS (P : Program) (sm : FuncId → Option Sm) (ann : Nat → Option (St → LoopA)) (f : FuncId) (ss : List Sx) (ds : List Dx) (rs : Sx) (r : Dx) (post : List (List Dx)) : Prop :=
  wxF P sm ann 1000 f (canXs nmI ss ds []).1 (heapOf (canXs nmI ss ds []).2)
    (postX (canXs nmI ss ds []).2.length (delX 0 (canXs nmI ss ds []).2 (ptrId (canXs nmI ss ds []).1)) (ptrId (canXs nmI ss ds []).1) (expR (fun j => (canXs nmI ss ds []).2.length + j) (ptrSh ss ds) rs r post))
abbrev sRdr : List Sx := [.sc, .ptr 25 [.sc]]
abbrev rRdr : Sx := .tup [.sc, .sc]
def fRdr (ds : List Dx) : Option (Bool × Dx × List (List Dx)) :=
  match ds with
  | [.v (.ys s), .l [.v (.y .u64 b)]] => some (yAnd (yEq b 10) (okD s), .l [.v (.y .u64 (decI s (yLen s))), .v (.i .i64 0)], [[.v (.y .u64 10)]])
  | _ => none
def goalRdr : Prop := ∀ (s : List UInt8), okD s = true → wxS Tryd.prog (smL lPar) (annPar s) 60 sRdr [.v (.ys s), .l [.v (.y .u64 10)]] rRdr (.l [.v (.y .u64 (decI s (yLen s))), .v (.i .i64 0)]) [[.v (.y .u64 10)]]
set_option maxRecDepth 100000 in
theorem goalRdr_eq : goalRdr = (∀ (s : List UInt8), okD s = true → true = true ∧ (∃ (i0 : Nat), prP s i0 ∧ true = true ∧ yInt i0 = (0 : Int) ∧ decI s i0 = (0 : Int) ∧ false = false ∧ true = true) ∧ ∀ (g : Nat → AV) (i : Nat), prP s i → (yLt (yInt i) (yInt (yLen s)) = true → (yIn (yInt i) (yLen s) = true → (true = true → (yLe (10 : Int) (yWrap IntKind.u64 (idxB [(48 : UInt8), (49 : UInt8), (50 : UInt8), (51 : UInt8), (52 : UInt8), (53 : UInt8), (54 : UInt8), (55 : UInt8), (56 : UInt8), (57 : UInt8), (97 : UInt8), (98 : UInt8), (99 : UInt8), (100 : UInt8), (101 : UInt8), (102 : UInt8)] (u8Of (yByte s (yNat (yInt i)))))) = true → decI s (yLen s) = (0 : Int) ∧ (0 : Int) = (4 : Int) ∧ (10 : Int) = (10 : Int) ∧ true = true) ∧ (yLe (10 : Int) (yWrap IntKind.u64 (idxB [(48 : UInt8), (49 : UInt8), (50 : UInt8), (51 : UInt8), (52 : UInt8), (53 : UInt8), (54 : UInt8), (55 : UInt8), (56 : UInt8), (57 : UInt8), (97 : UInt8), (98 : UInt8), (99 : UInt8), (100 : UInt8), (101 : UInt8), (102 : UInt8)] (u8Of (yByte s (yNat (yInt i)))))) = false → (yEq (10 : Int) (0 : Int) = true → False) ∧ (yEq (10 : Int) (0 : Int) = false → (yLt (yQuo IntKind.u64 (yWrap IntKind.u64 (ySub (18446744073709551615 : Int) (yWrap IntKind.u64 (idxB [(48 : UInt8), (49 : UInt8), (50 : UInt8), (51 : UInt8), (52 : UInt8), (53 : UInt8), (54 : UInt8), (55 : UInt8), (56 : UInt8), (57 : UInt8), (97 : UInt8), (98 : UInt8), (99 : UInt8), (100 : UInt8), (101 : UInt8), (102 : UInt8)] (u8Of (yByte s (yNat (yInt i)))))))) (10 : Int)) (decI s i) = true → true = true ∧ ∃ (i' : Nat), prP s i' ∧ Nat.succ (mP s i') ≤ mP s i ∧ true = true ∧ yInt i' = yWrap IntKind.i64 (yAdd (yInt i) (1 : Int)) ∧ decI s i' = yWrap IntKind.u64 (yAdd (yWrap IntKind.u64 (yMul (decI s i) (10 : Int))) (yWrap IntKind.u64 (idxB [(48 : UInt8), (49 : UInt8), (50 : UInt8), (51 : UInt8), (52 : UInt8), (53 : UInt8), (54 : UInt8), (55 : UInt8), (56 : UInt8), (57 : UInt8), (97 : UInt8), (98 : UInt8), (99 : UInt8), (100 : UInt8), (101 : UInt8), (102 : UInt8)] (u8Of (yByte s (yNat (yInt i))))))) ∧ false = true ∧ true = true) ∧ (yLt (yQuo IntKind.u64 (yWrap IntKind.u64 (ySub (18446744073709551615 : Int) (yWrap IntKind.u64 (idxB [(48 : UInt8), (49 : UInt8), (50 : UInt8), (51 : UInt8), (52 : UInt8), (53 : UInt8), (54 : UInt8), (55 : UInt8), (56 : UInt8), (57 : UInt8), (97 : UInt8), (98 : UInt8), (99 : UInt8), (100 : UInt8), (101 : UInt8), (102 : UInt8)] (u8Of (yByte s (yNat (yInt i)))))))) (10 : Int)) (decI s i) = false → true = true ∧ ∃ (i' : Nat), prP s i' ∧ Nat.succ (mP s i') ≤ mP s i ∧ true = true ∧ yInt i' = yWrap IntKind.i64 (yAdd (yInt i) (1 : Int)) ∧ decI s i' = yWrap IntKind.u64 (yAdd (yWrap IntKind.u64 (yMul (decI s i) (10 : Int))) (yWrap IntKind.u64 (idxB [(48 : UInt8), (49 : UInt8), (50 : UInt8), (51 : UInt8), (52 : UInt8), (53 : UInt8), (54 : UInt8), (55 : UInt8), (56 : UInt8), (57 : UInt8), (97 : UInt8), (98 : UInt8), (99 : UInt8), (100 : UInt8), (101 : UInt8), (102 : UInt8)] (u8Of (yByte s (yNat (yInt i))))))) ∧ false = false ∧ true = true)))) ∧ (true = false → False)) ∧ (yIn (yInt i) (yLen s) = false → False)) ∧ (yLt (yInt i) (yInt (yLen s)) = false → (ySEq s [] = true → decI s (yLen s) = (0 : Int) ∧ (0 : Int) = (4 : Int) ∧ (10 : Int) = (10 : Int) ∧ true = true) ∧ (ySEq s [] = false → (yIn (0 : Int) (yLen s) = true → (yEq (yByte s (nat_lit 0)) (48 : Int) = true → (yLt (1 : Int) (yInt (yLen s)) = true → decI s (yLen s) = (0 : Int) ∧ (0 : Int) = (4 : Int) ∧ (10 : Int) = (10 : Int) ∧ true = true) ∧ (yLt (1 : Int) (yInt (yLen s)) = false → decI s (yLen s) = decI s i ∧ (0 : Int) = (0 : Int) ∧ (10 : Int) = (10 : Int) ∧ true = true)) ∧ (yEq (yByte s (nat_lit 0)) (48 : Int) = false → decI s (yLen s) = decI s i ∧ (0 : Int) = (0 : Int) ∧ (10 : Int) = (10 : Int) ∧ true = true)) ∧ (yIn (0 : Int) (yLen s) = false → False)))) := by kernel_rfl
theorem hex_ix {b : Int} (h0 : 48 ≤ b) (h1 : b ≤ 57) : idxB [48, 49, 50, 51, 52, 53, 54, 55, 56, 57, 97, 98, 99, 100, 101, 102] (u8Of b) = b - 48 := by
  rcases ten (r := b - 48) (by omega) (by omega) with e | e | e | e | e | e | e | e | e | e
  · have e2 : b = 48 := by omega
    subst e2; rfl
  · have e2 : b = 49 := by omega
    subst e2; rfl
  · have e2 : b = 50 := by omega
    subst e2; rfl
  · have e2 : b = 51 := by omega
    subst e2; rfl
  · have e2 : b = 52 := by omega
    subst e2; rfl
  · have e2 : b = 53 := by omega
    subst e2; rfl
  · have e2 : b = 54 := by omega
    subst e2; rfl
  · have e2 : b = 55 := by omega
    subst e2; rfl
  · have e2 : b = 56 := by omega
    subst e2; rfl
  · have e2 : b = 57 := by omega
    subst e2; rfl
theorem decI_bd {s : List UInt8} (h : ∀ i, i < s.length → 48 ≤ yByte s i ∧ yByte s i ≤ 57) : ∀ k, k ≤ s.length → 0 ≤ decI s k ∧ decI s k < 10 ^ k
  | 0, _ => by show (0 : Int) ≤ 0 ∧ (0 : Int) < 1; omega
  | k + 1, hk => by
    have h1 := decI_bd h k (by omega)
    have h2 := h k (by omega)
    have hp : (10 : Int) ^ (k + 1) = 10 ^ k * 10 := Int.pow_succ 10 k
    show 0 ≤ decI s k * 10 + (yByte s k - 48) ∧ decI s k * 10 + (yByte s k - 48) < _
    rw [hp]; omega
theorem decI_mono {s : List UInt8} (h : ∀ i, i < s.length → 48 ≤ yByte s i ∧ yByte s i ≤ 57) (i : Nat) : ∀ k, i + k ≤ s.length → decI s i ≤ decI s (i + k)
  | 0, _ => Int.le_refl _
  | k + 1, hk => by
    have h1 := decI_mono h i k (by omega)
    have h2 := h (i + k) (by omega)
    have h3 := decI_bd h (i + k) (by omega)
    show decI s i ≤ decI s (i + k) * 10 + (yByte s (i + k) - 48)
    omega
set_option maxRecDepth 100000 in
theorem goalRdr_ok : goalRdr := by
  refine kernel_go goalRdr_eq ?_
  intro s h
  obtain ⟨h1, h2, h3, h4, h5⟩ := of_decide_eq_true h
  refine ⟨rfl, ⟨0, Nat.zero_le _, rfl, rfl, rfl, rfl, rfl⟩, fun _ i hi => ⟨fun hl => ⟨fun hin => ⟨fun _ => ?_, fun h => by cases h⟩, fun hn => ?_⟩, fun hl => ?_⟩⟩
  all_goals have hi : i ≤ s.length := hi
  · have hlt : i < s.length := by simp only [yLt_t, yInt, yLen] at hl; omega
    obtain ⟨a, b⟩ := h3 i hlt
    obtain ⟨d0, d1⟩ := decI_bd h3 i hi
    have d2 := decI_mono h3 (i + 1) (s.length - (i + 1)) (by omega)
    rw [show i + 1 + (s.length - (i + 1)) = s.length by omega] at d2
    have d2 : decI s i * 10 + (yByte s i - 48) ≤ decI s s.length := d2
    have e0 : yNat (yInt i) = i := rfl
    rw [e0, hex_ix a b, wrapU64 (n := yByte s i - 48) (by omega) (by omega)]
    refine ⟨fun hh => by simp only [yLe_t] at hh; omega, fun _ => ⟨fun hh => absurd hh (by decide), fun _ => ?_⟩⟩
    have e3 : yWrap .u64 (ySub 18446744073709551615 (yByte s i - 48)) = 18446744073709551615 - (yByte s i - 48) := wrapU64 (by unfold ySub; omega) (by unfold ySub; omega)
    rw [e3]
    have e4 : yQuo .u64 (18446744073709551615 - (yByte s i - 48)) 10 = (18446744073709551615 - (yByte s i - 48)) / 10 := by
      unfold yQuo
      rw [Int.tdiv_eq_ediv_of_nonneg (by omega)]
      exact wrapU64 (by omega) (by omega)
    rw [e4]
    refine ⟨fun hh => by simp only [yLt_t] at hh; omega, fun _ => ⟨rfl, i + 1, hlt, ?_, rfl, ?_, ?_, rfl, rfl⟩⟩
    · show s.length - (i + 1) + 1 ≤ s.length - i; omega
    · exact (wrap64 (n := yAdd (yInt i) 1) (by unfold yAdd yInt; omega) (by unfold yAdd yInt; omega)).symm
    · have e5 : yWrap .u64 (yMul (decI s i) 10) = decI s i * 10 := wrapU64 (by unfold yMul; omega) (by unfold yMul; omega)
      rw [e5]
      exact (wrapU64 (n := yAdd (decI s i * 10) (yByte s i - 48)) (by unfold yAdd; omega) (by unfold yAdd; omega)).symm
  · exfalso
    simp only [yIn_f, yLt_t, yInt, yLen] at hn hl; omega
  · have hlt : i = s.length := by simp only [yLt_f, yInt, yLen] at hl; omega
    subst hlt
    refine ⟨fun hh => ?_, fun _ => ⟨fun _ => ⟨fun hz => ⟨fun hh => ?_, fun _ => ⟨rfl, rfl, rfl, rfl⟩⟩, fun _ => ⟨rfl, rfl, rfl, rfl⟩⟩, fun hh => ?_⟩⟩
    · exfalso
      cases s with
      | nil => simp at h1
      | cons a l => cases hh
    · exfalso
      simp only [yEq_t] at hz
      have := h4 hz
      simp only [yLt_t, yInt, yLen] at hh; omega
    · exfalso
      simp only [yIn_f, yLen] at hh; omega
set_option maxRecDepth 100000 in
theorem smRdr (hm : Tryd.prog.follows .mixedOrders = true) : SmCall Tryd.prog 60 (fun args h => (ctX sRdr rRdr fRdr args h).sel) :=
  ctX_ok hm (smL_ok (l := lPar) ⟨smIby, trivial⟩) (fun ds r post h => by
    unfold fRdr at h
    split at h
    · rename_i s b
      simp only [Option.some.injEq, Prod.mk.injEq, yAnd_t, yEq_t] at h
      obtain ⟨⟨rfl, h1⟩, rfl, rfl⟩ := h
      refine ⟨annPar s, 1000, ?_⟩
      have h2 := @goalRdr_ok
      unfold goalRdr at h2
      exact h2 s h1
    · cases h)
end Go.Proofs.YtjelhmdkaemiiaaDoor.Ex
namespace Go.Proofs.YtjelhmdkaemiiaaDoor.Ex
open Go

-- OPEN decI okD
def lRdr : List (Nat × Sm) := [(60, .ct (ctX sRdr rRdr fRdr))]
def fPar (ds : List Dx) : Option (Bool × Dx × List (List Dx)) :=
  match ds with
  | [.v (.ys s)] => some (okD s, .l [.v (.y .u64 (decI s (yLen s))), .v (.i .i64 0)], [])
  | _ => none
def goalPar : Prop := ∀ (s : List UInt8), okD s = true → wxS Tryd.prog (smL lRdr) (fun _ => none) 46 [.sc] [.v (.ys s)] rRdr (.l [.v (.y .u64 (decI s (yLen s))), .v (.i .i64 0)]) []
set_option maxRecDepth 100000 in
theorem goalPar_eq : goalPar = (∀ (s : List UInt8), okD s = true → (yAnd (yEq (10 : Int) (10 : Int)) (okD s) = true → decI s (yLen s) = decI s (yLen s) ∧ (0 : Int) = (0 : Int) ∧ true = true) ∧ (yAnd (yEq (10 : Int) (10 : Int)) (okD s) = false → False)) := by kernel_rfl
set_option maxRecDepth 100000 in
theorem goalPar_ok : goalPar := by
  refine @kernel_go _ _ goalPar_eq ?_
  intro s h
  refine ⟨fun _ => ⟨rfl, rfl, rfl⟩, fun e => ?_⟩
  rw [h] at e; cases e
set_option maxRecDepth 100000 in
theorem smPar (hm : Tryd.prog.follows .mixedOrders = true) : SmCall Tryd.prog 46 (fun args h => (ctX [.sc] rRdr fPar args h).sel) :=
  ctX_ok hm (smL_ok (l := lRdr) ⟨smRdr hm, trivial⟩) (fun ds r post h => by
    unfold fPar at h
    split at h
    · rename_i s
      simp only [Option.some.injEq, Prod.mk.injEq] at h
      obtain ⟨h1, rfl, rfl⟩ := h
      refine ⟨fun _ => none, 1000, ?_⟩
      have h2 := @goalPar_ok
      unfold goalPar at h2
      with_reducible exact @h2 s h1
    · cases h)
end Go.Proofs.YtjelhmdkaemiiaaDoor.Ex
namespace Go.Proofs.YtjelhmdkaemiiaaDoor.Ex
open Go

-- OPEN fKd fTh fOk fKey fVal fHi fMost okLn cutA cutB restL lnAt nL okPar hasN
theorem dcL_snoc (l : List UInt8) (b : UInt8) (a : Int) : dcL (l ++ [b]) a = dcL l a * 10 + ((b.toNat : Int) - 48) := by
  unfold dcL; rw [List.foldl_append]; rfl
theorem decI_dcL (s : List UInt8) : ∀ k, k ≤ s.length → decI s k = dcL (s.take k) 0
  | 0, _ => rfl
  | k + 1, h => by
    have e : s.take (k + 1) = s.take k ++ [s[k]] := by rw [List.take_succ_eq_append_getElem (by omega)]
    rw [e, dcL_snoc, ← decI_dcL s k (by omega)]
    show decI s k * 10 + (yByte s k - 48) = _
    have e2 : yByte s k = (s[k].toNat : Int) := by unfold yByte; simp [show k < s.length by omega]
    rw [e2]
theorem decI_fm {n : Int} (h0 : 0 ≤ n) (h1 : n < 10 ^ 20) : decI (fm n) (yLen (fm n)) = n := by
  show decI (fm n) (fm n).length = n
  rw [decI_dcL _ _ (Nat.le_refl _)]
  show dcL ((fm n).take (fm n).length) 0 = n
  rw [List.take_length]; exact dcL_fm h0 h1
theorem fmF_least : ∀ (k : Nat) (n : Int) (acc : List UInt8), acc.length ≤ (fmF k n acc).length
  | 0, _, _ => Nat.le_refl _
  | k + 1, n, acc => by
    unfold fmF
    cases decide (n / 10 = 0) with
    | true => show acc.length ≤ acc.length + 1; omega
    | false =>
      have := fmF_least k (n / 10) (dgU (n % 10) :: acc)
      rw [List.length_cons] at this
      show acc.length ≤ (fmF k (n / 10) _).length; omega
theorem fm_one (n : Int) : 1 ≤ (fm n).length := by
  unfold fm fmF
  cases decide (n / 10 = 0) with
  | true => exact Nat.le_refl _
  | false => exact fmF_least 19 (n / 10) [dgU (n % 10)]
theorem okD_fm {n : Int} (h0 : 0 ≤ n) (h1 : n < 18446744073709551616) : okD (fm n) = true := by
  have h20 : n < 10 ^ 20 := by show n < 100000000000000000000; omega
  have hl1 := fm_one n
  have hl2 := fm_len n
  refine decide_eq_true ⟨hl1, hl2, fun i hi => ?_, fun hz => ?_, ?_⟩
  · have hd := fm_dig (n := n) h0 (fm n)[i] (List.getElem_mem hi)
    have e2 : yByte (fm n) i = ((fm n)[i].toNat : Int) := by unfold yByte; simp [hi]
    unfold isD at hd
    rw [e2]; omega
  · rcases Int.lt_or_le 0 n with hp | hp
    · exfalso
      have hh := fm_head (n := n) (by omega) h20
      cases hc : fm n with
      | nil => rw [hc] at hl1; simp at hl1
      | cons a l =>
        rw [hc] at hh hz
        apply hh
        have e2 : (a.toNat : Int) = 48 := hz
        have e3 : a = 48 := UInt8.toNat_inj.1 (by show a.toNat = 48; omega)
        rw [e3]; rfl
    · obtain rfl : n = 0 := by omega
      rfl
  · have := decI_fm h0 h20
    show decI (fm n) (yLen (fm n)) < _
    rw [this]; exact h1
theorem noC_fm {n : Int} (h0 : 0 ≤ n) {c : UInt8} (hc : c.toNat < 48) : c ∉ fm n := fun h => by
  have := fm_dig h0 _ h
  unfold isD at this
  omega
theorem idx_app (c : UInt8) (r : List UInt8) : ∀ (a : List UInt8), c ∉ a → Lib.indexByte (a ++ c :: r) c = a.length
  | [], _ => by
    show (if c == c then (0 : Int) else _) = 0
    simp
  | b :: a, h => by
    have h1 : ¬ b = c := fun e => h (by simp [e])
    have h2 := idx_app c r a (fun e => h (by simp [e]))
    show (if b == c then (0 : Int) else if Lib.indexByte (a ++ c :: r) c == -1 then -1 else Lib.indexByte (a ++ c :: r) c + 1) = _
    rw [h2, if_neg (by simpa using h1), if_neg (by simp)]
    simp
theorem sp_step (c : UInt8) (a r : List UInt8) (k : Nat) (h : c ∉ a) : Lib.splitK [c] 0 (k + 1) (a ++ c :: r) = a :: Lib.splitK [c] 0 k r := by
  rw [Lib.splitK, Lib.index_one, idx_app c r a h, if_neg (by simp)]
  simp
/-- Words with a byte between them. -/
def jn (c : UInt8) : List (List UInt8) → List UInt8
  | [] => []
  | [a] => a
  | a :: b :: r => a ++ c :: jn c (b :: r)
theorem jn_split (c : UInt8) : ∀ (a : List UInt8) (r : List (List UInt8)), (∀ x ∈ a :: r, c ∉ x) → Lib.splitK [c] 0 r.length (jn c (a :: r)) = a :: r ∧ (jn c (a :: r)).count c = r.length
  | a, [], h => ⟨rfl, List.count_eq_zero.2 (h a (by simp))⟩
  | a, b :: r, h => by
    obtain ⟨h1, h2⟩ := jn_split c b r (fun x hx => h x (by simp at hx ⊢; exact .inr hx))
    have ha : c ∉ a := h a (by simp)
    refine ⟨?_, ?_⟩
    · show Lib.splitK [c] 0 (r.length + 1) (a ++ c :: jn c (b :: r)) = _
      rw [sp_step c a _ _ ha, h1]
    · show (a ++ c :: jn c (b :: r)).count c = r.length + 1
      rw [List.count_append, List.count_eq_zero.2 ha, List.count_cons, h2]; simp
theorem jn_sp (c : UInt8) (a : List UInt8) (r : List (List UInt8)) (h : ∀ x ∈ a :: r, c ∉ x) : spS (jn c (a :: r)) c = a :: r := by
  obtain ⟨h1, h2⟩ := jn_split c a r h
  unfold spS
  rw [Lib.count_one, h2, h1]

/-! An entry's line. -/
structure Ent where
  kd : Int
  th : Int
  k : Int
  key : Int
  val : Int
  hi : Int
  most : Int
def Ent.line (e : Ent) : List UInt8 := lineC e.kd e.th e.k e.key e.val e.hi e.most
def dc (a : List UInt8) : Int := decI a (yLen a)
def entI (s : List UInt8) : Ent :=
  match spS s 32 with
  | [_] => ⟨1, 0, 0, 0, 0, 0, 0⟩
  | [_, a] => ⟨2, dc a, 0, 0, 0, 0, 0⟩
  | [_, a, g, x] => ⟨3, dc a, (bif decide (g = wGet) then 1 else 3), dc x, 0, 0, 0⟩
  | [_, a, _, x, y] => ⟨3, dc a, 2, dc x, dc y, 0, 0⟩
  | [_, a, _, x, y, z] => ⟨3, dc a, 4, dc x, 0, dc y, dc z⟩
  | _ => ⟨0, 0, 0, 0, 0, 0, 0⟩
def fKd (s : List UInt8) : Int := (entI s).kd
def fTh (s : List UInt8) : Int := (entI s).th
def fOk (s : List UInt8) : Int := (entI s).k
def fKey (s : List UInt8) : Int := (entI s).key
def fVal (s : List UInt8) : Int := (entI s).val
def fHi (s : List UInt8) : Int := (entI s).hi
def fMost (s : List UInt8) : Int := (entI s).most
/-- An entry's line, of what a machine's words hold. -/
def okLn (s : List UInt8) : Bool := decide (s ≠ [] ∧ inE (entI s).th (entI s).key (entI s).val (entI s).hi = true ∧ (entI s).line = s)
def wPk : List UInt8 := [112, 105, 99, 107]
def wSb : List UInt8 := [115, 117, 98, 109, 105, 116]
/-- Which entries have a line, and its words. -/
inductive Lined : Ent → List (List UInt8) → Prop where
  | tick : Lined ⟨1, 0, 0, 0, 0, 0, 0⟩ [wTick]
  | pick (th : Int) : 0 ≤ th → th < 9223372036854775808 → Lined ⟨2, th, 0, 0, 0, 0, 0⟩ [wPk, fm th]
  | get (th key : Int) : 0 ≤ th → th < 9223372036854775808 → inU key = true → Lined ⟨3, th, 1, key, 0, 0, 0⟩ [wSb, fm th, wGet, fm key]
  | put (th key val : Int) : 0 ≤ th → th < 9223372036854775808 → inU key = true → inU val = true → Lined ⟨3, th, 2, key, val, 0, 0⟩ [wSb, fm th, wPut, fm key, fm val]
  | delete (th key : Int) : 0 ≤ th → th < 9223372036854775808 → inU key = true → Lined ⟨3, th, 3, key, 0, 0, 0⟩ [wSb, fm th, wDelete, fm key]
  | scan (th key hi most : Int) : 0 ≤ th → th < 9223372036854775808 → inU key = true → inU hi = true → 1 ≤ most → most ≤ 1000 → Lined ⟨3, th, 4, key, 0, hi, most⟩ [wSb, fm th, wScan, fm key, fm hi, fm most]
theorem fmI_nn {n : Int} (h : 0 ≤ n) : fmI n = fm n := by
  unfold fmI
  rw [show yLt n 0 = false from decide_eq_false (by omega)]; rfl
theorem zO_t {k key val hi most : Int} (h : zO k key val hi most = true) : k = 0 ∧ key = 0 ∧ val = 0 ∧ hi = 0 ∧ most = 0 := by
  simpa only [zO, yAnd_t, yEq_t] using h
theorem inE_t {th key val hi : Int} (h : inE th key val hi = true) : (-9223372036854775808 ≤ th ∧ th < 9223372036854775808) ∧ inU key = true ∧ inU val = true ∧ inU hi = true := by
  simpa only [inE, inO, inI, yAnd_t, yLe_t, yLt_t] using h
theorem opC_cases {k key val hi most : Int} (h : opC k key val hi most ≠ []) :
    (k = 1 ∧ val = 0 ∧ hi = 0 ∧ most = 0) ∨ (k = 2 ∧ hi = 0 ∧ most = 0) ∨ (k = 3 ∧ val = 0 ∧ hi = 0 ∧ most = 0) ∨ (k = 4 ∧ val = 0 ∧ 1 ≤ most ∧ most ≤ 1000) := by
  unfold opC at h
  cases h1 : yEq k 1 with
  | true =>
    rw [h1, cond_true] at h
    cases h2 : yAnd (yEq val 0) (yAnd (yEq hi 0) (yEq most 0)) with
    | false => rw [h2] at h; exact absurd rfl h
    | true => simp only [yAnd_t, yEq_t] at h1 h2; exact .inl ⟨h1, h2⟩
  | false =>
  rw [h1, cond_false] at h
  cases h2 : yEq k 2 with
  | true =>
    rw [h2, cond_true] at h
    cases h3 : yAnd (yEq hi 0) (yEq most 0) with
    | false => rw [h3] at h; exact absurd rfl h
    | true => simp only [yAnd_t, yEq_t] at h2 h3; exact .inr (.inl ⟨h2, h3⟩)
  | false =>
  rw [h2, cond_false] at h
  cases h3 : yEq k 3 with
  | true =>
    rw [h3, cond_true] at h
    cases h4 : yAnd (yEq val 0) (yAnd (yEq hi 0) (yEq most 0)) with
    | false => rw [h4] at h; exact absurd rfl h
    | true => simp only [yAnd_t, yEq_t] at h3 h4; exact .inr (.inr (.inl ⟨h3, h4⟩))
  | false =>
  rw [h3, cond_false] at h
  cases h4 : yAnd (yEq k 4) (yAnd (yLe 1 most) (yLe most 1000)) with
  | false => rw [h4] at h; exact absurd rfl h
  | true =>
    rw [h4, cond_true] at h
    cases h5 : yEq val 0 with
    | false => rw [h5] at h; exact absurd rfl h
    | true => simp only [yAnd_t, yEq_t, yLe_t] at h4 h5; exact .inr (.inr (.inr ⟨h4.1, h5, h4.2⟩))
theorem lined {kd th k key val hi most : Int} (hI : inE th key val hi = true) (h : lineC kd th k key val hi most ≠ []) : ∃ ws, Lined ⟨kd, th, k, key, val, hi, most⟩ ws := by
  obtain ⟨⟨_, i1⟩, i2, i3, i4⟩ := inE_t hI
  unfold lineC at h
  cases h1 : yEq kd 1 with
  | true =>
    rw [h1, cond_true] at h
    cases h2 : yAnd (yEq th 0) (zO k key val hi most) with
    | false => rw [h2] at h; exact absurd rfl h
    | true =>
      simp only [yAnd_t, yEq_t] at h1 h2
      obtain ⟨rfl, h3⟩ := h2
      obtain ⟨rfl, rfl, rfl, rfl, rfl⟩ := zO_t h3
      subst h1
      exact ⟨_, .tick⟩
  | false =>
  rw [h1, cond_false] at h
  cases h0 : yLt th 0 with
  | true => rw [h0] at h; exact absurd rfl h
  | false =>
  rw [h0, cond_false] at h
  have ht : 0 ≤ th := by simpa only [yLt_f] using h0
  cases h2 : yEq kd 2 with
  | true =>
    rw [h2, cond_true] at h
    cases h3 : zO k key val hi most with
    | false => rw [h3] at h; exact absurd rfl h
    | true =>
      simp only [yEq_t] at h2
      obtain ⟨rfl, rfl, rfl, rfl, rfl⟩ := zO_t h3
      subst h2
      exact ⟨_, .pick th ht i1⟩
  | false =>
  rw [h2, cond_false] at h
  cases h3 : yEq kd 3 with
  | false => rw [h3] at h; exact absurd rfl h
  | true =>
    rw [h3, cond_true] at h
    have hop : opC k key val hi most ≠ [] := fun e => by
      rw [e] at h
      exact absurd rfl h
    simp only [yEq_t] at h3
    subst h3
    rcases opC_cases hop with ⟨rfl, rfl, rfl, rfl⟩ | ⟨rfl, rfl, rfl⟩ | ⟨rfl, rfl, rfl, rfl⟩ | ⟨rfl, rfl, m1, m2⟩
    · exact ⟨_, .get th key ht i1 i2⟩
    · exact ⟨_, .put th key val ht i1 i2 i3⟩
    · exact ⟨_, .delete th key ht i1 i2⟩
    · exact ⟨_, .scan th key hi most ht i1 i2 i4 m1 m2⟩
theorem inU_b {n : Int} (h : inU n = true) : 0 ≤ n ∧ n < 18446744073709551616 := by
  simpa only [inU, yAnd_t, yLe_t, yLt_t] using h
theorem Lined.line {e : Ent} {ws : List (List UInt8)} (h : Lined e ws) : e.line = jn 32 ws := by
  have no : ∀ {n : Int}, 0 ≤ n → yLt n 0 = false := fun h => decide_eq_false (by omega)
  cases h with
  | tick => rfl
  | pick th h1 h2 =>
    show lineC 2 th 0 0 0 0 0 = _
    rw [lineC_2, no h1, fmI_nn h1]; rfl
  | get th key h1 h2 h3 =>
    show lineC 3 th 1 key 0 0 0 = _
    rw [lineC_3, no h1, fmI_nn h1]
    show wSubmit ++ fm th ++ 32 :: (wGet ++ 32 :: fm key) = _
    simp [jn, wSubmit, wSb]
  | put th key val h1 h2 h3 h4 =>
    show lineC 3 th 2 key val 0 0 = _
    rw [lineC_3, no h1, fmI_nn h1]
    show wSubmit ++ fm th ++ 32 :: (wPut ++ 32 :: fm key ++ 32 :: fm val) = _
    simp [jn, wSubmit, wSb]
  | delete th key h1 h2 h3 =>
    show lineC 3 th 3 key 0 0 0 = _
    rw [lineC_3, no h1, fmI_nn h1]
    show wSubmit ++ fm th ++ 32 :: (wDelete ++ 32 :: fm key) = _
    simp [jn, wSubmit, wSb]
  | scan th key hi most h1 h2 h3 h4 h5 h6 =>
    show lineC 3 th 4 key 0 hi most = _
    have hr : rightO 4 most = true := by
      show yAnd (yLe 1 most) (yLe most 1000) = true
      simp only [yAnd_t, yLe_t]; exact ⟨h5, h6⟩
    have ho : opC 4 key 0 hi most = wScan ++ 32 :: fm key ++ 32 :: fm hi ++ 32 :: fm most := by
      rw [opC_4 hr, fmI_nn (by omega)]; rfl
    rw [lineC_3, no h1, fmI_nn h1, ho]
    show wSubmit ++ fm th ++ 32 :: (wScan ++ 32 :: fm key ++ 32 :: fm hi ++ 32 :: fm most) = _
    simp [jn, wSubmit, wSb]
theorem Lined.no {e : Ent} {ws : List (List UInt8)} (h : Lined e ws) {c : UInt8} (hc : c.toNat < 48) : ∀ x ∈ ws, c ∉ x := by
  have f := fun (n : Int) (h : 0 ≤ n) => noC_fm h hc
  have w : ∀ (l : List UInt8), (l.all fun b => decide (48 ≤ b.toNat)) = true → c ∉ l := fun l hl hm => by
    have := List.all_eq_true.1 hl c hm
    have := of_decide_eq_true this
    omega
  cases h with
  | tick => simp only [List.mem_cons, List.not_mem_nil, or_false, forall_eq]; exact w _ (by decide)
  | pick th h1 h2 =>
    simp only [List.mem_cons, List.not_mem_nil, or_false, forall_eq_or_imp, forall_eq]
    exact ⟨w _ (by decide), f th h1⟩
  | get th key h1 h2 h3 =>
    simp only [List.mem_cons, List.not_mem_nil, or_false, forall_eq_or_imp, forall_eq]
    exact ⟨w _ (by decide), f th h1, w _ (by decide), f key (inU_b h3).1⟩
  | put th key val h1 h2 h3 h4 =>
    simp only [List.mem_cons, List.not_mem_nil, or_false, forall_eq_or_imp, forall_eq]
    exact ⟨w _ (by decide), f th h1, w _ (by decide), f key (inU_b h3).1, f val (inU_b h4).1⟩
  | delete th key h1 h2 h3 =>
    simp only [List.mem_cons, List.not_mem_nil, or_false, forall_eq_or_imp, forall_eq]
    exact ⟨w _ (by decide), f th h1, w _ (by decide), f key (inU_b h3).1⟩
  | scan th key hi most h1 h2 h3 h4 h5 h6 =>
    simp only [List.mem_cons, List.not_mem_nil, or_false, forall_eq_or_imp, forall_eq]
    exact ⟨w _ (by decide), f th h1, w _ (by decide), f key (inU_b h3).1, f hi (inU_b h4).1, f most (by omega)⟩
theorem Lined.cons {e : Ent} {ws : List (List UInt8)} (h : Lined e ws) : ∃ a r, ws = a :: r := by cases h <;> exact ⟨_, _, rfl⟩
theorem Lined.sp {e : Ent} {ws : List (List UInt8)} (h : Lined e ws) : spS e.line 32 = ws ∧ e.line.count 32 + 1 = ws.length := by
  rw [h.line]
  have hn := h.no (c := 32) (by decide)
  obtain ⟨a, r, rfl⟩ := h.cons
  exact ⟨jn_sp 32 a r hn, by rw [(jn_split 32 a r hn).2]; rfl⟩
theorem dc_fm {n : Int} (h0 : 0 ≤ n) (h1 : n < 18446744073709551616) : dc (fm n) = n := decI_fm h0 (by show n < 100000000000000000000; omega)
theorem Lined.back {e : Ent} {ws : List (List UInt8)} (h : Lined e ws) : entI e.line = e := by
  have hs := h.sp.1
  unfold entI
  rw [hs]
  cases h with
  | tick => rfl
  | pick th h1 h2 => show Ent.mk 2 (dc (fm th)) 0 0 0 0 0 = _; rw [dc_fm h1 (by omega)]
  | get th key h1 h2 h3 =>
    have u := inU_b h3
    show Ent.mk 3 (dc (fm th)) 1 (dc (fm key)) 0 0 0 = _
    rw [dc_fm h1 (by omega), dc_fm u.1 u.2]
  | put th key val h1 h2 h3 h4 =>
    have u := inU_b h3
    have v := inU_b h4
    show Ent.mk 3 (dc (fm th)) 2 (dc (fm key)) (dc (fm val)) 0 0 = _
    rw [dc_fm h1 (by omega), dc_fm u.1 u.2, dc_fm v.1 v.2]
  | delete th key h1 h2 h3 =>
    have u := inU_b h3
    show Ent.mk 3 (dc (fm th)) 3 (dc (fm key)) 0 0 0 = _
    rw [dc_fm h1 (by omega), dc_fm u.1 u.2]
  | scan th key hi most h1 h2 h3 h4 h5 h6 =>
    have u := inU_b h3
    have v := inU_b h4
    show Ent.mk 3 (dc (fm th)) 4 (dc (fm key)) 0 (dc (fm hi)) (dc (fm most)) = _
    rw [dc_fm h1 (by omega), dc_fm u.1 u.2, dc_fm v.1 v.2, dc_fm (n := most) (by omega) (by omega)]
theorem okLn_t {s : List UInt8} (h : okLn s = true) : ∃ ws, Lined (entI s) ws ∧ s = jn 32 ws := by
  obtain ⟨h1, h2, h3⟩ := of_decide_eq_true h
  have h4 : lineC (entI s).kd (entI s).th (entI s).k (entI s).key (entI s).val (entI s).hi (entI s).most ≠ [] := fun e => h1 (h3.symm.trans e)
  obtain ⟨ws, h⟩ := lined h2 h4
  exact ⟨ws, h, h3.symm.trans h.line⟩
theorem okLn_of {kd th k key val hi most : Int} (hI : inE th key val hi = true) (h : lineC kd th k key val hi most ≠ []) : okLn (lineC kd th k key val hi most) = true ∧ entI (lineC kd th k key val hi most) = ⟨kd, th, k, key, val, hi, most⟩ := by
  obtain ⟨ws, hL⟩ := lined hI h
  have hb : entI (lineC kd th k key val hi most) = ⟨kd, th, k, key, val, hi, most⟩ := hL.back
  refine ⟨decide_eq_true ⟨h, ?_, ?_⟩, hb⟩
  · rw [hb]; exact hI
  · rw [hb]; rfl
theorem noNl {kd th k key val hi most : Int} (hI : inE th key val hi = true) : (10 : UInt8) ∉ lineC kd th k key val hi most := by
  by_cases h : lineC kd th k key val hi most = []
  · rw [h]; simp
  · obtain ⟨ws, hL⟩ := lined hI h
    have e : lineC kd th k key val hi most = jn 32 ws := hL.line
    have hn := hL.no (c := 10) (by decide)
    rw [e]
    clear e hL
    induction ws with
    | nil => simp [jn]
    | cons a r ih =>
      cases r with
      | nil => exact hn a (by simp)
      | cons b r =>
        show (10 : UInt8) ∉ a ++ 32 :: jn 32 (b :: r)
        simp only [List.mem_append, List.mem_cons, not_or]
        exact ⟨hn a (by simp), by decide, ih (fun x hx => hn x (by simp at hx ⊢; exact .inr hx))⟩

/-! Lines. -/
def unl : List (List UInt8) → List UInt8
  | [] => []
  | l :: r => l ++ 10 :: unl r
/-- A text with a line's end. -/
def hasN (s : List UInt8) : Bool := decide (s.length < 4000000000 ∧ (10 : UInt8) ∈ s)
def cutA (s : List UInt8) (c : UInt8) : List UInt8 := s.takeWhile fun b => b != c
def cutB (s : List UInt8) (c : UInt8) : List UInt8 := (s.dropWhile fun b => b != c).tail
/-- What is left of a text behind so many lines. -/
def restL (s : List UInt8) (j : Nat) : List UInt8 := match j with
  | 0 => s
  | j + 1 => cutB (restL s j) 10
def lnAt (s : List UInt8) (j : Nat) : List UInt8 := cutA (restL s j) 10
def nL (s : List UInt8) : Nat := s.count 10
/-- A text of lines that entries have. -/
def okPar (s : List UInt8) : Bool := decide (nL s ≤ 3000 ∧ (∀ j, j < nL s → restL s j ≠ [] ∧ hasN (restL s j) = true ∧ okLn (lnAt s j) = true) ∧ restL s (nL s) = [])
theorem cut_app {c : UInt8} {a r : List UInt8} (h : c ∉ a) : cutA (a ++ c :: r) c = a ∧ cutB (a ++ c :: r) c = r := by
  have hp : ∀ b ∈ a, (b != c) = true := fun b hb => by
    simp only [bne_iff_ne, ne_eq]
    exact fun e => h (e ▸ hb)
  refine ⟨?_, ?_⟩
  · unfold cutA
    rw [List.takeWhile_append_of_pos hp]; simp
  · unfold cutB
    rw [List.dropWhile_append_of_pos hp]; simp
theorem cut_of {s : List UInt8} (h : hasN s = true) : s = cutA s 10 ++ 10 :: cutB s 10 ∧ (10 : UInt8) ∉ cutA s 10 := by
  have hm : (10 : UInt8) ∈ s := (of_decide_eq_true h).2
  obtain ⟨a, r, rfl, ha⟩ := List.eq_append_cons_of_mem hm
  obtain ⟨e1, e2⟩ := cut_app (r := r) ha
  rw [e1, e2]
  exact ⟨rfl, ha⟩
theorem unl_app : ∀ (a b : List (List UInt8)), unl (a ++ b) = unl a ++ unl b
  | [], _ => rfl
  | l :: a, b => by
    show l ++ 10 :: unl (a ++ b) = (l ++ 10 :: unl a) ++ unl b
    rw [unl_app a b]; simp
theorem unl_drop_len (LS : List (List UInt8)) (j : Nat) : (unl (LS.drop j)).length ≤ (unl LS).length := by
  have e : unl LS = unl (LS.take j) ++ unl (LS.drop j) := by rw [← unl_app, List.take_append_drop]
  rw [e, List.length_append]; omega
theorem unl_rest {LS : List (List UInt8)} (h : ∀ l ∈ LS, (10 : UInt8) ∉ l) : ∀ j, restL (unl LS) j = unl (LS.drop j)
  | 0 => rfl
  | j + 1 => by
    show cutB (restL (unl LS) j) 10 = _
    rw [unl_rest h j, ← List.tail_drop]
    cases hd : LS.drop j with
    | nil => rfl
    | cons l r => exact (cut_app (h l (List.mem_of_mem_drop (i := j) (by rw [hd]; simp)))).2
theorem unl_n {LS : List (List UInt8)} (h : ∀ l ∈ LS, (10 : UInt8) ∉ l) : nL (unl LS) = LS.length := by
  unfold nL
  induction LS with
  | nil => rfl
  | cons l r ih =>
    show (l ++ 10 :: unl r).count 10 = r.length + 1
    rw [List.count_append, List.count_eq_zero.2 (h l (by simp)), List.count_cons, ih (fun x hx => h x (by simp [hx]))]; simp
theorem unl_at {LS : List (List UInt8)} (h : ∀ l ∈ LS, (10 : UInt8) ∉ l) {j : Nat} (hj : j < LS.length) : lnAt (unl LS) j = LS[j] := by
  unfold lnAt
  rw [unl_rest h j, List.drop_eq_getElem_cons hj]
  exact (cut_app (h _ (List.getElem_mem hj))).1
theorem unl_ok {LS : List (List UInt8)} (h : ∀ l ∈ LS, (10 : UInt8) ∉ l) (hn : LS.length ≤ 3000) (hl : (unl LS).length < 4000000000) (hk : ∀ l ∈ LS, okLn l = true) : okPar (unl LS) = true := by
  unfold okPar
  rw [unl_n h]
  refine decide_eq_true ⟨hn, fun j hj => ?_, ?_⟩
  · have hb := unl_drop_len LS j
    refine ⟨?_, ?_, by rw [unl_at h hj]; exact hk _ (List.getElem_mem hj)⟩
    · rw [unl_rest h j, List.drop_eq_getElem_cons hj]
      show LS[j] ++ 10 :: unl (LS.drop (j + 1)) ≠ []
      simp
    · rw [unl_rest h j]
      refine decide_eq_true ⟨by omega, ?_⟩
      rw [List.drop_eq_getElem_cons hj]
      show (10 : UInt8) ∈ LS[j] ++ 10 :: unl (LS.drop (j + 1))
      simp
  · rw [unl_rest h, List.drop_length]; rfl
end Go.Proofs.YtjelhmdkaemiiaaDoor.Ex
