/- Contract: script.Lines are the lines of entries, walked by hand (a strings.Builder in a loop). -/
import Derived.Test.YtjelhmdkaemiiaaDoorCLine
import Derived.Test.YtjelhmdkaemiiaaDoorAr
import Derived.WalkKit
import Derived.BigCall
namespace Go.Proofs.YtjelhmdkaemiiaaDoor.Ex
open Go Go.RowKit

-- OPEN linesC linesOk
def linesC (kd th k key val hi most : Nat → Int) (n : Nat) : List UInt8 := match n with
  | 0 => []
  | i + 1 => linesC kd th k key val hi most i ++ (bif ySEq (lineC (kd i) (th i) (k i) (key i) (val i) (hi i) (most i)) [] then [] else lineC (kd i) (th i) (k i) (key i) (val i) (hi i) (most i) ++ [10])
def linesOk (n : Nat) (th key val hi : Nat → Int) : Bool := yAnd (yNle n 100000) ((List.range n).all fun i => inE (th i) (key i) (val i) (hi i))
abbrev cEnt : Cs := some (29, [.int .i64, .int .i64, .int .i64, .int .u64, .int .u64, .int .u64, .int .i64])
def fLines (ds : List Da) : Option (Bool × AV) :=
  match ds with
  | [.cell (.rows _ n [.int .i64 kd, .int .i64 th, .int .i64 k, .int .u64 key, .int .u64 val, .int .u64 hi, .int .i64 most])] => some (linesOk n th key val hi, .ys (linesC kd th k key val hi most n))
  | _ => none
theorem line_calls (hm : Tryd.prog.follows .mixedOrders = true) {kd th k key val hi most : Int} {w : World} (gw : GW w) (h1 : inI th = true) (h2 : inO key val hi = true) :
    Calls Tryd.prog 14 #[.agg #[.int .i64 kd, .int .i64 th, .int .i64 k, .int .u64 key, .int .u64 val, .int .u64 hi, .int .i64 most]] w fun e w' => e = .returned (.string ⟨(lineC kd th k key val hi most).toArray⟩) ∧ Below w.heap.size w w' := by
  have hp : yAnd (inI th) (inO key val hi) = true := by rw [h1, h2]; rfl
  refine (ctS_calls (smLine hm) (args := [.agg [.y .i64 kd, .y .i64 th, .y .i64 k, .y .u64 key, .y .u64 val, .y .u64 hi, .y .i64 most]]) (us := [.agg #[.int .i64 kd, .int .i64 th, .int .i64 k, .int .u64 key, .int .u64 val, .int .u64 hi, .int .i64 most]]) (a := .ys (lineC kd th k key val hi most)) gw ?_ ?_).mono ?_
  · show (T.must (yAnd (inI th) (inO key val hi)) (.ret (AV.ys (lineC kd th k key val hi most), _))).sel = _
    rw [hp]; rfl
  · exact ⟨_, _, ⟨_, ⟨_, _, rfl, ⟨_, _, rfl, ⟨_, _, rfl, ⟨_, _, rfl, ⟨_, _, rfl, ⟨_, _, rfl, ⟨_, _, rfl, rfl, rfl⟩, rfl⟩, rfl⟩, rfl⟩, rfl⟩, rfl⟩, rfl⟩, rfl⟩, rfl, rfl⟩
  · rintro e w' ⟨M, u, rfl, hr, hb⟩
    simp only [AV.R] at hr
    exact ⟨by rw [hr], hb⟩
theorem gw_below {w w' : World} (h : GW w) (hb : Below w.heap.size w w') : GW w' := fun g c hg => by
  obtain ⟨vs, e, fr, h1, h2⟩ := h g c hg
  exact ⟨vs, e, fr, by rw [hb.block g (heap_lt h1)]; exact h1, h2⟩
theorem builder_below {T e : TypeId} {B b : Nat} {bs : List Value} {w w' : World} (h : Lib.IsBuilderF T e B b bs w) (hb : Below w.heap.size w w') : Lib.IsBuilderF T e B b bs w' := by
  have key : ∀ p, Lib.BuilderAtF T e B b p bs w → Lib.BuilderAtF T e B b p bs w' := fun p h => by
    obtain ⟨h1, v, h2, h3, h4⟩ := h
    refine ⟨h1, v, by rw [hb.block b (heap_lt h2)]; exact h2, ?_, h4⟩
    refine ⟨h3.1, ?_⟩
    rcases h3.2 with hn | ⟨g, cap, cur, fz, q1, q2, q3, q4⟩
    · exact .inl hn
    · exact .inr ⟨g, cap, cur, fz, q1, q2, by rw [hb.block g (heap_lt q3)]; exact q3, q4⟩
  exact h.elim (fun x => .inl (key _ x)) (fun x => .inr (key _ x))
theorem lays166 : Lays.n166 Tryd.prog Tryd.lays156_ren := { Tryd.lays156 with }
theorem lays169 : Lays.n169 Tryd.prog Tryd.lays156_ren := { Tryd.lays156 with }
theorem write_k (B b : Nat) (bs : List Value) (s : ByteArray) (w : World) (h : Lib.IsBuilderF 46 5 B b bs w) (hlen : bs.length + s.size ≤ 140737488355328) (hBw : B ≤ w.heap.size) :
    Calls Tryd.prog 15 #[.pointer (some ⟨b, 0, none⟩), .string s] w fun e w' => e = .returned (.tuple #[.int .i64 s.size, .nilIface]) ∧ (Lib.IsBuilderF 46 5 B b (bs ++ Lib.strCells s) w' ∧ Below B w w' ∧ Lib.OthersKept 5 (some b) w w') :=
  (Any.Builder_WriteString_k lays166 Tryd.Builder_Extra_156 B b bs s w h hlen hBw).mono fun _ _ ⟨h1, h2, h3, h4⟩ => ⟨h1, .inr h2, h3, h4⟩
theorem string_k (B b : Nat) (l : List UInt8) (w : World) (h : Lib.IsBuilderF 46 5 B b (Lib.byteCells l) w) (hBw : B ≤ w.heap.size) :
    Calls Tryd.prog 16 #[.pointer (some ⟨b, 0, none⟩)] w fun e w' => e = .returned (.string ⟨l.toArray⟩) ∧ Below B w w' :=
  (Any.Builder_String_any_k lays169 Tryd.Builder_Extra_156 B b l w h hBw).mono fun _ _ ⟨h1, _, h3, _⟩ => ⟨h1, h3⟩
structure EntAt (w : World) (a : Option Addr) (i : Nat) (kd th k key val hi most : Int) : Prop where
  at_ : ∃ b o, a = some ⟨b, o, none⟩ ∧ b < w.heap.size ∧ w.cell? ⟨b, o + i * 7, none⟩ = some (.int .i64 kd) ∧ w.cell? ⟨b, o + i * 7 + 1, none⟩ = some (.int .i64 th) ∧ w.cell? ⟨b, o + i * 7 + 2, none⟩ = some (.int .i64 k) ∧
    w.cell? ⟨b, o + i * 7 + 3, none⟩ = some (.int .u64 key) ∧ w.cell? ⟨b, o + i * 7 + 4, none⟩ = some (.int .u64 val) ∧ w.cell? ⟨b, o + i * 7 + 5, none⟩ = some (.int .u64 hi) ∧ w.cell? ⟨b, o + i * 7 + 6, none⟩ = some (.int .i64 most)
theorem EntAt.below {w w' : World} {a : Option Addr} {i : Nat} {kd th k key val hi most : Int} (h : EntAt w a i kd th k key val hi most) (hb : Below w.heap.size w w') : EntAt w' a i kd th k key val hi most := by
  obtain ⟨b, o, e, hlt, h0, h1, h2, h3, h4, h5, h6⟩ := h
  have f := fun n => hb.cell (p := ⟨b, n, none⟩) hlt
  exact ⟨b, o, e, Nat.lt_of_lt_of_le hlt hb.size, by rw [f]; exact h0, by rw [f]; exact h1, by rw [f]; exact h2, by rw [f]; exact h3, by rw [f]; exact h4, by rw [f]; exact h5, by rw [f]; exact h6⟩
theorem lineC_len (kd th k key val hi most : Int) : (lineC kd th k key val hi most).length ≤ 130 := by
  have h1 := fmI_len th
  have h2 := opC_len k key val hi most
  unfold yLen at *
  unfold lineC
  simp only [Bool.cond_eq_ite]
  repeat' split
  all_goals simp [wTick, wPick, wSubmit] <;> omega
theorem linesC_len (kd th k key val hi most : Nat → Int) : ∀ n, (linesC kd th k key val hi most n).length ≤ 131 * n
  | 0 => by simp [linesC]
  | n + 1 => by
    have h1 := linesC_len kd th k key val hi most n
    have h2 := lineC_len (kd n) (th n) (k n) (key n) (val n) (hi n) (most n)
    rw [linesC, List.length_append]
    cases ySEq (lineC (kd n) (th n) (k n) (key n) (val n) (hi n) (most n)) [] with
    | true => simp; omega
    | false => simp; omega
set_option maxHeartbeats 4000000 in
set_option maxRecDepth 1000000 in
theorem lines_walk (hm : Tryd.prog.follows .mixedOrders = true) (a : Option Addr) (n cp : Nat) (kd th k key val hi most : Nat → Int) (w : World) (gw : GW w) (hn : n ≤ 100000)
    (hr : ∀ i, i < n → inI (th i) = true ∧ inO (key i) (val i) (hi i) = true) (hc : ∀ i, i < n → EntAt w a i (kd i) (th i) (k i) (key i) (val i) (hi i) (most i)) :
    Calls Tryd.prog 7 #[.slice a n cp] w fun e w' => e = .returned (.string ⟨(linesC kd th k key val hi most n).toArray⟩) ∧ Below w.heap.size w w' := by
  have HM := Lib.hid hm
  have HG := Lib.hid gw
  have HR := Lib.hid hr
  have HC := Lib.hid hc
  clear hm gw hr hc
  go_enter Tryd.func7, Tryd.ntmps7
  go_wp2
  go_loopg [9] n (fun g i wr => ∃ j : Nat, j ≤ n ∧ g = n - j ∧ i = .int .i64 j ∧ Lib.IsBuilderF 46 5 w.heap.size w.heap.size (Lib.byteCells (linesC kd th k key val hi most j)) wr ∧ Below w.heap.size w wr)
  case atStart =>
    refine ⟨0, by omega, by omega, rfl, Lib.IsBuilderF.of (Lib.fresh_isBuilder _ _ w), (Below.refl _ w).alloc (Nat.le_refl _) _⟩
  case round =>
    obtain ⟨j, hj, rfl, rfl, hI, hbw⟩ := hrel
    by_cases hlt : j < n
    · obtain ⟨b, o, rfl, hlb, e0, e1, e2, e3, e4, e5, e6⟩ := (HC.out j hlt).below hbw
      obtain ⟨hr1, hr2⟩ := HR.out j hlt
      have hbA : Below wr.heap.size wr (wr.alloc (.cells #[.int .i64 (kd j), .int .i64 (th j), .int .i64 (k j), .int .u64 (key j), .int .u64 (val j), .int .u64 (hi j), .int .i64 (most j)] 29)) := (Below.refl _ wr).alloc (Nat.le_refl _) _
      have hgA := gw_below (gw_below HG.out hbw) hbA
      have HM2 := HM.out
      go_wp2_with (go_at_call 14; refine (line_calls HM2 hgA hr1 hr2).mono ?_)
      rintro e w1 ⟨rfl, hb1⟩
      have hIA := builder_below (builder_below hI hbA) hb1
      have hlen := linesC_len kd th k key val hi most j
      have hlenL := lineC_len (kd j) (th j) (k j) (key j) (val j) (hi j) (most j)
      have hstep : linesC kd th k key val hi most (j + 1) = linesC kd th k key val hi most j ++ (bif ySEq (lineC (kd j) (th j) (k j) (key j) (val j) (hi j) (most j)) [] then [] else lineC (kd j) (th j) (k j) (key j) (val j) (hi j) (most j) ++ [10]) := rfl
      have hb2 : Below w.heap.size w w1 := (hbw.trans (hbA.mono hbw.size)).trans (hb1.mono (Nat.le_trans hbw.size hbA.size))
      generalize lineC (kd j) (th j) (k j) (key j) (val j) (hi j) (most j) = L at *
      have HS := Lib.hid hstep
      clear hstep e0 e1 e2 e3 e4 e5 e6
      by_cases hL : L = []
      · subst hL
        go_wp2
        go_roundg (n - (j + 1))
        case rel =>
          refine ⟨j + 1, by omega, rfl, by go_num, ?_, hb2⟩
          rw [HS.out]
          have e : ySEq ([] : List UInt8) [] = true := rfl
          rw [e, cond_true, List.append_nil]
          exact hIA
        case measure => omega
      · have hE : L.isEmpty = false := by cases L with
          | nil => exact absurd rfl hL
          | cons x l => rfl
        have hsz : ((⟨L.toArray⟩ : ByteArray) ++ ⟨#[10]⟩).size = L.length + 1 := by
          rw [ByteArray.size_append]; rfl
        have hsc : Lib.strCells ((⟨L.toArray⟩ : ByteArray) ++ ⟨#[10]⟩) = Lib.byteCells (L ++ [10]) := by
          simp [Lib.strCells, Lib.byteCells]
        have hlw : (Lib.byteCells (linesC kd th k key val hi most j)).length + ((⟨L.toArray⟩ : ByteArray) ++ ⟨#[10]⟩).size ≤ 140737488355328 := by
          rw [Lib.byteCells_length, hsz]; omega
        go_wp2_with (go_at_call 15; refine (write_k w.heap.size w.heap.size _ _ _ hIA hlw hb2.size).mono ?_)
        rintro e w2 ⟨rfl, hI2, hb3, _⟩
        go_wp2
        go_roundg (n - (j + 1))
        case rel =>
          refine ⟨j + 1, by omega, rfl, by go_num, ?_, hb2.trans hb3⟩
          have e : ySEq L [] = false := by
            show eqS L [] = false
            rw [eqS_eq]
            cases L with
            | nil => exact absurd rfl hL
            | cons x l => rfl
          rw [HS.out, e, cond_false, Lib.byteCells_append, ← hsc]
          exact hI2
        case measure => omega
    · obtain rfl : j = n := by omega
      go_wp2_with (go_at_call 16; refine (string_k w.heap.size w.heap.size _ _ hI hbw.size).mono ?_)
      rintro e W1 ⟨rfl, b1⟩
      go_wp2
      go_ret
      exact ⟨rfl, hbw.trans b1⟩
theorem linesOk_t {n : Nat} {th key val hi : Nat → Int} (h : linesOk n th key val hi = true) : n ≤ 100000 ∧ ∀ i, i < n → inI (th i) = true ∧ inO (key i) (val i) (hi i) = true := by
  simp only [linesOk, yAnd_t, yNle_t] at h
  refine ⟨h.1, fun i hi => ?_⟩
  have := List.all_eq_true.1 h.2 i (List.mem_range.2 hi)
  simpa only [inE, yAnd_t] using this
theorem smLines (hm : Tryd.prog.follows .mixedOrders = true) : SmCall Tryd.prog 7 (fun args h => (ctS [.cell cEnt] fLines args h).sel) :=
  ctS_hand Tryd.func7 (by kernel_rfl) (by kernel_rfl) (fun ds a us w hF hd hw => by
    unfold fLines at hF
    split at hF
    case h_2 => cases hF
    rename_i nil n kd th k key val hi most
    simp only [Option.some.injEq, Prod.mk.injEq] at hF
    obtain ⟨h1, rfl⟩ := hF
    obtain ⟨hn, hr⟩ := linesOk_t h1
    obtain ⟨d0, ds1, u0, us1, e1, rfl, hd1, hd⟩ := hd
    simp only [List.cons.injEq] at e1
    obtain ⟨rfl, rfl⟩ := e1
    obtain ⟨_, rfl⟩ := hd
    have fin : ∀ {a cp}, (∀ i, i < n → EntAt w a i (kd i) (th i) (k i) (key i) (val i) (hi i) (most i)) → Calls Tryd.prog 7 #[.slice a n cp] w fun e w' => ∃ u, e = .returned u ∧ (∀ M, (AV.ys (linesC kd th k key val hi most n)).R M u) ∧ Below w.heap.size w w' := fun hc =>
      (lines_walk hm _ n _ kd th k key val hi most w hw hn hr hc).mono fun e w' ⟨he, hb⟩ => ⟨_, he, fun M => rfl, hb⟩
    rcases hd1 with ⟨_, rfl, rfl⟩ | ⟨_, p, kp, rfl, hnk, h⟩
    · exact fin (fun i hi => absurd hi (by omega))
    · rcases h with h0 | ⟨b, off, rfl, cs, e, fr, hb, hc⟩
      · subst h0
        exact fin (fun i hi => absurd hi (by omega))
      · refine fin (fun i hi2 => ⟨b, off, rfl, heap_lt hb, ?_⟩)
        have key2 : ∀ j, j < 7 → ∀ v, (∀ u, (colF [.int .i64 kd, .int .i64 th, .int .i64 k, .int .u64 key, .int .u64 val, .int .u64 hi, .int .i64 most] i j).R noM u → u = v) → w.cell? ⟨b, off + i * 7 + j, none⟩ = some v := fun j hj v hv => by
          obtain ⟨u, q1, q2, q3⟩ := hc i hi2 j hj
          rw [← hv u q3]
          simp only [World.cell?, hb]
          exact q1
        exact ⟨key2 0 (by omega) _ (fun u h => h), key2 1 (by omega) _ (fun u h => h), key2 2 (by omega) _ (fun u h => h), key2 3 (by omega) _ (fun u h => h), key2 4 (by omega) _ (fun u h => h), key2 5 (by omega) _ (fun u h => h), key2 6 (by omega) _ (fun u h => h)⟩)
end Go.Proofs.YtjelhmdkaemiiaaDoor.Ex
