/- Contract: census.Told.Right tells whether each slot of five lists is from 1 on up to a number, and there just once. -/
import Derived.Test.YtppcjdhohohcfaaGreatDoorAr
import Derived.Maps.RangeWalk
import Derived.Maps.OwnOps
import Derived.Maps.OwnSet
namespace Go.Proofs.YtppcjdhohohcfaaGreatDoor
open Go Go.RowKit Go.Maps

/-- How often each number stands in a list, as a map (the list's last one first). -/
def cntD {H : Type} : List Int → DataW H
  | [] => .map []
  | x :: r => (cntD r).put (.int .i64 x) (.lit (.int .i64 ((r.count x : Int) + 1)))
theorem cntD_map {H : Type} : ∀ r : List Int, IsMap (cntD (H := H) r)
  | [] => isMap_empty
  | _ :: r => (cntD_map r).put _ _
theorem cntD_at {H : Type} (y : Int) (z : DataW H) : ∀ r : List Int, (cntD r).atKey (.int .i64 y) z = if y ∈ r then .lit (.int .i64 (r.count y : Int)) else z
  | [] => by simp [cntD, DataW.atKey]
  | x :: r => by
    by_cases h : y = x
    · subst h
      rw [cntD, atKey_put_same (cntD_map r) (by trivial)]
      simp
    · rw [cntD, atKey_put_other (by simpa using h), cntD_at y z r]
      have hx : ¬ x = y := fun e => h e.symm
      simp [h, hx, List.count_cons]
theorem cntD_has {H : Type} (y : Int) : ∀ r : List Int, Maps.has (cntD (H := H) r) (.int .i64 y) = decide (y ∈ r)
  | [] => by simp [cntD, Maps.has]
  | x :: r => by
    by_cases h : y = x
    · subst h
      rw [cntD, has_put_same (cntD_map r) (by trivial)]; simp
    · rw [cntD, has_put_other (by simpa using h), cntD_has y r]; simp [h]

def cenR (all : List Int) (snd : Bool) (slots : Int) : Bool :=
  decide (snd = true ∧ (all.length : Int) = max 0 slots ∧ ∀ x ∈ all, 1 ≤ x ∧ x ≤ slots ∧ all.count x = 1)

theorem cenLaw : Keyed Tryz.prog 3 := int_keyed Tryz.underlying3
theorem cenZero (w : World) : (zeroValue 3).run Tryz.prog w = .ok (.int .i64 0) w := by kernel_rfl
set_option maxRecDepth 100000 in
theorem lists_any (a0 a1 a2 a3 a4 : Option Addr) (n0 n1 n2 n3 n4 c0 c1 c2 c3 c4 : Nat) (sd : Bool) (w : World) :
    Calls Tryz.prog 26 #[.agg #[.slice a0 n0 c0, .slice a1 n1 c1, .slice a2 n2 c2, .slice a3 n3 c3, .slice a4 n4 c4, .bool sd]] w fun e w' => ∃ b, e = .returned (.slice (some ⟨b, 0, none⟩) 5 5) ∧ w.heap.size ≤ b ∧ w'.holds b ∧ Below w.heap.size w w' ∧
      w'.cell? ⟨b, 0, none⟩ = some (.slice a0 n0 c0) ∧ w'.cell? ⟨b, 1, none⟩ = some (.slice a1 n1 c1) ∧ w'.cell? ⟨b, 2, none⟩ = some (.slice a2 n2 c2) ∧ w'.cell? ⟨b, 3, none⟩ = some (.slice a3 n3 c3) ∧ w'.cell? ⟨b, 4, none⟩ = some (.slice a4 n4 c4) := by
  go_enter Tryz.func26, Tryz.ntmps26
  go_wp2
  go_ret
  refine ⟨w.heap.size + 1, rfl, by omega, by simp [World.holds], (by ((repeat' (first | exact Below.refl _ _ | assumption | (refine Below_alloc ?_ ?_ _) | (refine Below_ext ?_ ?_ _ _) | (refine Below_setCell ?_ _ _ _ ?_) | apply Below.drew | refine Below_drewN ?_ _)) <;> first | done | (simp; done) | (simp; omega))), ?_, ?_, ?_, ?_, ?_⟩ <;> go_simp

/-- A slice of numbers. -/
def ArrI (w : World) (v : Value) (l : List Int) : Prop := ∃ a cap, v = .slice a l.length cap ∧ ∀ i x, l[i]? = some x → ∃ b o, a = some ⟨b, o, none⟩ ∧ b < w.heap.size ∧ w.cell? ⟨b, o + i, none⟩ = some (.int .i64 x)
/-- The five lists. -/
structure Lists5 (w : World) (vs : List (Value × List Int)) : Prop where
  len : vs.length = 5
  arr : ∀ p ∈ vs, ArrI w p.1 p.2
  wf : ∀ p ∈ vs, ∀ x ∈ p.2, (Lit.int .i64 x).wf = true
  few : ∀ p ∈ vs, p.2.length ≤ 100000000
def cflat (vs : List (Value × List Int)) (k : Nat) : List Int := (vs.take k).flatMap (·.2)
theorem cflat_succ {vs : List (Value × List Int)} {k : Nat} {p : Value × List Int} (h : vs[k]? = some p) : cflat vs (k + 1) = cflat vs k ++ p.2 := by
  obtain ⟨h1, h2⟩ := List.getElem?_eq_some_iff.1 h
  unfold cflat
  rw [List.take_succ_eq_append_getElem h1, h2]
  simp
theorem cflat_len {w : World} {vs : List (Value × List Int)} (h : Lists5 w vs) (k : Nat) : (cflat vs k).length ≤ 100000000 * k := by
  induction k with
  | zero => simp [cflat]
  | succ k ih =>
    cases hk : vs[k]? with
    | none =>
      have : vs.length ≤ k := List.getElem?_eq_none_iff.1 hk
      have e : cflat vs (k + 1) = cflat vs k := by unfold cflat; rw [List.take_of_length_le (by omega), List.take_of_length_le (by omega)]
      rw [e]; omega
    | some p =>
      rw [cflat_succ hk, List.length_append]
      have := h.few p (List.mem_of_getElem? hk)
      omega
theorem below_of_grown {w a b : World} {row : Option Nat} (h : Below w.heap.size w a) (g : a.grownBy b row) (hr : ∀ i, row = some i → w.heap.size ≤ i) : Below w.heap.size w b :=
  ⟨g.os.trans h.os, g.tape.trans h.tape, g.output.trans h.output, Nat.le_trans h.size g.size, fun k hk => (g.block k (Nat.lt_of_lt_of_le hk h.size) (fun e => by have := hr _ e.symm; omega)).trans (h.block k hk)⟩
theorem cell_of_grown {a b : World} {row : Option Nat} {q o : Nat} {v : Value} (g : a.grownBy b row) (hq : q < a.heap.size) (hr : some q ≠ row) (h : a.cell? ⟨q, o, none⟩ = some v) : b.cell? ⟨q, o, none⟩ = some v :=
  (World.cell?_of_block (w := a) (g.block q hq hr)).trans h
theorem cenR_bad {all : List Int} {sd : Bool} {slots x : Int} (hx : x ∈ all) (h : ¬ (1 ≤ x ∧ x ≤ slots ∧ all.count x = 1)) : cenR all sd slots = false :=
  decide_eq_false fun e => h (e.2.2 x hx)
theorem cenR_good {all : List Int} {sd : Bool} {slots : Int} (h : ∀ x ∈ all, 1 ≤ x ∧ x ≤ slots ∧ all.count x = 1) : cenR all sd slots = (sd && decide ((all.length : Int) = max 0 slots)) := by
  unfold cenR
  cases sd
  · simp
  · simp only [true_and, Bool.true_and]
    congr 1
    exact propext ⟨fun e => e.1, fun e => ⟨e, h⟩⟩
set_option maxRecDepth 100000 in
set_option maxHeartbeats 4000000 in
theorem right_any {H : Type} (a0 a1 a2 a3 a4 : Option Addr) (l0 l1 l2 l3 l4 : List Int) (cc0 c1 c2 c3 c4 : Nat) (sd : Bool) (slots : Int) (w : World)
    (h : Lists5 w [(.slice a0 l0.length cc0, l0), (.slice a1 l1.length c1, l1), (.slice a2 l2.length c2, l2), (.slice a3 l3.length c3, l3), (.slice a4 l4.length c4, l4)]) :
    Calls Tryz.prog 7 #[.agg #[.slice a0 l0.length cc0, .slice a1 l1.length c1, .slice a2 l2.length c2, .slice a3 l3.length c3, .slice a4 l4.length c4, .bool sd], .int .i64 slots] w fun e w' =>
      e = .returned (.bool (cenR (l0 ++ (l1 ++ (l2 ++ (l3 ++ l4)))) sd slots)) ∧ Below w.heap.size w w' := by
  have hmm := @run_makeMap Tryz.prog
  generalize hvs : ([(.slice a0 l0.length cc0, l0), (.slice a1 l1.length c1, l1), (.slice a2 l2.length c2, l2), (.slice a3 l3.length c3, l3), (.slice a4 l4.length c4, l4)] : List (Value × List Int)) = vs at h
  go_enter Tryz.func7, Tryz.ntmps7
  go_wp2_with (fail)
  refine (lists_any a0 a1 a2 a3 a4 l0.length l1.length l2.length l3.length l4.length cc0 c1 c2 c3 c4 sd _).mono ?_
  rintro e w' ⟨b, rfl, hb0, hbh, hbx, e0, e1, e2, e3, e4⟩
  obtain ⟨E, nx, rfl⟩ := below_ext hbx
  clear hbx
  simp only []
  have hge : ∀ x : World, x.grownBy x (some (w.heap.size + 1)) := fun x => ⟨rfl, rfl, rfl, Nat.le_refl _, fun _ _ _ => rfl⟩
  obtain ⟨W1, hW1⟩ : ∃ W1, W1 = (((w.alloc (.cells #[.slice a0 l0.length cc0, .slice a1 l1.length c1, .slice a2 l2.length c2, .slice a3 l3.length c3, .slice a4 l4.length c4, .bool sd] 25)).alloc (.map #[] 0)).ext E nx) := ⟨_, rfl⟩
  have hB : Below w.heap.size w W1 := by rw [hW1]; exact (by ((repeat' (first | exact Below.refl _ _ | assumption | (refine Below_alloc ?_ ?_ _) | (refine Below_ext ?_ ?_ _ _) | (refine Below_setCell ?_ _ _ _ ?_) | apply Below.drew | refine Below_drewN ?_ _)) <;> first | done | (simp; done) | (simp; omega)))
  have hS : W1.cell? ⟨w.heap.size, 5, none⟩ = some (.bool sd) := by rw [hW1]; go_simp
  have hz1 : w.heap.size + 2 ≤ W1.heap.size := by rw [hW1]; simp
  have hb2 : w.heap.size + 2 ≤ b := by simpa using hb0
  have hown0 : W1.ownsMap Tryz.prog 3 (plainElem (H := H) Tryz.prog 3) (w.heap.size + 1) 0 (.map []) := by
    have hm0 := World.ownsMap_made (H := H) (w.alloc (.cells #[.slice a0 l0.length cc0, .slice a1 l1.length c1, .slice a2 l2.length c2, .slice a3 l3.length c3, .slice a4 l4.length c4, .bool sd] 25)) Tryz.prog 3 (plainElem (H := H) Tryz.prog 3)
    rw [World.size_alloc] at hm0
    rw [hW1]
    exact hm0.kept (row := none) ⟨rfl, rfl, rfl, by simp, fun i hi _ => ext_heap _ _ _ _ hi⟩ (by simp)
  have hbc : ∀ k p, vs[k]? = some p → W1.cell? ⟨b, k, none⟩ = some p.1 := by
    intro k p hp
    rw [hW1]
    subst hvs
    match k with
    | 0 => simp at hp; subst hp; exact e0
    | 1 => simp at hp; subst hp; exact e1
    | 2 => simp at hp; subst hp; exact e2
    | 3 => simp at hp; subst hp; exact e3
    | 4 => simp at hp; subst hp; exact e4
    | k + 5 => simp at hp
  have hbh1 : b < W1.heap.size := by rw [hW1]; exact hbh
  clear e0 e1 e2 e3 e4 hbh hb0
  go_wp2_with (fail)
  rw [← hW1]
  clear hW1
  go_loopw [6, 17] (fun n i wr => ∃ k : Nat, k ≤ 5 ∧ i = .int .i64 k ∧ n = .int .i64 (cflat vs k).length ∧
    wr.ownsMap Tryz.prog 3 (plainElem (H := H) Tryz.prog 3) (w.heap.size + 1) (cflat vs k).length (cntD (cflat vs k).reverse) ∧ W1.grownBy wr (some (w.heap.size + 1)))
    (fun _ i _ => 5 - (intOf i).toNat)
  case atStart =>
    have c0 : cflat vs 0 = [] := by simp [cflat]
    exact ⟨0, by omega, rfl, by rw [c0]; rfl, by rw [c0]; exact hown0, hge _⟩
  case round =>
    obtain ⟨k, hk, rfl, rfl, hown, hgr⟩ := hrel
    have hbk := fun i (h1 : i < W1.heap.size) (h2 : some i ≠ some (w.heap.size + 1)) => hgr.block i h1 h2
    by_cases hlt : k < 5
    · obtain ⟨p, hp⟩ : ∃ p, vs[k]? = some p := ⟨_, List.getElem?_eq_getElem (by rw [h.len]; exact hlt)⟩
      have hcell : wr.cell? ⟨b, k, none⟩ = some p.1 := (World.cell?_of_block (w := W1) (hbk b hbh1 (by simp; omega))).trans (hbc k p hp)
      have hpm := List.mem_of_getElem? hp
      have hA0 := h.arr p hpm
      have hfw := h.few p hpm
      have hwf := h.wf p hpm
      have hfl := cflat_len h k
      have hsu := cflat_succ hp
      obtain ⟨pv, L⟩ := p
      dsimp only at hA0 hcell hfw hwf hsu
      have hA := Lib.hid hA0
      obtain ⟨a, cap, rfl, -⟩ := hA0
      go_wp2_with (first | go_in)
      go_loopw [27] (fun i w2 => ∃ j : Nat, j ≤ L.length ∧ i = .int .i64 j ∧ w2.ownsMap Tryz.prog 3 (plainElem (H := H) Tryz.prog 3) (w.heap.size + 1) ((cflat vs k).length + j) (cntD (cflat vs k ++ L.take j).reverse) ∧
        W1.grownBy w2 (some (w.heap.size + 1))) (fun i _ => L.length - (intOf i).toNat)
      case atStart => exact ⟨0, Nat.zero_le _, rfl, by simpa using hown, hgr⟩
      case round =>
        obtain ⟨j, hj, rfl, hown2, hgr2⟩ := hrel
        by_cases hjl : j < L.length
        · obtain ⟨x, hx⟩ : ∃ x, L[j]? = some x := ⟨_, List.getElem?_eq_getElem hjl⟩
          obtain ⟨a', cap', e', hel⟩ := hA.out
          injection e' with e1 e2 e3
          subst e1 e3
          obtain ⟨bb, o, rfl, hbb, hcc⟩ := hel j x hx
          have hwx := hwf x (List.mem_of_getElem? hx)
          have hcj : wr.cell? ⟨bb, o + j, none⟩ = some (.int .i64 x) := by
            have h1 : bb < w.heap.size := hbb
            rw [World.cell?_of_block (w := W1) (hgr2.block bb (by omega) (by simp; omega)), World.cell?_of_block (w := w) (hB.block bb h1)]
            exact hcc
          have hct : ∀ c : Int, (cntD (H := H) (cflat vs k ++ L.take j).reverse).atKey (.int .i64 x) (.lit (.int .i64 0)) = .lit (.int .i64 c) → c = ((cflat vs k ++ L.take j).reverse.count x : Int) := by
            intro c hc
            rw [cntD_at] at hc
            split at hc
            · injection hc with hc; injection hc with _ hc; exact hc.symm
            · rename_i hm
              rw [List.count_eq_zero_of_not_mem hm]
              injection hc with hc; injection hc with _ hc; exact hc.symm
          have hcl : (cflat vs k ++ L.take j).reverse.count x ≤ 600000000 := by
            have := List.count_le_length (a := x) (l := (cflat vs k ++ L.take j).reverse)
            rw [List.length_reverse, List.length_append, List.length_take] at this
            omega
          have ht : (L.take (j + 1)).reverse ++ (cflat vs k).reverse = x :: (cflat vs k ++ L.take j).reverse := by
            obtain ⟨_, hxe⟩ := List.getElem?_eq_some_iff.1 hx
            rw [List.take_succ_eq_append_getElem hjl, hxe]; simp
          generalize hq : (cflat vs k ++ L.take j).reverse.count x = q at hct hcl
          clear hcc hel hx hA
          go_wp2_with (first
            | (at_lookup; refine wpList_lookup_own_int _ rfl _ _ 55 rfl 3 3 .i64 cenLaw Tryz.underlying55 Tryz.underlying3 (cenZero _) (w.heap.size + 1) _ _ rfl hown2 _ _ rfl (keyOf_int_mk Tryz.underlying3 hwx) ?_; intro c hat hwc; obtain rfl := hct c hat; clear hat hwc)
            | (at_mapUpdate; refine wpList_mapUpdate_own _ rfl _ _ _ 55 rfl 3 3 cenLaw Tryz.underlying55 _ (w.heap.size + 1) _ _ rfl hown2 (by unfold maxLen; omega) _ _ _ rfl rfl (keyOf_int_mk Tryz.underlying3 hwx) _ [] (plainElem_int Tryz.underlying3 (WalkArith.wf_i64 (by omega))) ?_; intro w3 hown3 hgr3)
            | go_in)
          refine ⟨⟨j + 1, by omega, by go_num, ?_, hgr2.andThen hgr3 (fun i hi => Or.inr hi)⟩, by simp [intOf]; omega⟩
          rw [ht, cntD, hq]
          exact hown3
        · obtain rfl : j = L.length := by omega
          rw [List.take_length, ← hsu] at hown2
          have hle : (cflat vs k).length + L.length = (cflat vs (k + 1)).length := by rw [hsu, List.length_append]
          rw [hle] at hown2
          go_wp2
          exact ⟨⟨k + 1, by omega, by go_num, by rw [← hle]; go_num, hown2, hgr2⟩, by simp [intOf]; omega⟩
    · obtain rfl : k = 5 := by omega
      go_wp2_with (first
        | (at_range; refine wpList_range_own _ rfl _ 55 rfl 3 3 cenLaw Tryz.underlying55 _ (w.heap.size + 1) _ _ rfl hown ?_; intro w0 hrg0 hg0 hs0)
        | go_in)
      go_frame
      have hr2 : w.heap.size + 2 ≤ wr.heap.size := Nat.le_trans hz1 hgr.size
      have hgr0 := hgr.andThen hg0 (fun i hi => by cases hi)
      generalize wr.heap.size = r at hrg0 hs0 hr2 ⊢
      have hall : (cflat vs 5).reverse = (l0 ++ (l1 ++ (l2 ++ (l3 ++ l4)))).reverse := by subst hvs; simp [cflat]
      have hlen5 : (cflat vs 5).length = (l0 ++ (l1 ++ (l2 ++ (l3 ++ l4)))).length := by rw [← List.length_reverse, hall, List.length_reverse]
      rw [hall] at hrg0
      have hbad : ∀ x, x ∈ (l0 ++ (l1 ++ (l2 ++ (l3 ++ l4)))).reverse → ¬ (1 ≤ x ∧ x ≤ slots ∧ (l0 ++ (l1 ++ (l2 ++ (l3 ++ l4)))).reverse.count x = 1) → false = cenR (l0 ++ (l1 ++ (l2 ++ (l3 ++ l4)))) sd slots :=
        fun x hx h => (cenR_bad (List.mem_reverse.1 hx) (by rwa [List.count_reverse] at h)).symm
      have hok : (∀ x ∈ (l0 ++ (l1 ++ (l2 ++ (l3 ++ l4)))).reverse, 1 ≤ x ∧ x ≤ slots ∧ (l0 ++ (l1 ++ (l2 ++ (l3 ++ l4)))).reverse.count x = 1) →
          cenR (l0 ++ (l1 ++ (l2 ++ (l3 ++ l4)))) sd slots = (sd && decide (((cflat vs 5).length : Int) = max 0 slots)) := by
        intro h
        rw [hlen5]
        exact cenR_good fun x hx => by
          have := h x (List.mem_reverse.2 hx)
          rwa [List.count_reverse] at this
      clear hlen5
      generalize (l0 ++ (l1 ++ (l2 ++ (l3 ++ l4)))).reverse = all at hrg0 hall hbad hok
      go_loopw [11] (fun _ w2 => ∃ (left : Lit → Bool) (cnt : Nat), w2.ranges Tryz.prog 3 (plainElem (H := H) Tryz.prog 3) (w.heap.size + 1) r (cflat vs 5).length (cntD all) left cnt ∧
        (∀ y ∈ all, left (.int .i64 y) = true ∨ (1 ≤ y ∧ y ≤ slots ∧ all.count y = 1)) ∧ Below w.heap.size w w2 ∧ w2.cell? ⟨w.heap.size, 5, none⟩ = some (.bool sd) ∧ w.heap.size < w2.heap.size)
        (fun _ w2 => w2.rangeLeft (w.heap.size + 1) r)
      case atStart =>
        have hb0 := below_of_grown hB hgr0 (fun i hi => by cases hi; omega)
        exact ⟨_, _, hrg0, fun y hy => .inl (by rw [cntD_has]; simpa using hy), hb0, cell_of_grown hgr0 (by omega) (by simp) hS, by have := hgr0.size; omega⟩
      case round =>
        obtain ⟨left, cnt, hrg, hgood, hbl, hcl, hsz⟩ := hrel
        go_wp2_with (first
          | (at_next; refine wpList_next_ranges_ii _ rfl _ rfl 3 3 .i64 .i64 cenLaw Tryz.underlying3 Tryz.underlying3 (w.heap.size + 1) r _ _ _ _ rfl hrg ?_ ?_)
          | go_in)
        · intro _ hl0
          have hok1 := hok fun y hy => (hgood y hy).resolve_left (by rw [hl0]; simp)
          cases sd
          · go_wp2
            go_ret
            exact ⟨ret_bool hok1.symm, hbl⟩
          · go_wp2
            all_goals go_ret
            all_goals refine ⟨ret_bool ?_, hbl⟩
            · rw [show max 0 slots = slots by omega]; rfl
            · rw [show max 0 slots = 0 by omega]; rfl
        · intro x c w3 cnt1 hwx hwc hlx hat hrg1 hlt hg1 hs1 hen
          have hb3 := below_of_grown hbl hg1 (fun i hi => by cases hi; omega)
          have hcl3 := cell_of_grown hg1 hsz (by simp; omega) hcl
          have hxm : x ∈ all := by
            have h1 := hat (.map [])
            rw [cntD_at] at h1
            split at h1
            · assumption
            · cases h1
          have hcx : c = (all.count x : Int) := by
            have h1 := hat (.map [])
            rw [cntD_at, if_pos hxm] at h1
            injection h1 with h1; injection h1 with _ h1; exact h1.symm
          have hcx1 := Lib.hid hcx
          have hb := Lib.hid (hbad x hxm)
          clear hcx hbad
          go_wp2
          · rename_i hcond
            go_ret
            refine ⟨ret_bool (hb.out fun hg => ?_), hb3⟩
            have hq := hcx1.out
            rw [hg.2.2] at hq
            simp [hq] at hcond; omega
          · rename_i hcond
            refine ⟨⟨_, _, _, _, _, _, _, _, _, _, _, _, _, _, _, _, _, _, _, ⟨_, _, hrg1, fun y hy => ?_, hb3, hcl3, by omega⟩, rfl⟩, ?_⟩
            · by_cases hyx : y = x
              · subst hyx
                have hq := hcx1.out
                have h1 : c = 1 := by simpa using hcond.2
                exact .inr ⟨by omega, by omega, by omega⟩
              · rcases hgood y hy with h1 | h1
                · exact .inl (by simp [h1, Lit.sameKey]; exact fun e => hyx e)
                · exact .inr h1
            · rw [hrg1.left_eq, hrg.left_eq]; exact hlt
          · go_ret
            exact ⟨ret_bool (hb.out fun hg => by omega), hb3⟩
          · go_ret
            exact ⟨ret_bool (hb.out fun hg => by omega), hb3⟩
end Go.Proofs.YtppcjdhohohcfaaGreatDoor
