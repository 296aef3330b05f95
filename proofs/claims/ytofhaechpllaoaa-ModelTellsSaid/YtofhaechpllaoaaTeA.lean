/- ModelTells: the walk. -/
import Derived.Test.YtofhaechpllaoaaTe1
namespace Go.Proofs.Ytofhaechpllaoaa
open Go Go.RowKit Go.Shelf
attribute [local go_sem] Oper.semAt_some cell_drew_own frozen_drew_own

set_option maxRecDepth 100000 in
set_option maxHeartbeats 16000000 in
theorem tells_walk (v : Value) (l : List PairD) (key : Int) (w : World) (h : Arr w 2 PairD.cells v l) (hl : InU l) (hk : 0 ≤ key ∧ key ≤ 18446744073709551615)
    (HA : ∀ W, Calls Try.prog 17 #[] W fun e w' => e = .returned (.bool true) ∧ Below W.heap.size W w') :
    Calls Try.prog 8 #[v, .int .u64 key] w fun e w' => e = .returned (.bool true) ∧ Below w.heap.size w w' := by
  have HN := fun W (hb : Arr W 2 PairD.cells v l) (hn : l.length ≤ 100) => new_any v l W hb (by omega)
  have HAr := Lib.hid h
  obtain ⟨a, cap, rfl, hc1, hc2, -⟩ := h
  by_cases hn : l.length ≤ 100
  · have hd : decide ((100 : Int) < (l.length : Int)) = false := decide_eq_false (by omega)
    refine (callsIn_wide (n := 5)).1 ?_
    refine callsIn_of_wp_marks Try.func8 rfl trivial ?_ rfl
    refine wpIn_mono (wpIn_wide.2 ?_) noPan_le
    simp only [Try.ntmps8, List.size_toArray, List.length_cons, List.length_nil, Nat.reduceAdd, Nat.reduceSub, Array.replicate_succ, Array.replicate_zero, List.push_toArray, List.append_toArray, List.nil_append, List.cons_append]
    go_wp2_with (first | (go_at_call 20; with_reducible refine (HN _ (HAr.out.alloc _) hn).mono ?_; rintro e w' ⟨p, kv, vv, rfl, hM, hbx⟩; obtain ⟨E, nx, rfl⟩ := below_ext hbx; clear hbx))
    go_loopg [6, 7] l.length (fun g pp kk wr => ∃ j : Nat, j ≤ l.length ∧ g = l.length - j ∧ kk = .int .i64 j ∧ (∃ aa cc, pp = .slice aa (putAll (l.take j)).length cc ∧ RowP ((w.alloc (.cells #[.bool false] 4)).ext E nx).heap.size wr pp (putAll (l.take j))) ∧ Below ((w.alloc (.cells #[.bool false] 4)).ext E nx).heap.size ((w.alloc (.cells #[.bool false] 4)).ext E nx) wr)
    case atStart => exact ⟨0, by omega, by omega, rfl, ⟨none, 0, rfl, rowP_nil _ _⟩, (by ((repeat' (first | exact Below.refl _ _ | assumption | (refine Below_alloc ?_ ?_ _) | (refine Below_ext ?_ ?_ _ _) | (refine Below_setCell ?_ _ _ _ ?_) | apply Below.drew | refine Below_drewN ?_ _)) <;> first | done | (simp; done) | (simp; omega)))⟩
    case round =>
      obtain ⟨j, hj, rfl, rfl, ⟨aa, cc, rfl, hR⟩, hbw⟩ := hrel
      by_cases hlt : j < l.length
      · obtain ⟨x, hx⟩ : ∃ x, l[j]? = some x := ⟨_, List.getElem?_eq_getElem hlt⟩
        have hb2 : Below w.heap.size w wr := (show Below w.heap.size w ((w.alloc (.cells #[.bool false] 4)).ext E nx) from (by ((repeat' (first | exact Below.refl _ _ | assumption | (refine Below_alloc ?_ ?_ _) | (refine Below_ext ?_ ?_ _ _) | (refine Below_setCell ?_ _ _ _ ?_) | apply Below.drew | refine Below_drewN ?_ _)) <;> first | done | (simp; done) | (simp; omega)))).trans (hbw.mono (by simp; omega))
        obtain ⟨b, o, c', e, hh, e0, e1⟩ := HAr.out.pair hb2 hx
        cases e
        have HX := Lib.hid hx
        have HR := Lib.hid hR
        clear hx hR
        go_wp2_with (fail)
        have hS : HeldTill [(11, fun w' => w'.cell? ⟨b, o + j * 2, none⟩ = some (.int .u64 x.key)), (11, fun w' => w'.cell? ⟨b, o + j * 2 + 1, none⟩ = some (.int .u64 x.val))] (Array.replicate 13 false) wr.drew := by
          intro x hx _
          simp only [List.mem_cons, List.not_mem_nil, or_false] at hx
          rcases hx with rfl | rfl
          all_goals (show World.cell? _ _ = _; go_simp)
        have hpl : (putAll (l.take j)).length ≤ 1000 := by rw [(putAll_eq _).1]; have := newM_len (l.take j); have := List.length_take_le j l; omega
        refine wp_region_S [(11, fun w' => w'.cell? ⟨b, o + j * 2, none⟩ = some (.int .u64 x.key)), (11, fun w' => w'.cell? ⟨b, o + j * 2 + 1, none⟩ = some (.int .u64 x.val))] (by kernel_rfl) ?_
        (refine wpAnyS_take (i := 0) (v := ?_) rfl (by kernel_rfl) (by kernel_rfl) (by kernel_rfl) (by kernel_rfl) (by kernel_rfl) (by kernel_rfl) (fun _ _ _ h => h) hS (Or.inl ⟨by kernel_rfl, ?_⟩) (fun hS1 => ?_); rotate_left; (focus (intro w _; go_simp; first | done | with_reducible rfl)); clear hS; have hS := hS1; clear hS1)
        (refine wpAnyS_take (i := 1) (v := ?_) rfl (by kernel_rfl) (by kernel_rfl) (by kernel_rfl) (by kernel_rfl) (by kernel_rfl) (by kernel_rfl) (fun _ _ _ h => h) hS (Or.inl ⟨by kernel_rfl, ?_⟩) (fun hS1 => ?_); rotate_left; (focus (intro w _; go_simp; first | done | with_reducible rfl)); clear hS; have hS := hS1; clear hS1)
        (refine wpAnyS_take (i := 2) (v := ?_) rfl (by kernel_rfl) (by kernel_rfl) (by kernel_rfl) (by kernel_rfl) (by kernel_rfl) (by kernel_rfl) (fun _ _ _ h => h) hS (Or.inl ⟨by kernel_rfl, ?_⟩) (fun hS1 => ?_); rotate_left; (focus (intro w _; go_simp; first | done | with_reducible rfl)); clear hS; have hS := hS1; clear hS1)
        (refine wpAnyS_take (i := 3) (v := ?_) rfl (by kernel_rfl) (by kernel_rfl) (by kernel_rfl) (by kernel_rfl) (by kernel_rfl) (by kernel_rfl) (fun _ _ _ h => h) hS (Or.inl ⟨by kernel_rfl, ?_⟩) (fun hS1 => ?_); rotate_left; (focus (intro w _; go_simp; first | done | with_reducible rfl)); clear hS; have hS := hS1; clear hS1)
        (refine wpAnyS_take (i := 4) (v := ?_) rfl (by kernel_rfl) (by kernel_rfl) (by kernel_rfl) (by kernel_rfl) (by kernel_rfl) (by kernel_rfl) (fun _ _ _ h => h) hS (Or.inl ⟨by kernel_rfl, ?_⟩) (fun hS1 => ?_); rotate_left; (focus (intro w _; go_simp; first | done | with_reducible rfl)); clear hS; have hS := hS1; clear hS1)
        (refine wpAnyS_load (i := 5) (c := 11) (T := fun w' => w'.cell? ⟨b, o + j * 2, none⟩ = some (.int .u64 x.key)) (v := ?_) rfl (by kernel_rfl) (by kernel_rfl) (by kernel_rfl) (by kernel_rfl) (by kernel_rfl) (by kernel_rfl) (by kernel_rfl) (by simp) (fun _ _ _ h => h) hS (Or.inl ⟨by kernel_rfl, ?_⟩) (fun hS1 => ?_); rotate_left; (focus (intro w hT; go_simp; first | done | with_reducible rfl)); clear hS; have hS := hS1; clear hS1)
        (refine wpAnyS_take (i := 6) (v := ?_) rfl (by kernel_rfl) (by kernel_rfl) (by kernel_rfl) (by kernel_rfl) (by kernel_rfl) (by kernel_rfl) (fun _ _ _ h => h) hS (Or.inl ⟨by kernel_rfl, ?_⟩) (fun hS1 => ?_); rotate_left; (focus (intro w _; go_simp; first | done | with_reducible rfl)); clear hS; have hS := hS1; clear hS1)
        (refine wpAnyS_take (i := 7) (v := ?_) rfl (by kernel_rfl) (by kernel_rfl) (by kernel_rfl) (by kernel_rfl) (by kernel_rfl) (by kernel_rfl) (fun _ _ _ h => h) hS (Or.inl ⟨by kernel_rfl, ?_⟩) (fun hS1 => ?_); rotate_left; (focus (intro w _; go_simp; first | done | with_reducible rfl)); clear hS; have hS := hS1; clear hS1)
        (refine wpAnyS_take (i := 8) (v := ?_) rfl (by kernel_rfl) (by kernel_rfl) (by kernel_rfl) (by kernel_rfl) (by kernel_rfl) (by kernel_rfl) (fun _ _ _ h => h) hS (Or.inl ⟨by kernel_rfl, ?_⟩) (fun hS1 => ?_); rotate_left; (focus (intro w _; go_simp; first | done | with_reducible rfl)); clear hS; have hS := hS1; clear hS1)
        (refine wpAnyS_take (i := 9) (v := ?_) rfl (by kernel_rfl) (by kernel_rfl) (by kernel_rfl) (by kernel_rfl) (by kernel_rfl) (by kernel_rfl) (fun _ _ _ h => h) hS (Or.inl ⟨by kernel_rfl, ?_⟩) (fun hS1 => ?_); rotate_left; (focus (intro w _; go_simp; first | done | with_reducible rfl)); clear hS; have hS := hS1; clear hS1)
        (refine wpAnyS_load (i := 10) (c := 11) (T := fun w' => w'.cell? ⟨b, o + j * 2 + 1, none⟩ = some (.int .u64 x.val)) (v := ?_) rfl (by kernel_rfl) (by kernel_rfl) (by kernel_rfl) (by kernel_rfl) (by kernel_rfl) (by kernel_rfl) (by kernel_rfl) (by simp) (fun _ _ _ h => h) hS (Or.inl ⟨by kernel_rfl, ?_⟩) (fun hS1 => ?_); rotate_left; (focus (intro w hT; go_simp; first | done | with_reducible rfl)); clear hS; have hS := hS1; clear hS1)
        refine wpAnyS_ready (rs := [11]) (by kernel_rfl) (by simp) ?_
        refine AllReadyS.cons rfl (fun K hK => ?_) AllReadyS.nil
        go_simp
        ((with_reducible refine (ref_put _ (putAll (l.take j)) x.key x.val _ ((Arr.ofRow HR.out).below (by ((repeat' (first | exact Below.refl _ _ | assumption | (refine Below_alloc ?_ ?_ _) | (refine Below_ext ?_ ?_ _ _) | (refine Below_setCell ?_ _ _ _ ?_) | apply Below.drew | refine Below_drewN ?_ _)) <;> first | done | (simp; done) | (simp; omega)))) (by omega)).mono ?_))
        rintro e w2 ⟨a2, c2, rfl, hR2, hb3⟩
        have HR2 := Lib.hid hR2
        have HB3 := Lib.hid hb3
        clear hR2 hb3
        simp only []
        refine hK.out _ _ ?_ (fun hS1 => ?_)
        · clear hK hS; (intro x hx hl; simp only [List.mem_cons, List.not_mem_nil, or_false] at hx; rcases hx with rfl | rfl; all_goals (first | exact Bool.noConfusion (show true = false from hl) | (show World.cell? _ _ = _; go_simp; done) | (refine ⟨?_, ?_, ?_, ?_, ?_⟩ <;> (show World.cell? _ _ = _; go_simp; done)) | (refine ⟨?_, ?_, ?_⟩ <;> (show World.cell? _ _ = _; go_simp; done))))
        clear hK K hS
        have hS := hS1
        clear hS1
        (refine wpAnyS_take (i := 12) (v := ?_) rfl (by kernel_rfl) (by kernel_rfl) (by kernel_rfl) (by kernel_rfl) (by kernel_rfl) (by kernel_rfl) (fun _ _ _ h => h) hS (Or.inl ⟨by kernel_rfl, ?_⟩) (fun hS1 => ?_); rotate_left; (focus (intro w _; go_simp; first | done | with_reducible rfl)); clear hS; have hS := hS1; clear hS1)
        refine wpAnyS_done (by kernel_rfl) ?_ _
        clear hS
        go_wp2_with (fail)
        go_roundg (l.length - (j + 1))
        case rel =>
          have hp := putAll_succ HX.out
          refine ⟨j + 1, by omega, rfl, by go_num, ⟨a2, c2, by rw [hp], by rw [hp]; exact owns_base_le hbw.size HR2.out⟩, (Below.drew hbw).trans (HB3.out.mono hbw.size)⟩
        case measure => omega
      · obtain rfl : j = l.length := by omega
        have hpe : putAll (l.take l.length) = newM l := by rw [List.take_length]; exact (putAll_eq l).1
        rw [hpe] at hR
        rw [hpe]
        have hri := (putAll_eq l).2
        have hlu := (newM_rising l hl).2
        have hl0 := newM_len l
        have hMw : MapAt (w.alloc (.cells #[.bool false] 4)).heap.size wr p kv vv (newM l) := hM.below hbw
        have hbw0 : Below w.heap.size w wr := (show Below w.heap.size w ((w.alloc (.cells #[.bool false] 4)).ext E nx) from (by ((repeat' (first | exact Below.refl _ _ | assumption | (refine Below_alloc ?_ ?_ _) | (refine Below_ext ?_ ?_ _ _) | (refine Below_setCell ?_ _ _ _ ?_) | apply Below.drew | refine Below_drewN ?_ _)) <;> first | done | (simp; done) | (simp; omega)))).trans (hbw.mono (by simp; omega))
        have hsz := hbw.size
        have hb4 : Lies wr w.heap.size #[.bool false] 4 := (hbw.block w.heap.size (by simp; omega)).trans (show Lies ((w.alloc (.cells #[.bool false] 4)).ext E nx) w.heap.size #[.bool false] 4 from heap_lt_ext (heap_at_alloc rfl))
        have hA1 := Arr.ofRow hR
        have hap : ∀ g, foot p kv vv g → (Value.slice aa (newM l).length cc).ownBlock ≠ some g := fun g hg e => by
          have h1 := (hM.foot_lt hg).1
          have h2 := (owns_lt hR e).2
          omega
        have hps := within_eq hri key 18446744073709551615 1000
        rw [scanL_all (fun q hq => (hlu q (List.mem_of_mem_drop hq)).2) (by simp only [List.length_drop]; omega)] at hps
        have hpz : (newM l).drop (place (keysOf (newM l)) 0) = newM l := by rw [place_zero hri hlu]; rfl
        have hps0 : ((newM l).drop (place (keysOf (newM l)) key)).length ≤ 1000 := by simp only [List.length_drop]; omega
        clear hM hbw hR hpe
        have HM := Lib.hid hMw
        have HA1 := Lib.hid hA1
        have HAP := Lib.hid hap
        have HBW := Lib.hid hbw0
        have HB4 := Lib.hid hb4
        clear hMw hA1 hap hbw0 hb4
        simp only [World.size_alloc, ext_size] at hsz
        generalize newM l = m at *
        generalize hpsd : m.drop (place (keysOf m) key) = ps at *
        go_wp2_with (fail)
        refine (get_any _ p kv vv m key _ HM.out (by omega)).mono ?_
        rintro e w' ⟨rfl, hbx⟩
        obtain ⟨E1, n1, rfl⟩ := below_ext hbx
        clear hbx
        simp only []
        go_wp2_with (fail)
        refine (ref_at _ m key _ (HA1.out.below (by ((repeat' (first | exact Below.refl _ _ | assumption | (refine Below_alloc ?_ ?_ _) | (refine Below_ext ?_ ?_ _ _) | (refine Below_setCell ?_ _ _ _ ?_) | apply Below.drew | refine Below_drewN ?_ _)) <;> first | done | (simp; done) | (simp; omega)))) (by omega)).mono ?_
        rintro e w' ⟨⟨ix, rfl, hi⟩, hbx⟩
        obtain ⟨E2, n2, rfl⟩ := below_ext hbx
        clear hbx
        rcases hi with ⟨rfl, hno⟩ | ⟨jj, q, rfl, hq, hqk⟩
        · have g1 := not_at hno
          have g2 : getM m key = 0 := by simp [getM, g1]
          rw [g1, g2]
          simp only []
          go_wp2_with (fail)
          refine (copy_any _ p kv vv m _ (HM.out.below (by ((repeat' (first | exact Below.refl _ _ | assumption | (refine Below_alloc ?_ ?_ _) | (refine Below_ext ?_ ?_ _ _) | (refine Below_setCell ?_ _ _ _ ?_) | apply Below.drew | refine Below_drewN ?_ _)) <;> first | done | (simp; done) | (simp; omega)))) (by omega)).mono ?_
          rintro e w' ⟨q3, kq, vq, rfl, hMq, hbx⟩
          obtain ⟨E3, n3, rfl⟩ := below_ext hbx
          clear hbx
          have hfq : ∀ g, foot q3 kq vq g → wr.heap.size ≤ g := fun g hg => by have := (hMq.foot_lt hg).2; simp at this; omega
          have HMq := Lib.hid hMq
          clear hMq
          simp only []
          go_wp2_with (fail)
          refine (do_any _ q3 kq vq _ ⟨2, key, 12345, 0, 0⟩ _ HMq.out (by omega)).mono ?_
          intro e w4 hD
          obtain ⟨kq4, vq4, a4, c4, rfl, hM4, hR4, hk4, hf4⟩ := done_outE rfl rfl hD
          have hfq4 : ∀ g, foot q3 kq4 vq4 g → wr.heap.size ≤ g := fun g hg => by
            rcases hf4 g hg with h1 | h1
            · exact hfq g h1
            · simp at h1; omega
          have hl4 := afterM_len m ⟨2, key, 12345, 0, 0⟩
          have HM4 := Lib.hid hM4
          have HK4 := Lib.hid hk4
          clear hD hR4 hf4 hM4 hk4
          simp only []
          go_wp2_with (fail)
          refine (do_any _ q3 kq4 vq4 _ ⟨3, 1, 0, 0, 0⟩ _ HM4.out (by omega)).mono ?_
          intro e w5 hD
          obtain ⟨kq5, vq5, a5, c5, rfl, hM5, hR5, hk5, hf5⟩ := done_outE rfl rfl hD
          have HK5 := Lib.hid hk5
          clear hD hR5 hf5 hM5 hk5
          have hfp : ∀ g, foot p kv vv g → g < wr.heap.size := fun g hg => (HM.out.foot_lt hg).1
          have hMp4 := (HM.out.below (show Below wr.heap.size wr (((wr.ext E1 n1).ext E2 n2).ext E3 n3) from (by ((repeat' (first | exact Below.refl _ _ | assumption | (refine Below_alloc ?_ ?_ _) | (refine Below_ext ?_ ?_ _ _) | (refine Below_setCell ?_ _ _ _ ?_) | apply Below.drew | refine Below_drewN ?_ _)) <;> first | done | (simp; done) | (simp; omega))))).kp_of HK4.out (fun g hg hS => by have := hfp g hg; have := hfq g hS; omega)
          have hMp5 := hMp4.kp_of HK5.out (fun g hg hS => by have := hfp g hg; have := hfq4 g hS; omega)
          have hAp4 := (HA1.out.below (show Below wr.heap.size wr (((wr.ext E1 n1).ext E2 n2).ext E3 n3) from (by ((repeat' (first | exact Below.refl _ _ | assumption | (refine Below_alloc ?_ ?_ _) | (refine Below_ext ?_ ?_ _ _) | (refine Below_setCell ?_ _ _ _ ?_) | apply Below.drew | refine Below_drewN ?_ _)) <;> first | done | (simp; done) | (simp; omega))))).kp2 HK4.out (fun hl g hg hS => by have := HA1.out.lt hl g hg; have := hfq g hS; omega)
          have hAp5 := hAp4.kp2 HK5.out (fun hl g hg hS => by have := HA1.out.lt hl g hg; have := hfq4 g hS; omega)
          have hBx : Below wr.heap.size wr w5 := ((show Below wr.heap.size wr (((wr.ext E1 n1).ext E2 n2).ext E3 n3) from (by ((repeat' (first | exact Below.refl _ _ | assumption | (refine Below_alloc ?_ ?_ _) | (refine Below_ext ?_ ?_ _ _) | (refine Below_setCell ?_ _ _ _ ?_) | apply Below.drew | refine Below_drewN ?_ _)) <;> first | done | (simp; done) | (simp; omega)))).trans (HK4.out.below (by simp; omega) hfq)).trans (HK5.out.below (by have := HK4.out.size; simp at this; omega) hfq4)
          have hB5 : Below w.heap.size w w5 := HBW.out.trans (hBx.mono HBW.out.size)
          have hb45 : Lies w5 w.heap.size #[.bool false] 4 := HB4.out.kept (hBx.block w.heap.size (by omega))
          have hs5 := hBx.size
          have HMp5 := Lib.hid hMp5
          have HAp5 := Lib.hid hAp5
          have HB5 := Lib.hid hB5
          have HB45 := Lib.hid hb45
          clear hMp4 hAp4 hMp5 hAp5 hB5 hb45 hBx
          simp only []
          go_wp2_with (fail)
          refine (ref_within _ m key 18446744073709551615 1000 _ HAp5.out (by omega) (by omega)).mono ?_
          rintro e w' ⟨a6, c6, rfl, hR6, hbx⟩
          obtain ⟨E6, n6, rfl⟩ := below_ext hbx
          rw [hps] at hR6 ⊢
          have HR6 := Lib.hid hR6
          clear hbx hR6
          simp only []
          go_wp2_with (fail)
          refine (from_any _ p kv vv m key _ (HMp5.out.below (by ((repeat' (first | exact Below.refl _ _ | assumption | (refine Below_alloc ?_ ?_ _) | (refine Below_ext ?_ ?_ _ _) | (refine Below_setCell ?_ _ _ _ ?_) | apply Below.drew | refine Below_drewN ?_ _)) <;> first | done | (simp; done) | (simp; omega)))) (by omega)).mono ?_
          rintro e w' ⟨f, rfl, hT, hbx⟩
          obtain ⟨E7, n7, rfl⟩ := below_ext hbx
          rw [hpsd] at hT
          obtain ⟨g, ga, gc, rfl, hg0, hg, hn', hgc, hga, hgl, hgm⟩ := hT
          clear hbx
          have hfn := func_nil
          simp only []
          go_wp2_with (fail)
          have hs6 : w5.heap.size + E6.size + 1 + 1 ≤ g := by simpa using hg0
          obtain ⟨W0, hW0⟩ : ∃ W0, ((((w5.ext E6 n6).alloc (.cells #[.slice a6 ps.length c6] 25)).alloc (.cells #[.int .i64 0] 3)).ext E7 n7) = W0 := ⟨_, rfl⟩
          have l13 : Lies W0 (w5.heap.size + E6.size + 1) #[.int .i64 0] 3 := by rw [← hW0]; exact heap_lt_ext (heap_at_alloc (by simp))
          have l12 : Lies W0 (w5.heap.size + E6.size) #[.slice a6 ps.length c6] 25 := by rw [← hW0]; exact heap_lt_ext (heap_lt_alloc (heap_at_alloc (by simp)))
          have l4 : Lies W0 w.heap.size #[.bool false] 4 := by rw [← hW0]; exact heap_lt_ext (heap_lt_alloc (heap_lt_alloc (heap_lt_ext HB45.out)))
          have hM0 := HMp5.out.below (show Below w5.heap.size w5 W0 by rw [← hW0]; exact (by ((repeat' (first | exact Below.refl _ _ | assumption | (refine Below_alloc ?_ ?_ _) | (refine Below_ext ?_ ?_ _ _) | (refine Below_setCell ?_ _ _ _ ?_) | apply Below.drew | refine Below_drewN ?_ _)) <;> first | done | (simp; done) | (simp; omega))))
          have hA0 := HAp5.out.below (show Below w5.heap.size w5 W0 by rw [← hW0]; exact (by ((repeat' (first | exact Below.refl _ _ | assumption | (refine Below_alloc ?_ ?_ _) | (refine Below_ext ?_ ?_ _ _) | (refine Below_setCell ?_ _ _ _ ?_) | apply Below.drew | refine Below_drewN ?_ _)) <;> first | done | (simp; done) | (simp; omega))))
          have hA60 : Arr W0 2 PairD.cells (.slice a6 ps.length c6) ps := (Arr.ofRow HR6.out).below (show Below (w5.ext E6 n6).heap.size (w5.ext E6 n6) W0 by rw [← hW0]; exact (by ((repeat' (first | exact Below.refl _ _ | assumption | (refine Below_alloc ?_ ?_ _) | (refine Below_ext ?_ ?_ _ _) | (refine Below_setCell ?_ _ _ _ ?_) | apply Below.drew | refine Below_drewN ?_ _)) <;> first | done | (simp; done) | (simp; omega))))
          have hsB5 := HB5.out.size
          have H6L : Hid (ps ≠ [] → ∀ g, (Value.slice a6 ps.length c6).ownBlock = some g → g < w5.heap.size + E6.size) := Lib.hid (fun hl g hg => by have := (Arr.ofRow HR6.out).lt hl g hg; simpa using this)
          have hB0 : Below w.heap.size w W0 := HB5.out.trans ((show Below w5.heap.size w5 W0 by rw [← hW0]; exact (by ((repeat' (first | exact Below.refl _ _ | assumption | (refine Below_alloc ?_ ?_ _) | (refine Below_ext ?_ ?_ _ _) | (refine Below_setCell ?_ _ _ _ ?_) | apply Below.drew | refine Below_drewN ?_ _)) <;> first | done | (simp; done) | (simp; omega)))).mono hsB5)
          have hsW : w5.heap.size + E6.size + 1 + 1 ≤ W0.heap.size := by rw [← hW0]; first | (simp; done) | (simp; omega)
          rw [hW0] at hg hn' hgc hga hgl ⊢
          clear hW0 hg0
          have hgl' : ∀ k, (Value.slice ga ps.length gc).ownBlock = some k → w5.heap.size + E6.size + 1 + 1 ≤ k ∧ k < W0.heap.size := fun k hk => by have := hgl k hk; simp at this; omega
          have HM0 := Lib.hid hM0
          have HA0 := Lib.hid hA0
          have HA60 := Lib.hid hA60
          have HB0 := Lib.hid hB0
          have L12 := Lib.hid l12
          have L4 := Lib.hid l4
          clear hM0 hA0 hA60 hB0 l12 l4 hgl
          refine (wpIn_wide (n := 5)).1 ?_
          refine tell_range 15 _ rfl rfl hs6 hg hgc hga hgl' hgm (by omega) l13 ?_ ?_ ?_
          · rintro l' x W K hK
            simp only [List.setIfInBounds_toArray, List.set_cons_succ, List.set_cons_zero] at hK
            gi_wp2
            exact hK
          · rintro l' pre x Bx W hlt2 hKp hL hBx hLx
            simp only [List.setIfInBounds_toArray, List.set_cons_succ, List.set_cons_zero]
            have hc13 := hL.cell 0
            have hz13 := hL.frozen 0
            have hx0 := hLx.cell 0
            have hx1 := hLx.cell 1
            have k12 := L12.out.kept (hKp.block _ L12.out.lt (by omega))
            have hc12 := k12.cell 0
            have k4 := L4.out.kept (hKp.block _ L4.out.lt (by omega))
            have hc4 := k4.cell 0
            have hz4 := k4.frozen 0
            simp only [List.getElem?_toArray, List.getElem?_cons_zero, List.getElem?_cons_succ] at hc13 hx0 hx1 hc12 hc4
            obtain ⟨y, hy⟩ : ∃ y, ps[pre.length]? = some y := ⟨_, List.getElem?_eq_getElem hlt2⟩
            have hA6W : Arr W 2 PairD.cells (.slice a6 ps.length c6) ps := Arr.kp2 HA60.out hKp (fun hl g hg hS => by have h1 := H6L.out hl g hg; omega)
            obtain ⟨by_, oy, cy, ey, hhy, ey0, ey1⟩ := hA6W.pair (Below.refl _ _) hy
            cases ey
            have hdd : decide (ps.length ≤ pre.length) = false := decide_eq_false (by omega)
            have HY := Lib.hid hy
            clear hy
            have hS : HeldTill [(11, fun w' => w'.cell? ⟨w5.heap.size + E6.size + 1, 0, none⟩ = some (.int .i64 pre.length)), (11, fun w' => w'.cell? ⟨w5.heap.size + E6.size, 0, none⟩ = some (.slice (some ⟨by_, oy, none⟩) ps.length c6)), (11, fun w' => w'.cell? ⟨Bx, 0, none⟩ = some (.int .u64 x.key) ∧ w'.cell? ⟨Bx, 1, none⟩ = some (.int .u64 x.val)), (11, fun w' => w'.cell? ⟨by_, oy + pre.length * 2, none⟩ = some (.int .u64 y.key) ∧ w'.cell? ⟨by_, oy + pre.length * 2 + 1, none⟩ = some (.int .u64 y.val))] (Array.replicate 12 false) W.drew := by
              intro x hx _
              simp only [List.mem_cons, List.not_mem_nil, or_false] at hx
              rcases hx with rfl | rfl | rfl | rfl
              · exact hc13
              · exact hc12
              · exact ⟨hx0, hx1⟩
              · exact ⟨ey0, ey1⟩
            cases hxy : (x.key == y.key && x.val == y.val) with
            | true =>
              have hneq : ∀ W, (binOp .neq 47 (.agg #[.int .u64 x.key, .int .u64 x.val]) (.agg #[.int .u64 y.key, .int .u64 y.val])).run Try.prog W = .ok (.bool false) W := fun W => by have := neq_pair W x.key x.val y.key y.val; rw [hxy] at this; exact this
              gi_wp2
              refine wpIn_region_S [(11, fun w' => w'.cell? ⟨w5.heap.size + E6.size + 1, 0, none⟩ = some (.int .i64 pre.length)), (11, fun w' => w'.cell? ⟨w5.heap.size + E6.size, 0, none⟩ = some (.slice (some ⟨by_, oy, none⟩) ps.length c6)), (11, fun w' => w'.cell? ⟨Bx, 0, none⟩ = some (.int .u64 x.key) ∧ w'.cell? ⟨Bx, 1, none⟩ = some (.int .u64 x.val)), (11, fun w' => w'.cell? ⟨by_, oy + pre.length * 2, none⟩ = some (.int .u64 y.key) ∧ w'.cell? ⟨by_, oy + pre.length * 2 + 1, none⟩ = some (.int .u64 y.val))] (by kernel_rfl) (by kernel_rfl) (by rintro ⟨a0, w0, _, _, hf⟩; exact hf) ?_
              (refine wpAnyS_load (i := 0) (c := 11) (T := fun w' => w'.cell? ⟨w5.heap.size + E6.size + 1, 0, none⟩ = some (.int .i64 pre.length)) (v := ?_) rfl (by kernel_rfl) (by kernel_rfl) (by kernel_rfl) (by kernel_rfl) (by kernel_rfl) (by kernel_rfl) (by kernel_rfl) (by simp) (fun _ _ _ h => h) hS (Or.inl ⟨by kernel_rfl, ?_⟩) (fun hS1 => ?_); rotate_left; (focus (intro w hT; go_simp; first | done | with_reducible rfl)); clear hS; have hS := hS1; clear hS1)
              try simp only [List.getElem_toArray, List.getElem_cons_succ, List.getElem_cons_zero, Act.put, List.setIfInBounds_toArray, List.set_cons_succ, List.set_cons_zero]
              (refine wpAnyS_load (i := 1) (c := 11) (T := fun w' => w'.cell? ⟨w5.heap.size + E6.size, 0, none⟩ = some (.slice (some ⟨by_, oy, none⟩) ps.length c6)) (v := ?_) rfl (by kernel_rfl) (by kernel_rfl) (by kernel_rfl) (by kernel_rfl) (by kernel_rfl) (by kernel_rfl) (by kernel_rfl) (by simp) (fun _ _ _ h => h) hS (Or.inl ⟨by kernel_rfl, ?_⟩) (fun hS1 => ?_); rotate_left; (focus (intro w hT; go_simp; first | done | with_reducible rfl)); clear hS; have hS := hS1; clear hS1)
              try simp only [List.getElem_toArray, List.getElem_cons_succ, List.getElem_cons_zero, Act.put, List.setIfInBounds_toArray, List.set_cons_succ, List.set_cons_zero]
              (refine wpAnyS_take (i := 2) (v := ?_) rfl (by kernel_rfl) (by kernel_rfl) (by kernel_rfl) (by kernel_rfl) (by kernel_rfl) (by kernel_rfl) (fun _ _ _ h => h) hS (Or.inl ⟨by kernel_rfl, ?_⟩) (fun hS1 => ?_); rotate_left; (focus (intro w _; go_simp; first | done | with_reducible rfl)); clear hS; have hS := hS1; clear hS1)
              try simp only [List.getElem_toArray, List.getElem_cons_succ, List.getElem_cons_zero, Act.put, List.setIfInBounds_toArray, List.set_cons_succ, List.set_cons_zero]
              (refine wpAnyS_take (i := 3) (v := ?_) rfl (by kernel_rfl) (by kernel_rfl) (by kernel_rfl) (by kernel_rfl) (by kernel_rfl) (by kernel_rfl) (fun _ _ _ h => h) hS (Or.inl ⟨by kernel_rfl, ?_⟩) (fun hS1 => ?_); rotate_left; (focus (intro w _; go_simp; first | done | with_reducible rfl)); clear hS; have hS := hS1; clear hS1)
              try simp only [List.getElem_toArray, List.getElem_cons_succ, List.getElem_cons_zero, Act.put, List.setIfInBounds_toArray, List.set_cons_succ, List.set_cons_zero]
              (refine wpAnyS_take (i := 4) (v := ?_) rfl (by kernel_rfl) (by kernel_rfl) (by kernel_rfl) (by kernel_rfl) (by kernel_rfl) (by kernel_rfl) (fun _ _ _ h => h) hS (Or.inl ⟨by kernel_rfl, ?_⟩) (fun hS1 => ?_); rotate_left; (focus (intro w _; go_simp; first | done | with_reducible rfl)); clear hS; have hS := hS1; clear hS1)
              try simp only [List.getElem_toArray, List.getElem_cons_succ, List.getElem_cons_zero, Act.put, List.setIfInBounds_toArray, List.set_cons_succ, List.set_cons_zero]
              (refine wpAnyS_load (i := 5) (c := 11) (T := fun w' => w'.cell? ⟨Bx, 0, none⟩ = some (.int .u64 x.key) ∧ w'.cell? ⟨Bx, 1, none⟩ = some (.int .u64 x.val)) (v := ?_) rfl (by kernel_rfl) (by kernel_rfl) (by kernel_rfl) (by kernel_rfl) (by kernel_rfl) (by kernel_rfl) (by kernel_rfl) (by simp) (fun _ _ _ h => h) hS (Or.inl ⟨by kernel_rfl, ?_⟩) (fun hS1 => ?_); rotate_left; (focus (intro w hT; obtain ⟨hT0, hT1⟩ := hT; go_simp; first | done | with_reducible rfl)); clear hS; have hS := hS1; clear hS1)
              try simp only [List.getElem_toArray, List.getElem_cons_succ, List.getElem_cons_zero, Act.put, List.setIfInBounds_toArray, List.set_cons_succ, List.set_cons_zero]
              (refine wpAnyS_load (i := 6) (c := 11) (T := fun w' => w'.cell? ⟨w5.heap.size + E6.size, 0, none⟩ = some (.slice (some ⟨by_, oy, none⟩) ps.length c6)) (v := ?_) rfl (by kernel_rfl) (by kernel_rfl) (by kernel_rfl) (by kernel_rfl) (by kernel_rfl) (by kernel_rfl) (by kernel_rfl) (by simp) (fun _ _ _ h => h) hS (Or.inl ⟨by kernel_rfl, ?_⟩) (fun hS1 => ?_); rotate_left; (focus (intro w hT; go_simp; first | done | with_reducible rfl)); clear hS; have hS := hS1; clear hS1)
              try simp only [List.getElem_toArray, List.getElem_cons_succ, List.getElem_cons_zero, Act.put, List.setIfInBounds_toArray, List.set_cons_succ, List.set_cons_zero]
              (refine wpAnyS_load (i := 7) (c := 11) (T := fun w' => w'.cell? ⟨w5.heap.size + E6.size + 1, 0, none⟩ = some (.int .i64 pre.length)) (v := ?_) rfl (by kernel_rfl) (by kernel_rfl) (by kernel_rfl) (by kernel_rfl) (by kernel_rfl) (by kernel_rfl) (by kernel_rfl) (by simp) (fun _ _ _ h => h) hS (Or.inl ⟨by kernel_rfl, ?_⟩) (fun hS1 => ?_); rotate_left; (focus (intro w hT; go_simp; first | done | with_reducible rfl)); clear hS; have hS := hS1; clear hS1)
              try simp only [List.getElem_toArray, List.getElem_cons_succ, List.getElem_cons_zero, Act.put, List.setIfInBounds_toArray, List.set_cons_succ, List.set_cons_zero]
              (refine wpAnyS_take (i := 8) (v := ?_) rfl (by kernel_rfl) (by kernel_rfl) (by kernel_rfl) (by kernel_rfl) (by kernel_rfl) (by kernel_rfl) (fun _ _ _ h => h) hS (Or.inl ⟨by kernel_rfl, ?_⟩) (fun hS1 => ?_); rotate_left; (focus (intro w _; go_simp; first | done | with_reducible rfl)); clear hS; have hS := hS1; clear hS1)
              try simp only [List.getElem_toArray, List.getElem_cons_succ, List.getElem_cons_zero, Act.put, List.setIfInBounds_toArray, List.set_cons_succ, List.set_cons_zero]
              (refine wpAnyS_load (i := 9) (c := 11) (T := fun w' => w'.cell? ⟨by_, oy + pre.length * 2, none⟩ = some (.int .u64 y.key) ∧ w'.cell? ⟨by_, oy + pre.length * 2 + 1, none⟩ = some (.int .u64 y.val)) (v := ?_) rfl (by kernel_rfl) (by kernel_rfl) (by kernel_rfl) (by kernel_rfl) (by kernel_rfl) (by kernel_rfl) (by kernel_rfl) (by simp) (fun _ _ _ h => h) hS (Or.inl ⟨by kernel_rfl, ?_⟩) (fun hS1 => ?_); rotate_left; (focus (intro w hT; obtain ⟨hT0, hT1⟩ := hT; go_simp; first | done | with_reducible rfl)); clear hS; have hS := hS1; clear hS1)
              try simp only [List.getElem_toArray, List.getElem_cons_succ, List.getElem_cons_zero, Act.put, List.setIfInBounds_toArray, List.set_cons_succ, List.set_cons_zero]
              (refine wpAnyS_take (i := 10) (v := ?_) rfl (by kernel_rfl) (by kernel_rfl) (by kernel_rfl) (by kernel_rfl) (by kernel_rfl) (by kernel_rfl) (fun _ _ _ h => h) hS (Or.inl ⟨by kernel_rfl, ?_⟩) (fun hS1 => ?_); rotate_left; (focus (intro w _; go_simp; first | done | with_reducible rfl)); clear hS; have hS := hS1; clear hS1)
              try simp only [List.getElem_toArray, List.getElem_cons_succ, List.getElem_cons_zero, Act.put, List.setIfInBounds_toArray, List.set_cons_succ, List.set_cons_zero]
              refine wpAnyS_ready (rs := [11]) (by kernel_rfl) (by simp) ?_
              refine AllReadyS.cons rfl (fun K hK => ?_) AllReadyS.nil
              go_simp
              skip
              refine hK.out _ _ ?_ (fun hS1 => ?_)
              · clear hK hS; (intro x hx hl; simp only [List.mem_cons, List.not_mem_nil, or_false] at hx; rcases hx with rfl | rfl | rfl | rfl; all_goals (first | exact Bool.noConfusion (show true = false from hl) | (show World.cell? _ _ = _; go_simp; done) | (refine ⟨?_, ?_, ?_, ?_, ?_⟩ <;> (show World.cell? _ _ = _; go_simp; done)) | (refine ⟨?_, ?_, ?_⟩ <;> (show World.cell? _ _ = _; go_simp; done))))
              clear hK K hS
              have hS := hS1
              clear hS1
              refine wpAnyS_done (by kernel_rfl) ?_ _
              clear hS
              gi_wp2
              have hxy2 : x = y := by
                simp only [Bool.and_eq_true, beq_iff_eq] at hxy
                exact (PairD.eq_iff x y).2 hxy
              exact ⟨W.drew, ⟨_, rfl⟩, by have h9 := HY.out; rw [List.getElem?_eq_getElem hlt2, Option.some.injEq] at h9; rw [h9, hxy2], rfl⟩
            | false =>
              have hneq : ∀ W, (binOp .neq 47 (.agg #[.int .u64 x.key, .int .u64 x.val]) (.agg #[.int .u64 y.key, .int .u64 y.val])).run Try.prog W = .ok (.bool true) W := fun W => by have := neq_pair W x.key x.val y.key y.val; rw [hxy] at this; exact this
              gi_wp2
              refine wpIn_region_S [(11, fun w' => w'.cell? ⟨w5.heap.size + E6.size + 1, 0, none⟩ = some (.int .i64 pre.length)), (11, fun w' => w'.cell? ⟨w5.heap.size + E6.size, 0, none⟩ = some (.slice (some ⟨by_, oy, none⟩) ps.length c6)), (11, fun w' => w'.cell? ⟨Bx, 0, none⟩ = some (.int .u64 x.key) ∧ w'.cell? ⟨Bx, 1, none⟩ = some (.int .u64 x.val)), (11, fun w' => w'.cell? ⟨by_, oy + pre.length * 2, none⟩ = some (.int .u64 y.key) ∧ w'.cell? ⟨by_, oy + pre.length * 2 + 1, none⟩ = some (.int .u64 y.val))] (by kernel_rfl) (by kernel_rfl) (by rintro ⟨a0, w0, _, _, hf⟩; exact hf) ?_
              (refine wpAnyS_load (i := 0) (c := 11) (T := fun w' => w'.cell? ⟨w5.heap.size + E6.size + 1, 0, none⟩ = some (.int .i64 pre.length)) (v := ?_) rfl (by kernel_rfl) (by kernel_rfl) (by kernel_rfl) (by kernel_rfl) (by kernel_rfl) (by kernel_rfl) (by kernel_rfl) (by simp) (fun _ _ _ h => h) hS (Or.inl ⟨by kernel_rfl, ?_⟩) (fun hS1 => ?_); rotate_left; (focus (intro w hT; go_simp; first | done | with_reducible rfl)); clear hS; have hS := hS1; clear hS1)
              try simp only [List.getElem_toArray, List.getElem_cons_succ, List.getElem_cons_zero, Act.put, List.setIfInBounds_toArray, List.set_cons_succ, List.set_cons_zero]
              (refine wpAnyS_load (i := 1) (c := 11) (T := fun w' => w'.cell? ⟨w5.heap.size + E6.size, 0, none⟩ = some (.slice (some ⟨by_, oy, none⟩) ps.length c6)) (v := ?_) rfl (by kernel_rfl) (by kernel_rfl) (by kernel_rfl) (by kernel_rfl) (by kernel_rfl) (by kernel_rfl) (by kernel_rfl) (by simp) (fun _ _ _ h => h) hS (Or.inl ⟨by kernel_rfl, ?_⟩) (fun hS1 => ?_); rotate_left; (focus (intro w hT; go_simp; first | done | with_reducible rfl)); clear hS; have hS := hS1; clear hS1)
              try simp only [List.getElem_toArray, List.getElem_cons_succ, List.getElem_cons_zero, Act.put, List.setIfInBounds_toArray, List.set_cons_succ, List.set_cons_zero]
              (refine wpAnyS_take (i := 2) (v := ?_) rfl (by kernel_rfl) (by kernel_rfl) (by kernel_rfl) (by kernel_rfl) (by kernel_rfl) (by kernel_rfl) (fun _ _ _ h => h) hS (Or.inl ⟨by kernel_rfl, ?_⟩) (fun hS1 => ?_); rotate_left; (focus (intro w _; go_simp; first | done | with_reducible rfl)); clear hS; have hS := hS1; clear hS1)
              try simp only [List.getElem_toArray, List.getElem_cons_succ, List.getElem_cons_zero, Act.put, List.setIfInBounds_toArray, List.set_cons_succ, List.set_cons_zero]
              (refine wpAnyS_take (i := 3) (v := ?_) rfl (by kernel_rfl) (by kernel_rfl) (by kernel_rfl) (by kernel_rfl) (by kernel_rfl) (by kernel_rfl) (fun _ _ _ h => h) hS (Or.inl ⟨by kernel_rfl, ?_⟩) (fun hS1 => ?_); rotate_left; (focus (intro w _; go_simp; first | done | with_reducible rfl)); clear hS; have hS := hS1; clear hS1)
              try simp only [List.getElem_toArray, List.getElem_cons_succ, List.getElem_cons_zero, Act.put, List.setIfInBounds_toArray, List.set_cons_succ, List.set_cons_zero]
              (refine wpAnyS_take (i := 4) (v := ?_) rfl (by kernel_rfl) (by kernel_rfl) (by kernel_rfl) (by kernel_rfl) (by kernel_rfl) (by kernel_rfl) (fun _ _ _ h => h) hS (Or.inl ⟨by kernel_rfl, ?_⟩) (fun hS1 => ?_); rotate_left; (focus (intro w _; go_simp; first | done | with_reducible rfl)); clear hS; have hS := hS1; clear hS1)
              try simp only [List.getElem_toArray, List.getElem_cons_succ, List.getElem_cons_zero, Act.put, List.setIfInBounds_toArray, List.set_cons_succ, List.set_cons_zero]
              (refine wpAnyS_load (i := 5) (c := 11) (T := fun w' => w'.cell? ⟨Bx, 0, none⟩ = some (.int .u64 x.key) ∧ w'.cell? ⟨Bx, 1, none⟩ = some (.int .u64 x.val)) (v := ?_) rfl (by kernel_rfl) (by kernel_rfl) (by kernel_rfl) (by kernel_rfl) (by kernel_rfl) (by kernel_rfl) (by kernel_rfl) (by simp) (fun _ _ _ h => h) hS (Or.inl ⟨by kernel_rfl, ?_⟩) (fun hS1 => ?_); rotate_left; (focus (intro w hT; obtain ⟨hT0, hT1⟩ := hT; go_simp; first | done | with_reducible rfl)); clear hS; have hS := hS1; clear hS1)
              try simp only [List.getElem_toArray, List.getElem_cons_succ, List.getElem_cons_zero, Act.put, List.setIfInBounds_toArray, List.set_cons_succ, List.set_cons_zero]
              (refine wpAnyS_load (i := 6) (c := 11) (T := fun w' => w'.cell? ⟨w5.heap.size + E6.size, 0, none⟩ = some (.slice (some ⟨by_, oy, none⟩) ps.length c6)) (v := ?_) rfl (by kernel_rfl) (by kernel_rfl) (by kernel_rfl) (by kernel_rfl) (by kernel_rfl) (by kernel_rfl) (by kernel_rfl) (by simp) (fun _ _ _ h => h) hS (Or.inl ⟨by kernel_rfl, ?_⟩) (fun hS1 => ?_); rotate_left; (focus (intro w hT; go_simp; first | done | with_reducible rfl)); clear hS; have hS := hS1; clear hS1)
              try simp only [List.getElem_toArray, List.getElem_cons_succ, List.getElem_cons_zero, Act.put, List.setIfInBounds_toArray, List.set_cons_succ, List.set_cons_zero]
              (refine wpAnyS_load (i := 7) (c := 11) (T := fun w' => w'.cell? ⟨w5.heap.size + E6.size + 1, 0, none⟩ = some (.int .i64 pre.length)) (v := ?_) rfl (by kernel_rfl) (by kernel_rfl) (by kernel_rfl) (by kernel_rfl) (by kernel_rfl) (by kernel_rfl) (by kernel_rfl) (by simp) (fun _ _ _ h => h) hS (Or.inl ⟨by kernel_rfl, ?_⟩) (fun hS1 => ?_); rotate_left; (focus (intro w hT; go_simp; first | done | with_reducible rfl)); clear hS; have hS := hS1; clear hS1)
              try simp only [List.getElem_toArray, List.getElem_cons_succ, List.getElem_cons_zero, Act.put, List.setIfInBounds_toArray, List.set_cons_succ, List.set_cons_zero]
              (refine wpAnyS_take (i := 8) (v := ?_) rfl (by kernel_rfl) (by kernel_rfl) (by kernel_rfl) (by kernel_rfl) (by kernel_rfl) (by kernel_rfl) (fun _ _ _ h => h) hS (Or.inl ⟨by kernel_rfl, ?_⟩) (fun hS1 => ?_); rotate_left; (focus (intro w _; go_simp; first | done | with_reducible rfl)); clear hS; have hS := hS1; clear hS1)
              try simp only [List.getElem_toArray, List.getElem_cons_succ, List.getElem_cons_zero, Act.put, List.setIfInBounds_toArray, List.set_cons_succ, List.set_cons_zero]
              (refine wpAnyS_load (i := 9) (c := 11) (T := fun w' => w'.cell? ⟨by_, oy + pre.length * 2, none⟩ = some (.int .u64 y.key) ∧ w'.cell? ⟨by_, oy + pre.length * 2 + 1, none⟩ = some (.int .u64 y.val)) (v := ?_) rfl (by kernel_rfl) (by kernel_rfl) (by kernel_rfl) (by kernel_rfl) (by kernel_rfl) (by kernel_rfl) (by kernel_rfl) (by simp) (fun _ _ _ h => h) hS (Or.inl ⟨by kernel_rfl, ?_⟩) (fun hS1 => ?_); rotate_left; (focus (intro w hT; obtain ⟨hT0, hT1⟩ := hT; go_simp; first | done | with_reducible rfl)); clear hS; have hS := hS1; clear hS1)
              try simp only [List.getElem_toArray, List.getElem_cons_succ, List.getElem_cons_zero, Act.put, List.setIfInBounds_toArray, List.set_cons_succ, List.set_cons_zero]
              (refine wpAnyS_take (i := 10) (v := ?_) rfl (by kernel_rfl) (by kernel_rfl) (by kernel_rfl) (by kernel_rfl) (by kernel_rfl) (by kernel_rfl) (fun _ _ _ h => h) hS (Or.inl ⟨by kernel_rfl, ?_⟩) (fun hS1 => ?_); rotate_left; (focus (intro w _; go_simp; first | done | with_reducible rfl)); clear hS; have hS := hS1; clear hS1)
              try simp only [List.getElem_toArray, List.getElem_cons_succ, List.getElem_cons_zero, Act.put, List.setIfInBounds_toArray, List.set_cons_succ, List.set_cons_zero]
              refine wpAnyS_ready (rs := [11]) (by kernel_rfl) (by simp) ?_
              refine AllReadyS.cons rfl (fun K hK => ?_) AllReadyS.nil
              go_simp
              skip
              refine hK.out _ _ ?_ (fun hS1 => ?_)
              · clear hK hS; (intro x hx hl; simp only [List.mem_cons, List.not_mem_nil, or_false] at hx; rcases hx with rfl | rfl | rfl | rfl; all_goals (first | exact Bool.noConfusion (show true = false from hl) | (show World.cell? _ _ = _; go_simp; done) | (refine ⟨?_, ?_, ?_, ?_, ?_⟩ <;> (show World.cell? _ _ = _; go_simp; done)) | (refine ⟨?_, ?_, ?_⟩ <;> (show World.cell? _ _ = _; go_simp; done))))
              clear hK K hS
              have hS := hS1
              clear hS1
              refine wpAnyS_done (by kernel_rfl) ?_ _
              clear hS
              gi_wp2
              have hxy2 : x ≠ y := fun e => by subst e; simp at hxy
              exact ⟨W.drew, ⟨_, rfl⟩, by have h9 := HY.out; rw [List.getElem?_eq_getElem hlt2, Option.some.injEq] at h9; rw [h9]; exact fun e => hxy2 e.symm, _, _, rfl⟩
          · rintro D W hD hKp hL hKd
            have hc13 := hL.cell 0
            have k12 := L12.out.kept (hKp.block _ L12.out.lt (by omega))
            have hc12 := k12.cell 0
            have k4 := L4.out.kept (hKp.block _ L4.out.lt (by omega))
            have hc4 := k4.cell 0
            have hz4 := k4.frozen 0
            have hh4 : W.holds w.heap.size := has_of_lt k4.lt
            simp only [List.getElem?_toArray, List.getElem?_cons_zero, List.getElem?_cons_succ] at hc13 hc12 hc4
            have hMW := HM0.out.kp_of hKp (fun g hg hS => by have := hfp g hg; omega)
            have hAW := HA0.out.kp2 hKp (fun hl g hg hS => by have := HA1.out.lt hl g hg; omega)
            have hBW := HB0.out.trans (hKp.below HB0.out.size (fun k hk => by omega))
            have hsW2 := hKp.size
            have HMW := Lib.hid hMW
            have HAW := Lib.hid hAW
            have HBWW := Lib.hid hBW
            have HKD := Lib.hid hKd
            have HK4' := Lib.hid k4
            have HP : ∀ (W : World) (v1 v2 : Value), Arr W 2 PairD.cells v1 m → Arr W 2 PairD.cells v2 m → Calls Try.prog 28 #[v1, v2] W fun e w' => e = .returned (.bool true) ∧ Below W.heap.size W w' := fun W v1 v2 h1 h2 => by
              have := ref21_pairs v1 v2 m m W h1 h2
              simpa using this
            clear hMW hAW hBW hKp hL hKd k12 k4
            go_wp2_with (fail)
            refine (pairs_any _ p kv vv m _ HMW.out (by omega)).mono ?_
            rintro e w' ⟨v9, rfl, hR9, hb9⟩
            rw [hpz] at hR9
            obtain ⟨E9, n9, rfl⟩ := below_ext hb9
            have HR9 := Lib.hid hR9
            clear hb9 hR9
            simp only []
            go_wp2_with (fail)
            refine (HP _ _ _ (Arr.ofRow HR9.out) (HAW.out.below (by ((repeat' (first | exact Below.refl _ _ | assumption | (refine Below_alloc ?_ ?_ _) | (refine Below_ext ?_ ?_ _ _) | (refine Below_setCell ?_ _ _ _ ?_) | apply Below.drew | refine Below_drewN ?_ _)) <;> first | done | (simp; done) | (simp; omega))))).mono ?_
            rintro e w' ⟨rfl, hb9⟩
            obtain ⟨E10, n10, rfl⟩ := below_ext hb9
            clear hb9
            simp only []
            go_wp2_with (fail)
            refine (HA _).mono ?_
            rintro e w' ⟨rfl, hb9⟩
            obtain ⟨E11, n11, rfl⟩ := below_ext hb9
            clear hb9
            simp only []
            go_wp2_with (fail)
            have q0 : W.heap[D]? = some (.deferred (some [])) := HKD.out
            have hDW : D < W.heap.size := block_lt q0
            have q1 : ((((W.setCell ⟨w.heap.size, 0, none⟩ (.bool true)).ext E9 n9).ext E10 n10).ext E11 n11).heap[D]? = some (.deferred (some [])) := by
              rw [ext_heap _ _ _ _ (by simp [World.setCell]; omega), ext_heap _ _ _ _ (by simp [World.setCell]; omega), ext_heap _ _ _ _ (by simp [World.setCell]; omega), set1_heap _ _ _ _ _ (by omega)]
              exact q0
            have hbV : Below w.heap.size w ((((W.setCell ⟨w.heap.size, 0, none⟩ (.bool true)).ext E9 n9).ext E10 n10).ext E11 n11) := by
              have r1 := HBWW.out
              have r2 := r1.size
              exact Below_ext (Below_ext (Below_ext (Below_setCell r1 _ _ _ (Nat.le_refl _)) (by simp [World.setCell]; omega) _ _) (by simp [World.setCell]; omega) _ _) (by simp [World.setCell]; omega) _ _
            have q4 : ((((W.setCell ⟨w.heap.size, 0, none⟩ (.bool true)).ext E9 n9).ext E10 n10).ext E11 n11).heap[w.heap.size]? = some (.cells #[.bool true] 4 (0, 0)) := by
              rw [ext_heap _ _ _ _ (by simp [World.setCell]; omega), ext_heap _ _ _ _ (by simp [World.setCell]; omega), ext_heap _ _ _ _ (by simp [World.setCell]; omega)]
              obtain ⟨hlt9, hk9⟩ := Array.getElem?_eq_some_iff.1 (show W.heap[w.heap.size]? = _ from HK4'.out)
              show (W.heap.modify w.heap.size _)[w.heap.size]? = _
              rw [Array.getElem?_eq_getElem (by rw [Array.size_modify]; exact hlt9), Array.getElem_modify_self, hk9]
              rfl
            generalize ((((W.setCell ⟨w.heap.size, 0, none⟩ (.bool true)).ext E9 n9).ext E10 n10).ext E11 n11) = V at *
            have hbF : Below w.heap.size w (V.putObj D (.deferred none)) := hbV.trans (belowK_b (w := w) (Nat.le_refl _) V D _ _ (by omega) q1 rfl rfl)
            (try simp only [noPan])
            refine ⟨by simp, .inl ⟨_, _, rfl, run_takeDeferred q1, ?_⟩⟩
            have q5 : (V.putObj D (.deferred none)).cell? ⟨w.heap.size, 0, none⟩ = some (.bool true) := by
              rw [World.cell?_of_block (w := V) (World.putObj_heap_other (show w.heap.size ≠ D by omega))]
              simp [World.cell?, q4]
            generalize V.putObj D (.deferred none) = X at *
            refine ⟨.bool true, ?_, rfl, hbF⟩
            rw [results_cell1 rfl]
            go_simp
        · obtain ⟨g1, g2⟩ := has_at hri (k := key) (v := q.val) (by rw [← hqk]; cases q; exact List.mem_of_getElem? hq)
          rw [g1, g2]
          obtain ⟨b, o, c', e, hh, e0, e1⟩ := HA1.out.pair (show Below wr.heap.size wr ((wr.ext E1 n1).ext E2 n2) from (by ((repeat' (first | exact Below.refl _ _ | assumption | (refine Below_alloc ?_ ?_ _) | (refine Below_ext ?_ ?_ _ _) | (refine Below_setCell ?_ _ _ _ ?_) | apply Below.drew | refine Below_drewN ?_ _)) <;> first | done | (simp; done) | (simp; omega)))) hq
          cases e
          have hjl := (List.getElem?_eq_some_iff.1 hq).1
          simp only []
          go_wp2_with (fail)
          refine (copy_any _ p kv vv m _ (HM.out.below (by ((repeat' (first | exact Below.refl _ _ | assumption | (refine Below_alloc ?_ ?_ _) | (refine Below_ext ?_ ?_ _ _) | (refine Below_setCell ?_ _ _ _ ?_) | apply Below.drew | refine Below_drewN ?_ _)) <;> first | done | (simp; done) | (simp; omega)))) (by omega)).mono ?_
          rintro e w' ⟨q3, kq, vq, rfl, hMq, hbx⟩
          obtain ⟨E3, n3, rfl⟩ := below_ext hbx
          clear hbx
          have hfq : ∀ g, foot q3 kq vq g → wr.heap.size ≤ g := fun g hg => by have := (hMq.foot_lt hg).2; simp at this; omega
          have HMq := Lib.hid hMq
          clear hMq
          simp only []
          go_wp2_with (fail)
          refine (do_any _ q3 kq vq _ ⟨2, key, 12345, 0, 0⟩ _ HMq.out (by omega)).mono ?_
          intro e w4 hD
          obtain ⟨kq4, vq4, a4, c4, rfl, hM4, hR4, hk4, hf4⟩ := done_outE rfl rfl hD
          have hfq4 : ∀ g, foot q3 kq4 vq4 g → wr.heap.size ≤ g := fun g hg => by
            rcases hf4 g hg with h1 | h1
            · exact hfq g h1
            · simp at h1; omega
          have hl4 := afterM_len m ⟨2, key, 12345, 0, 0⟩
          have HM4 := Lib.hid hM4
          have HK4 := Lib.hid hk4
          clear hD hR4 hf4 hM4 hk4
          simp only []
          go_wp2_with (fail)
          refine (do_any _ q3 kq4 vq4 _ ⟨3, 1, 0, 0, 0⟩ _ HM4.out (by omega)).mono ?_
          intro e w5 hD
          obtain ⟨kq5, vq5, a5, c5, rfl, hM5, hR5, hk5, hf5⟩ := done_outE rfl rfl hD
          have HK5 := Lib.hid hk5
          clear hD hR5 hf5 hM5 hk5
          have hfp : ∀ g, foot p kv vv g → g < wr.heap.size := fun g hg => (HM.out.foot_lt hg).1
          have hMp4 := (HM.out.below (show Below wr.heap.size wr (((wr.ext E1 n1).ext E2 n2).ext E3 n3) from (by ((repeat' (first | exact Below.refl _ _ | assumption | (refine Below_alloc ?_ ?_ _) | (refine Below_ext ?_ ?_ _ _) | (refine Below_setCell ?_ _ _ _ ?_) | apply Below.drew | refine Below_drewN ?_ _)) <;> first | done | (simp; done) | (simp; omega))))).kp_of HK4.out (fun g hg hS => by have := hfp g hg; have := hfq g hS; omega)
          have hMp5 := hMp4.kp_of HK5.out (fun g hg hS => by have := hfp g hg; have := hfq4 g hS; omega)
          have hAp4 := (HA1.out.below (show Below wr.heap.size wr (((wr.ext E1 n1).ext E2 n2).ext E3 n3) from (by ((repeat' (first | exact Below.refl _ _ | assumption | (refine Below_alloc ?_ ?_ _) | (refine Below_ext ?_ ?_ _ _) | (refine Below_setCell ?_ _ _ _ ?_) | apply Below.drew | refine Below_drewN ?_ _)) <;> first | done | (simp; done) | (simp; omega))))).kp2 HK4.out (fun hl g hg hS => by have := HA1.out.lt hl g hg; have := hfq g hS; omega)
          have hAp5 := hAp4.kp2 HK5.out (fun hl g hg hS => by have := HA1.out.lt hl g hg; have := hfq4 g hS; omega)
          have hBx : Below wr.heap.size wr w5 := ((show Below wr.heap.size wr (((wr.ext E1 n1).ext E2 n2).ext E3 n3) from (by ((repeat' (first | exact Below.refl _ _ | assumption | (refine Below_alloc ?_ ?_ _) | (refine Below_ext ?_ ?_ _ _) | (refine Below_setCell ?_ _ _ _ ?_) | apply Below.drew | refine Below_drewN ?_ _)) <;> first | done | (simp; done) | (simp; omega)))).trans (HK4.out.below (by simp; omega) hfq)).trans (HK5.out.below (by have := HK4.out.size; simp at this; omega) hfq4)
          have hB5 : Below w.heap.size w w5 := HBW.out.trans (hBx.mono HBW.out.size)
          have hb45 : Lies w5 w.heap.size #[.bool false] 4 := HB4.out.kept (hBx.block w.heap.size (by omega))
          have hs5 := hBx.size
          have HMp5 := Lib.hid hMp5
          have HAp5 := Lib.hid hAp5
          have HB5 := Lib.hid hB5
          have HB45 := Lib.hid hb45
          clear hMp4 hAp4 hMp5 hAp5 hB5 hb45 hBx
          simp only []
          go_wp2_with (fail)
          refine (ref_within _ m key 18446744073709551615 1000 _ HAp5.out (by omega) (by omega)).mono ?_
          rintro e w' ⟨a6, c6, rfl, hR6, hbx⟩
          obtain ⟨E6, n6, rfl⟩ := below_ext hbx
          rw [hps] at hR6 ⊢
          have HR6 := Lib.hid hR6
          clear hbx hR6
          simp only []
          go_wp2_with (fail)
          refine (from_any _ p kv vv m key _ (HMp5.out.below (by ((repeat' (first | exact Below.refl _ _ | assumption | (refine Below_alloc ?_ ?_ _) | (refine Below_ext ?_ ?_ _ _) | (refine Below_setCell ?_ _ _ _ ?_) | apply Below.drew | refine Below_drewN ?_ _)) <;> first | done | (simp; done) | (simp; omega)))) (by omega)).mono ?_
          rintro e w' ⟨f, rfl, hT, hbx⟩
          obtain ⟨E7, n7, rfl⟩ := below_ext hbx
          rw [hpsd] at hT
          obtain ⟨g, ga, gc, rfl, hg0, hg, hn', hgc, hga, hgl, hgm⟩ := hT
          clear hbx
          have hfn := func_nil
          simp only []
          go_wp2_with (fail)
          have hs6 : w5.heap.size + E6.size + 1 + 1 ≤ g := by simpa using hg0
          obtain ⟨W0, hW0⟩ : ∃ W0, ((((w5.ext E6 n6).alloc (.cells #[.slice a6 ps.length c6] 25)).alloc (.cells #[.int .i64 0] 3)).ext E7 n7) = W0 := ⟨_, rfl⟩
          have l13 : Lies W0 (w5.heap.size + E6.size + 1) #[.int .i64 0] 3 := by rw [← hW0]; exact heap_lt_ext (heap_at_alloc (by simp))
          have l12 : Lies W0 (w5.heap.size + E6.size) #[.slice a6 ps.length c6] 25 := by rw [← hW0]; exact heap_lt_ext (heap_lt_alloc (heap_at_alloc (by simp)))
          have l4 : Lies W0 w.heap.size #[.bool false] 4 := by rw [← hW0]; exact heap_lt_ext (heap_lt_alloc (heap_lt_alloc (heap_lt_ext HB45.out)))
          have hM0 := HMp5.out.below (show Below w5.heap.size w5 W0 by rw [← hW0]; exact (by ((repeat' (first | exact Below.refl _ _ | assumption | (refine Below_alloc ?_ ?_ _) | (refine Below_ext ?_ ?_ _ _) | (refine Below_setCell ?_ _ _ _ ?_) | apply Below.drew | refine Below_drewN ?_ _)) <;> first | done | (simp; done) | (simp; omega))))
          have hA0 := HAp5.out.below (show Below w5.heap.size w5 W0 by rw [← hW0]; exact (by ((repeat' (first | exact Below.refl _ _ | assumption | (refine Below_alloc ?_ ?_ _) | (refine Below_ext ?_ ?_ _ _) | (refine Below_setCell ?_ _ _ _ ?_) | apply Below.drew | refine Below_drewN ?_ _)) <;> first | done | (simp; done) | (simp; omega))))
          have hA60 : Arr W0 2 PairD.cells (.slice a6 ps.length c6) ps := (Arr.ofRow HR6.out).below (show Below (w5.ext E6 n6).heap.size (w5.ext E6 n6) W0 by rw [← hW0]; exact (by ((repeat' (first | exact Below.refl _ _ | assumption | (refine Below_alloc ?_ ?_ _) | (refine Below_ext ?_ ?_ _ _) | (refine Below_setCell ?_ _ _ _ ?_) | apply Below.drew | refine Below_drewN ?_ _)) <;> first | done | (simp; done) | (simp; omega))))
          have hsB5 := HB5.out.size
          have H6L : Hid (ps ≠ [] → ∀ g, (Value.slice a6 ps.length c6).ownBlock = some g → g < w5.heap.size + E6.size) := Lib.hid (fun hl g hg => by have := (Arr.ofRow HR6.out).lt hl g hg; simpa using this)
          have hB0 : Below w.heap.size w W0 := HB5.out.trans ((show Below w5.heap.size w5 W0 by rw [← hW0]; exact (by ((repeat' (first | exact Below.refl _ _ | assumption | (refine Below_alloc ?_ ?_ _) | (refine Below_ext ?_ ?_ _ _) | (refine Below_setCell ?_ _ _ _ ?_) | apply Below.drew | refine Below_drewN ?_ _)) <;> first | done | (simp; done) | (simp; omega)))).mono hsB5)
          have hsW : w5.heap.size + E6.size + 1 + 1 ≤ W0.heap.size := by rw [← hW0]; first | (simp; done) | (simp; omega)
          rw [hW0] at hg hn' hgc hga hgl ⊢
          clear hW0 hg0
          have hgl' : ∀ k, (Value.slice ga ps.length gc).ownBlock = some k → w5.heap.size + E6.size + 1 + 1 ≤ k ∧ k < W0.heap.size := fun k hk => by have := hgl k hk; simp at this; omega
          have HM0 := Lib.hid hM0
          have HA0 := Lib.hid hA0
          have HA60 := Lib.hid hA60
          have HB0 := Lib.hid hB0
          have L12 := Lib.hid l12
          have L4 := Lib.hid l4
          clear hM0 hA0 hA60 hB0 l12 l4 hgl
          refine (wpIn_wide (n := 5)).1 ?_
          refine tell_range 15 _ rfl rfl hs6 hg hgc hga hgl' hgm (by omega) l13 ?_ ?_ ?_
          · rintro l' x W K hK
            simp only [List.setIfInBounds_toArray, List.set_cons_succ, List.set_cons_zero] at hK
            gi_wp2
            exact hK
          · rintro l' pre x Bx W hlt2 hKp hL hBx hLx
            simp only [List.setIfInBounds_toArray, List.set_cons_succ, List.set_cons_zero]
            have hc13 := hL.cell 0
            have hz13 := hL.frozen 0
            have hx0 := hLx.cell 0
            have hx1 := hLx.cell 1
            have k12 := L12.out.kept (hKp.block _ L12.out.lt (by omega))
            have hc12 := k12.cell 0
            have k4 := L4.out.kept (hKp.block _ L4.out.lt (by omega))
            have hc4 := k4.cell 0
            have hz4 := k4.frozen 0
            simp only [List.getElem?_toArray, List.getElem?_cons_zero, List.getElem?_cons_succ] at hc13 hx0 hx1 hc12 hc4
            obtain ⟨y, hy⟩ : ∃ y, ps[pre.length]? = some y := ⟨_, List.getElem?_eq_getElem hlt2⟩
            have hA6W : Arr W 2 PairD.cells (.slice a6 ps.length c6) ps := Arr.kp2 HA60.out hKp (fun hl g hg hS => by have h1 := H6L.out hl g hg; omega)
            obtain ⟨by_, oy, cy, ey, hhy, ey0, ey1⟩ := hA6W.pair (Below.refl _ _) hy
            cases ey
            have hdd : decide (ps.length ≤ pre.length) = false := decide_eq_false (by omega)
            have HY := Lib.hid hy
            clear hy
            have hS : HeldTill [(11, fun w' => w'.cell? ⟨w5.heap.size + E6.size + 1, 0, none⟩ = some (.int .i64 pre.length)), (11, fun w' => w'.cell? ⟨w5.heap.size + E6.size, 0, none⟩ = some (.slice (some ⟨by_, oy, none⟩) ps.length c6)), (11, fun w' => w'.cell? ⟨Bx, 0, none⟩ = some (.int .u64 x.key) ∧ w'.cell? ⟨Bx, 1, none⟩ = some (.int .u64 x.val)), (11, fun w' => w'.cell? ⟨by_, oy + pre.length * 2, none⟩ = some (.int .u64 y.key) ∧ w'.cell? ⟨by_, oy + pre.length * 2 + 1, none⟩ = some (.int .u64 y.val))] (Array.replicate 12 false) W.drew := by
              intro x hx _
              simp only [List.mem_cons, List.not_mem_nil, or_false] at hx
              rcases hx with rfl | rfl | rfl | rfl
              · exact hc13
              · exact hc12
              · exact ⟨hx0, hx1⟩
              · exact ⟨ey0, ey1⟩
            cases hxy : (x.key == y.key && x.val == y.val) with
            | true =>
              have hneq : ∀ W, (binOp .neq 47 (.agg #[.int .u64 x.key, .int .u64 x.val]) (.agg #[.int .u64 y.key, .int .u64 y.val])).run Try.prog W = .ok (.bool false) W := fun W => by have := neq_pair W x.key x.val y.key y.val; rw [hxy] at this; exact this
              gi_wp2
              refine wpIn_region_S [(11, fun w' => w'.cell? ⟨w5.heap.size + E6.size + 1, 0, none⟩ = some (.int .i64 pre.length)), (11, fun w' => w'.cell? ⟨w5.heap.size + E6.size, 0, none⟩ = some (.slice (some ⟨by_, oy, none⟩) ps.length c6)), (11, fun w' => w'.cell? ⟨Bx, 0, none⟩ = some (.int .u64 x.key) ∧ w'.cell? ⟨Bx, 1, none⟩ = some (.int .u64 x.val)), (11, fun w' => w'.cell? ⟨by_, oy + pre.length * 2, none⟩ = some (.int .u64 y.key) ∧ w'.cell? ⟨by_, oy + pre.length * 2 + 1, none⟩ = some (.int .u64 y.val))] (by kernel_rfl) (by kernel_rfl) (by rintro ⟨a0, w0, _, _, hf⟩; exact hf) ?_
              (refine wpAnyS_load (i := 0) (c := 11) (T := fun w' => w'.cell? ⟨w5.heap.size + E6.size + 1, 0, none⟩ = some (.int .i64 pre.length)) (v := ?_) rfl (by kernel_rfl) (by kernel_rfl) (by kernel_rfl) (by kernel_rfl) (by kernel_rfl) (by kernel_rfl) (by kernel_rfl) (by simp) (fun _ _ _ h => h) hS (Or.inl ⟨by kernel_rfl, ?_⟩) (fun hS1 => ?_); rotate_left; (focus (intro w hT; go_simp; first | done | with_reducible rfl)); clear hS; have hS := hS1; clear hS1)
              try simp only [List.getElem_toArray, List.getElem_cons_succ, List.getElem_cons_zero, Act.put, List.setIfInBounds_toArray, List.set_cons_succ, List.set_cons_zero]
              (refine wpAnyS_load (i := 1) (c := 11) (T := fun w' => w'.cell? ⟨w5.heap.size + E6.size, 0, none⟩ = some (.slice (some ⟨by_, oy, none⟩) ps.length c6)) (v := ?_) rfl (by kernel_rfl) (by kernel_rfl) (by kernel_rfl) (by kernel_rfl) (by kernel_rfl) (by kernel_rfl) (by kernel_rfl) (by simp) (fun _ _ _ h => h) hS (Or.inl ⟨by kernel_rfl, ?_⟩) (fun hS1 => ?_); rotate_left; (focus (intro w hT; go_simp; first | done | with_reducible rfl)); clear hS; have hS := hS1; clear hS1)
              try simp only [List.getElem_toArray, List.getElem_cons_succ, List.getElem_cons_zero, Act.put, List.setIfInBounds_toArray, List.set_cons_succ, List.set_cons_zero]
              (refine wpAnyS_take (i := 2) (v := ?_) rfl (by kernel_rfl) (by kernel_rfl) (by kernel_rfl) (by kernel_rfl) (by kernel_rfl) (by kernel_rfl) (fun _ _ _ h => h) hS (Or.inl ⟨by kernel_rfl, ?_⟩) (fun hS1 => ?_); rotate_left; (focus (intro w _; go_simp; first | done | with_reducible rfl)); clear hS; have hS := hS1; clear hS1)
              try simp only [List.getElem_toArray, List.getElem_cons_succ, List.getElem_cons_zero, Act.put, List.setIfInBounds_toArray, List.set_cons_succ, List.set_cons_zero]
              (refine wpAnyS_take (i := 3) (v := ?_) rfl (by kernel_rfl) (by kernel_rfl) (by kernel_rfl) (by kernel_rfl) (by kernel_rfl) (by kernel_rfl) (fun _ _ _ h => h) hS (Or.inl ⟨by kernel_rfl, ?_⟩) (fun hS1 => ?_); rotate_left; (focus (intro w _; go_simp; first | done | with_reducible rfl)); clear hS; have hS := hS1; clear hS1)
              try simp only [List.getElem_toArray, List.getElem_cons_succ, List.getElem_cons_zero, Act.put, List.setIfInBounds_toArray, List.set_cons_succ, List.set_cons_zero]
              (refine wpAnyS_take (i := 4) (v := ?_) rfl (by kernel_rfl) (by kernel_rfl) (by kernel_rfl) (by kernel_rfl) (by kernel_rfl) (by kernel_rfl) (fun _ _ _ h => h) hS (Or.inl ⟨by kernel_rfl, ?_⟩) (fun hS1 => ?_); rotate_left; (focus (intro w _; go_simp; first | done | with_reducible rfl)); clear hS; have hS := hS1; clear hS1)
              try simp only [List.getElem_toArray, List.getElem_cons_succ, List.getElem_cons_zero, Act.put, List.setIfInBounds_toArray, List.set_cons_succ, List.set_cons_zero]
              (refine wpAnyS_load (i := 5) (c := 11) (T := fun w' => w'.cell? ⟨Bx, 0, none⟩ = some (.int .u64 x.key) ∧ w'.cell? ⟨Bx, 1, none⟩ = some (.int .u64 x.val)) (v := ?_) rfl (by kernel_rfl) (by kernel_rfl) (by kernel_rfl) (by kernel_rfl) (by kernel_rfl) (by kernel_rfl) (by kernel_rfl) (by simp) (fun _ _ _ h => h) hS (Or.inl ⟨by kernel_rfl, ?_⟩) (fun hS1 => ?_); rotate_left; (focus (intro w hT; obtain ⟨hT0, hT1⟩ := hT; go_simp; first | done | with_reducible rfl)); clear hS; have hS := hS1; clear hS1)
              try simp only [List.getElem_toArray, List.getElem_cons_succ, List.getElem_cons_zero, Act.put, List.setIfInBounds_toArray, List.set_cons_succ, List.set_cons_zero]
              (refine wpAnyS_load (i := 6) (c := 11) (T := fun w' => w'.cell? ⟨w5.heap.size + E6.size, 0, none⟩ = some (.slice (some ⟨by_, oy, none⟩) ps.length c6)) (v := ?_) rfl (by kernel_rfl) (by kernel_rfl) (by kernel_rfl) (by kernel_rfl) (by kernel_rfl) (by kernel_rfl) (by kernel_rfl) (by simp) (fun _ _ _ h => h) hS (Or.inl ⟨by kernel_rfl, ?_⟩) (fun hS1 => ?_); rotate_left; (focus (intro w hT; go_simp; first | done | with_reducible rfl)); clear hS; have hS := hS1; clear hS1)
              try simp only [List.getElem_toArray, List.getElem_cons_succ, List.getElem_cons_zero, Act.put, List.setIfInBounds_toArray, List.set_cons_succ, List.set_cons_zero]
              (refine wpAnyS_load (i := 7) (c := 11) (T := fun w' => w'.cell? ⟨w5.heap.size + E6.size + 1, 0, none⟩ = some (.int .i64 pre.length)) (v := ?_) rfl (by kernel_rfl) (by kernel_rfl) (by kernel_rfl) (by kernel_rfl) (by kernel_rfl) (by kernel_rfl) (by kernel_rfl) (by simp) (fun _ _ _ h => h) hS (Or.inl ⟨by kernel_rfl, ?_⟩) (fun hS1 => ?_); rotate_left; (focus (intro w hT; go_simp; first | done | with_reducible rfl)); clear hS; have hS := hS1; clear hS1)
              try simp only [List.getElem_toArray, List.getElem_cons_succ, List.getElem_cons_zero, Act.put, List.setIfInBounds_toArray, List.set_cons_succ, List.set_cons_zero]
              (refine wpAnyS_take (i := 8) (v := ?_) rfl (by kernel_rfl) (by kernel_rfl) (by kernel_rfl) (by kernel_rfl) (by kernel_rfl) (by kernel_rfl) (fun _ _ _ h => h) hS (Or.inl ⟨by kernel_rfl, ?_⟩) (fun hS1 => ?_); rotate_left; (focus (intro w _; go_simp; first | done | with_reducible rfl)); clear hS; have hS := hS1; clear hS1)
              try simp only [List.getElem_toArray, List.getElem_cons_succ, List.getElem_cons_zero, Act.put, List.setIfInBounds_toArray, List.set_cons_succ, List.set_cons_zero]
              (refine wpAnyS_load (i := 9) (c := 11) (T := fun w' => w'.cell? ⟨by_, oy + pre.length * 2, none⟩ = some (.int .u64 y.key) ∧ w'.cell? ⟨by_, oy + pre.length * 2 + 1, none⟩ = some (.int .u64 y.val)) (v := ?_) rfl (by kernel_rfl) (by kernel_rfl) (by kernel_rfl) (by kernel_rfl) (by kernel_rfl) (by kernel_rfl) (by kernel_rfl) (by simp) (fun _ _ _ h => h) hS (Or.inl ⟨by kernel_rfl, ?_⟩) (fun hS1 => ?_); rotate_left; (focus (intro w hT; obtain ⟨hT0, hT1⟩ := hT; go_simp; first | done | with_reducible rfl)); clear hS; have hS := hS1; clear hS1)
              try simp only [List.getElem_toArray, List.getElem_cons_succ, List.getElem_cons_zero, Act.put, List.setIfInBounds_toArray, List.set_cons_succ, List.set_cons_zero]
              (refine wpAnyS_take (i := 10) (v := ?_) rfl (by kernel_rfl) (by kernel_rfl) (by kernel_rfl) (by kernel_rfl) (by kernel_rfl) (by kernel_rfl) (fun _ _ _ h => h) hS (Or.inl ⟨by kernel_rfl, ?_⟩) (fun hS1 => ?_); rotate_left; (focus (intro w _; go_simp; first | done | with_reducible rfl)); clear hS; have hS := hS1; clear hS1)
              try simp only [List.getElem_toArray, List.getElem_cons_succ, List.getElem_cons_zero, Act.put, List.setIfInBounds_toArray, List.set_cons_succ, List.set_cons_zero]
              refine wpAnyS_ready (rs := [11]) (by kernel_rfl) (by simp) ?_
              refine AllReadyS.cons rfl (fun K hK => ?_) AllReadyS.nil
              go_simp
              skip
              refine hK.out _ _ ?_ (fun hS1 => ?_)
              · clear hK hS; (intro x hx hl; simp only [List.mem_cons, List.not_mem_nil, or_false] at hx; rcases hx with rfl | rfl | rfl | rfl; all_goals (first | exact Bool.noConfusion (show true = false from hl) | (show World.cell? _ _ = _; go_simp; done) | (refine ⟨?_, ?_, ?_, ?_, ?_⟩ <;> (show World.cell? _ _ = _; go_simp; done)) | (refine ⟨?_, ?_, ?_⟩ <;> (show World.cell? _ _ = _; go_simp; done))))
              clear hK K hS
              have hS := hS1
              clear hS1
              refine wpAnyS_done (by kernel_rfl) ?_ _
              clear hS
              gi_wp2
              have hxy2 : x = y := by
                simp only [Bool.and_eq_true, beq_iff_eq] at hxy
                exact (PairD.eq_iff x y).2 hxy
              exact ⟨W.drew, ⟨_, rfl⟩, by have h9 := HY.out; rw [List.getElem?_eq_getElem hlt2, Option.some.injEq] at h9; rw [h9, hxy2], rfl⟩
            | false =>
              have hneq : ∀ W, (binOp .neq 47 (.agg #[.int .u64 x.key, .int .u64 x.val]) (.agg #[.int .u64 y.key, .int .u64 y.val])).run Try.prog W = .ok (.bool true) W := fun W => by have := neq_pair W x.key x.val y.key y.val; rw [hxy] at this; exact this
              gi_wp2
              refine wpIn_region_S [(11, fun w' => w'.cell? ⟨w5.heap.size + E6.size + 1, 0, none⟩ = some (.int .i64 pre.length)), (11, fun w' => w'.cell? ⟨w5.heap.size + E6.size, 0, none⟩ = some (.slice (some ⟨by_, oy, none⟩) ps.length c6)), (11, fun w' => w'.cell? ⟨Bx, 0, none⟩ = some (.int .u64 x.key) ∧ w'.cell? ⟨Bx, 1, none⟩ = some (.int .u64 x.val)), (11, fun w' => w'.cell? ⟨by_, oy + pre.length * 2, none⟩ = some (.int .u64 y.key) ∧ w'.cell? ⟨by_, oy + pre.length * 2 + 1, none⟩ = some (.int .u64 y.val))] (by kernel_rfl) (by kernel_rfl) (by rintro ⟨a0, w0, _, _, hf⟩; exact hf) ?_
              (refine wpAnyS_load (i := 0) (c := 11) (T := fun w' => w'.cell? ⟨w5.heap.size + E6.size + 1, 0, none⟩ = some (.int .i64 pre.length)) (v := ?_) rfl (by kernel_rfl) (by kernel_rfl) (by kernel_rfl) (by kernel_rfl) (by kernel_rfl) (by kernel_rfl) (by kernel_rfl) (by simp) (fun _ _ _ h => h) hS (Or.inl ⟨by kernel_rfl, ?_⟩) (fun hS1 => ?_); rotate_left; (focus (intro w hT; go_simp; first | done | with_reducible rfl)); clear hS; have hS := hS1; clear hS1)
              try simp only [List.getElem_toArray, List.getElem_cons_succ, List.getElem_cons_zero, Act.put, List.setIfInBounds_toArray, List.set_cons_succ, List.set_cons_zero]
              (refine wpAnyS_load (i := 1) (c := 11) (T := fun w' => w'.cell? ⟨w5.heap.size + E6.size, 0, none⟩ = some (.slice (some ⟨by_, oy, none⟩) ps.length c6)) (v := ?_) rfl (by kernel_rfl) (by kernel_rfl) (by kernel_rfl) (by kernel_rfl) (by kernel_rfl) (by kernel_rfl) (by kernel_rfl) (by simp) (fun _ _ _ h => h) hS (Or.inl ⟨by kernel_rfl, ?_⟩) (fun hS1 => ?_); rotate_left; (focus (intro w hT; go_simp; first | done | with_reducible rfl)); clear hS; have hS := hS1; clear hS1)
              try simp only [List.getElem_toArray, List.getElem_cons_succ, List.getElem_cons_zero, Act.put, List.setIfInBounds_toArray, List.set_cons_succ, List.set_cons_zero]
              (refine wpAnyS_take (i := 2) (v := ?_) rfl (by kernel_rfl) (by kernel_rfl) (by kernel_rfl) (by kernel_rfl) (by kernel_rfl) (by kernel_rfl) (fun _ _ _ h => h) hS (Or.inl ⟨by kernel_rfl, ?_⟩) (fun hS1 => ?_); rotate_left; (focus (intro w _; go_simp; first | done | with_reducible rfl)); clear hS; have hS := hS1; clear hS1)
              try simp only [List.getElem_toArray, List.getElem_cons_succ, List.getElem_cons_zero, Act.put, List.setIfInBounds_toArray, List.set_cons_succ, List.set_cons_zero]
              (refine wpAnyS_take (i := 3) (v := ?_) rfl (by kernel_rfl) (by kernel_rfl) (by kernel_rfl) (by kernel_rfl) (by kernel_rfl) (by kernel_rfl) (fun _ _ _ h => h) hS (Or.inl ⟨by kernel_rfl, ?_⟩) (fun hS1 => ?_); rotate_left; (focus (intro w _; go_simp; first | done | with_reducible rfl)); clear hS; have hS := hS1; clear hS1)
              try simp only [List.getElem_toArray, List.getElem_cons_succ, List.getElem_cons_zero, Act.put, List.setIfInBounds_toArray, List.set_cons_succ, List.set_cons_zero]
              (refine wpAnyS_take (i := 4) (v := ?_) rfl (by kernel_rfl) (by kernel_rfl) (by kernel_rfl) (by kernel_rfl) (by kernel_rfl) (by kernel_rfl) (fun _ _ _ h => h) hS (Or.inl ⟨by kernel_rfl, ?_⟩) (fun hS1 => ?_); rotate_left; (focus (intro w _; go_simp; first | done | with_reducible rfl)); clear hS; have hS := hS1; clear hS1)
              try simp only [List.getElem_toArray, List.getElem_cons_succ, List.getElem_cons_zero, Act.put, List.setIfInBounds_toArray, List.set_cons_succ, List.set_cons_zero]
              (refine wpAnyS_load (i := 5) (c := 11) (T := fun w' => w'.cell? ⟨Bx, 0, none⟩ = some (.int .u64 x.key) ∧ w'.cell? ⟨Bx, 1, none⟩ = some (.int .u64 x.val)) (v := ?_) rfl (by kernel_rfl) (by kernel_rfl) (by kernel_rfl) (by kernel_rfl) (by kernel_rfl) (by kernel_rfl) (by kernel_rfl) (by simp) (fun _ _ _ h => h) hS (Or.inl ⟨by kernel_rfl, ?_⟩) (fun hS1 => ?_); rotate_left; (focus (intro w hT; obtain ⟨hT0, hT1⟩ := hT; go_simp; first | done | with_reducible rfl)); clear hS; have hS := hS1; clear hS1)
              try simp only [List.getElem_toArray, List.getElem_cons_succ, List.getElem_cons_zero, Act.put, List.setIfInBounds_toArray, List.set_cons_succ, List.set_cons_zero]
              (refine wpAnyS_load (i := 6) (c := 11) (T := fun w' => w'.cell? ⟨w5.heap.size + E6.size, 0, none⟩ = some (.slice (some ⟨by_, oy, none⟩) ps.length c6)) (v := ?_) rfl (by kernel_rfl) (by kernel_rfl) (by kernel_rfl) (by kernel_rfl) (by kernel_rfl) (by kernel_rfl) (by kernel_rfl) (by simp) (fun _ _ _ h => h) hS (Or.inl ⟨by kernel_rfl, ?_⟩) (fun hS1 => ?_); rotate_left; (focus (intro w hT; go_simp; first | done | with_reducible rfl)); clear hS; have hS := hS1; clear hS1)
              try simp only [List.getElem_toArray, List.getElem_cons_succ, List.getElem_cons_zero, Act.put, List.setIfInBounds_toArray, List.set_cons_succ, List.set_cons_zero]
              (refine wpAnyS_load (i := 7) (c := 11) (T := fun w' => w'.cell? ⟨w5.heap.size + E6.size + 1, 0, none⟩ = some (.int .i64 pre.length)) (v := ?_) rfl (by kernel_rfl) (by kernel_rfl) (by kernel_rfl) (by kernel_rfl) (by kernel_rfl) (by kernel_rfl) (by kernel_rfl) (by simp) (fun _ _ _ h => h) hS (Or.inl ⟨by kernel_rfl, ?_⟩) (fun hS1 => ?_); rotate_left; (focus (intro w hT; go_simp; first | done | with_reducible rfl)); clear hS; have hS := hS1; clear hS1)
              try simp only [List.getElem_toArray, List.getElem_cons_succ, List.getElem_cons_zero, Act.put, List.setIfInBounds_toArray, List.set_cons_succ, List.set_cons_zero]
              (refine wpAnyS_take (i := 8) (v := ?_) rfl (by kernel_rfl) (by kernel_rfl) (by kernel_rfl) (by kernel_rfl) (by kernel_rfl) (by kernel_rfl) (fun _ _ _ h => h) hS (Or.inl ⟨by kernel_rfl, ?_⟩) (fun hS1 => ?_); rotate_left; (focus (intro w _; go_simp; first | done | with_reducible rfl)); clear hS; have hS := hS1; clear hS1)
              try simp only [List.getElem_toArray, List.getElem_cons_succ, List.getElem_cons_zero, Act.put, List.setIfInBounds_toArray, List.set_cons_succ, List.set_cons_zero]
              (refine wpAnyS_load (i := 9) (c := 11) (T := fun w' => w'.cell? ⟨by_, oy + pre.length * 2, none⟩ = some (.int .u64 y.key) ∧ w'.cell? ⟨by_, oy + pre.length * 2 + 1, none⟩ = some (.int .u64 y.val)) (v := ?_) rfl (by kernel_rfl) (by kernel_rfl) (by kernel_rfl) (by kernel_rfl) (by kernel_rfl) (by kernel_rfl) (by kernel_rfl) (by simp) (fun _ _ _ h => h) hS (Or.inl ⟨by kernel_rfl, ?_⟩) (fun hS1 => ?_); rotate_left; (focus (intro w hT; obtain ⟨hT0, hT1⟩ := hT; go_simp; first | done | with_reducible rfl)); clear hS; have hS := hS1; clear hS1)
              try simp only [List.getElem_toArray, List.getElem_cons_succ, List.getElem_cons_zero, Act.put, List.setIfInBounds_toArray, List.set_cons_succ, List.set_cons_zero]
              (refine wpAnyS_take (i := 10) (v := ?_) rfl (by kernel_rfl) (by kernel_rfl) (by kernel_rfl) (by kernel_rfl) (by kernel_rfl) (by kernel_rfl) (fun _ _ _ h => h) hS (Or.inl ⟨by kernel_rfl, ?_⟩) (fun hS1 => ?_); rotate_left; (focus (intro w _; go_simp; first | done | with_reducible rfl)); clear hS; have hS := hS1; clear hS1)
              try simp only [List.getElem_toArray, List.getElem_cons_succ, List.getElem_cons_zero, Act.put, List.setIfInBounds_toArray, List.set_cons_succ, List.set_cons_zero]
              refine wpAnyS_ready (rs := [11]) (by kernel_rfl) (by simp) ?_
              refine AllReadyS.cons rfl (fun K hK => ?_) AllReadyS.nil
              go_simp
              skip
              refine hK.out _ _ ?_ (fun hS1 => ?_)
              · clear hK hS; (intro x hx hl; simp only [List.mem_cons, List.not_mem_nil, or_false] at hx; rcases hx with rfl | rfl | rfl | rfl; all_goals (first | exact Bool.noConfusion (show true = false from hl) | (show World.cell? _ _ = _; go_simp; done) | (refine ⟨?_, ?_, ?_, ?_, ?_⟩ <;> (show World.cell? _ _ = _; go_simp; done)) | (refine ⟨?_, ?_, ?_⟩ <;> (show World.cell? _ _ = _; go_simp; done))))
              clear hK K hS
              have hS := hS1
              clear hS1
              refine wpAnyS_done (by kernel_rfl) ?_ _
              clear hS
              gi_wp2
              have hxy2 : x ≠ y := fun e => by subst e; simp at hxy
              exact ⟨W.drew, ⟨_, rfl⟩, by have h9 := HY.out; rw [List.getElem?_eq_getElem hlt2, Option.some.injEq] at h9; rw [h9]; exact fun e => hxy2 e.symm, _, _, rfl⟩
          · rintro D W hD hKp hL hKd
            have hc13 := hL.cell 0
            have k12 := L12.out.kept (hKp.block _ L12.out.lt (by omega))
            have hc12 := k12.cell 0
            have k4 := L4.out.kept (hKp.block _ L4.out.lt (by omega))
            have hc4 := k4.cell 0
            have hz4 := k4.frozen 0
            have hh4 : W.holds w.heap.size := has_of_lt k4.lt
            simp only [List.getElem?_toArray, List.getElem?_cons_zero, List.getElem?_cons_succ] at hc13 hc12 hc4
            have hMW := HM0.out.kp_of hKp (fun g hg hS => by have := hfp g hg; omega)
            have hAW := HA0.out.kp2 hKp (fun hl g hg hS => by have := HA1.out.lt hl g hg; omega)
            have hBW := HB0.out.trans (hKp.below HB0.out.size (fun k hk => by omega))
            have hsW2 := hKp.size
            have HMW := Lib.hid hMW
            have HAW := Lib.hid hAW
            have HBWW := Lib.hid hBW
            have HKD := Lib.hid hKd
            have HK4' := Lib.hid k4
            have HP : ∀ (W : World) (v1 v2 : Value), Arr W 2 PairD.cells v1 m → Arr W 2 PairD.cells v2 m → Calls Try.prog 28 #[v1, v2] W fun e w' => e = .returned (.bool true) ∧ Below W.heap.size W w' := fun W v1 v2 h1 h2 => by
              have := ref21_pairs v1 v2 m m W h1 h2
              simpa using this
            clear hMW hAW hBW hKp hL hKd k12 k4
            go_wp2_with (fail)
            refine (pairs_any _ p kv vv m _ HMW.out (by omega)).mono ?_
            rintro e w' ⟨v9, rfl, hR9, hb9⟩
            rw [hpz] at hR9
            obtain ⟨E9, n9, rfl⟩ := below_ext hb9
            have HR9 := Lib.hid hR9
            clear hb9 hR9
            simp only []
            go_wp2_with (fail)
            refine (HP _ _ _ (Arr.ofRow HR9.out) (HAW.out.below (by ((repeat' (first | exact Below.refl _ _ | assumption | (refine Below_alloc ?_ ?_ _) | (refine Below_ext ?_ ?_ _ _) | (refine Below_setCell ?_ _ _ _ ?_) | apply Below.drew | refine Below_drewN ?_ _)) <;> first | done | (simp; done) | (simp; omega))))).mono ?_
            rintro e w' ⟨rfl, hb9⟩
            obtain ⟨E10, n10, rfl⟩ := below_ext hb9
            clear hb9
            simp only []
            go_wp2_with (fail)
            refine (HA _).mono ?_
            rintro e w' ⟨rfl, hb9⟩
            obtain ⟨E11, n11, rfl⟩ := below_ext hb9
            clear hb9
            simp only []
            go_wp2_with (fail)
            have q0 : W.heap[D]? = some (.deferred (some [])) := HKD.out
            have hDW : D < W.heap.size := block_lt q0
            have q1 : ((((W.setCell ⟨w.heap.size, 0, none⟩ (.bool true)).ext E9 n9).ext E10 n10).ext E11 n11).heap[D]? = some (.deferred (some [])) := by
              rw [ext_heap _ _ _ _ (by simp [World.setCell]; omega), ext_heap _ _ _ _ (by simp [World.setCell]; omega), ext_heap _ _ _ _ (by simp [World.setCell]; omega), set1_heap _ _ _ _ _ (by omega)]
              exact q0
            have hbV : Below w.heap.size w ((((W.setCell ⟨w.heap.size, 0, none⟩ (.bool true)).ext E9 n9).ext E10 n10).ext E11 n11) := by
              have r1 := HBWW.out
              have r2 := r1.size
              exact Below_ext (Below_ext (Below_ext (Below_setCell r1 _ _ _ (Nat.le_refl _)) (by simp [World.setCell]; omega) _ _) (by simp [World.setCell]; omega) _ _) (by simp [World.setCell]; omega) _ _
            have q4 : ((((W.setCell ⟨w.heap.size, 0, none⟩ (.bool true)).ext E9 n9).ext E10 n10).ext E11 n11).heap[w.heap.size]? = some (.cells #[.bool true] 4 (0, 0)) := by
              rw [ext_heap _ _ _ _ (by simp [World.setCell]; omega), ext_heap _ _ _ _ (by simp [World.setCell]; omega), ext_heap _ _ _ _ (by simp [World.setCell]; omega)]
              obtain ⟨hlt9, hk9⟩ := Array.getElem?_eq_some_iff.1 (show W.heap[w.heap.size]? = _ from HK4'.out)
              show (W.heap.modify w.heap.size _)[w.heap.size]? = _
              rw [Array.getElem?_eq_getElem (by rw [Array.size_modify]; exact hlt9), Array.getElem_modify_self, hk9]
              rfl
            generalize ((((W.setCell ⟨w.heap.size, 0, none⟩ (.bool true)).ext E9 n9).ext E10 n10).ext E11 n11) = V at *
            have hbF : Below w.heap.size w (V.putObj D (.deferred none)) := hbV.trans (belowK_b (w := w) (Nat.le_refl _) V D _ _ (by omega) q1 rfl rfl)
            (try simp only [noPan])
            refine ⟨by simp, .inl ⟨_, _, rfl, run_takeDeferred q1, ?_⟩⟩
            have q5 : (V.putObj D (.deferred none)).cell? ⟨w.heap.size, 0, none⟩ = some (.bool true) := by
              rw [World.cell?_of_block (w := V) (World.putObj_heap_other (show w.heap.size ≠ D by omega))]
              simp [World.cell?, q4]
            generalize V.putObj D (.deferred none) = X at *
            refine ⟨.bool true, ?_, rfl, hbF⟩
            rw [results_cell1 rfl]
            go_simp
  · have hd : decide ((100 : Int) < (l.length : Int)) = true := decide_eq_true (by omega)
    go_enter Try.func8, Try.ntmps8
    go_wp2_with (fail)
    refine (HA _).mono ?_
    rintro e w11 ⟨rfl, hb11⟩
    obtain ⟨E, nx, rfl⟩ := below_ext hb11
    clear hb11
    simp only []
    go_wp2_with (fail)
    (try simp only [Exit.inBlock, Exit.then])
    refine bodyPost_ret (v := .bool true) ?_ rfl ⟨rfl, (by ((repeat' (first | exact Below.refl _ _ | assumption | (refine Below_alloc ?_ ?_ _) | (refine Below_ext ?_ ?_ _ _) | (refine Below_setCell ?_ _ _ _ ?_) | apply Below.drew | refine Below_drewN ?_ _)) <;> first | done | (simp; done) | (simp; omega)))⟩
    rw [results_cell1 rfl]
    go_simp
end Go.Proofs.Ytofhaechpllaoaa
