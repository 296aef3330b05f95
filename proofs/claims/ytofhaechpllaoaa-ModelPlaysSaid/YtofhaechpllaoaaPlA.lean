/- ModelPlays: the walk. -/
import Derived.Test.YtofhaechpllaoaaPl1
namespace Go.Proofs.Ytofhaechpllaoaa
open Go Go.RowKit Go.Shelf

set_option maxRecDepth 100000 in
set_option maxHeartbeats 4000000 in
theorem plays_walk (v u : Value) (l : List PairD) (os : List OpD) (w : World) (h : Arr w 2 PairD.cells v l) (ho : Arr w 5 OpD.cells u os) (hl : InU l) (hou : ∀ o ∈ os, OpU o)
    (HA : ∀ W, Calls Try.prog 17 #[] W fun e w' => e = .returned (.bool true) ∧ Below W.heap.size W w') :
    Calls Try.prog 6 #[v, u] w fun e w' => e = .returned (.bool true) ∧ Below w.heap.size w w' := by
  have HN := fun W (hb : Arr W 2 PairD.cells v l) (hn : l.length ≤ 100) => new_any v l W hb (by omega)
  have HAr := Lib.hid h
  have HOs := Lib.hid ho
  obtain ⟨a, cap, rfl, hc1, hc2, -⟩ := h
  obtain ⟨ao, capo, rfl, hc3, hc4, -⟩ := ho
  by_cases hn : os.length ≤ 100 ∧ l.length ≤ 100
  · obtain ⟨hn1, hn2⟩ := hn
    have hd : decide ((100 : Int) < (l.length : Int)) = false := decide_eq_false (by omega)
    have hd2 : decide ((100 : Int) < (os.length : Int)) = false := decide_eq_false (by omega)
    go_enter Try.func6, Try.ntmps6
    go_wp2_with (first | (go_at_call 20; with_reducible refine (HN _ HAr.out hn2).mono ?_; rintro e w' ⟨p, kv, vv, rfl, hM, hbx⟩; obtain ⟨E, nx, rfl⟩ := below_ext hbx; clear hbx))
    go_loopg [6, 7] l.length (fun g pp kk wr => ∃ j : Nat, j ≤ l.length ∧ g = l.length - j ∧ kk = .int .i64 j ∧ (∃ aa cc, pp = .slice aa (putAll (l.take j)).length cc ∧ RowP (w.ext E nx).heap.size wr pp (putAll (l.take j))) ∧ Below (w.ext E nx).heap.size (w.ext E nx) wr)
    case atStart => exact ⟨0, by omega, by omega, rfl, ⟨none, 0, rfl, rowP_nil _ _⟩, (by ((repeat' (first | exact Below.refl _ _ | assumption | (refine Below_alloc ?_ ?_ _) | (refine Below_ext ?_ ?_ _ _) | (refine Below_setCell ?_ _ _ _ ?_) | apply Below.drew | refine Below_drewN ?_ _)) <;> first | done | (simp; done) | (simp; omega)))⟩
    case round =>
      obtain ⟨j, hj, rfl, rfl, ⟨aa, cc, rfl, hR⟩, hbw⟩ := hrel
      by_cases hlt : j < l.length
      · obtain ⟨x, hx⟩ : ∃ x, l[j]? = some x := ⟨_, List.getElem?_eq_getElem hlt⟩
        have hb2 : Below w.heap.size w wr := (show Below w.heap.size w (w.ext E nx) from (by ((repeat' (first | exact Below.refl _ _ | assumption | (refine Below_alloc ?_ ?_ _) | (refine Below_ext ?_ ?_ _ _) | (refine Below_setCell ?_ _ _ _ ?_) | apply Below.drew | refine Below_drewN ?_ _)) <;> first | done | (simp; done) | (simp; omega)))).trans (hbw.mono (by simp))
        obtain ⟨b, o, c', e, hh, e0, e1⟩ := HAr.out.pair hb2 hx
        cases e
        have HX := Lib.hid hx
        have HR := Lib.hid hR
        clear hx hR
        go_wp2_with (fail)
        have hS : HeldTill [(11, fun w' => w'.cell? ⟨b, o + j * 2, none⟩ = some (.int .u64 x.key)), (11, fun w' => w'.cell? ⟨b, o + j * 2 + 1, none⟩ = some (.int .u64 x.val))] (Array.replicate 13 false) wr.drew := by
          intro x hx _
          simp only [List.mem_cons, List.not_mem_nil, or_false] at hx
          rcases hx with rfl | rfl
          all_goals (show World.cell? _ _ = _; go_simp)
        have hpl : (putAll (l.take j)).length ≤ 1000 := by rw [(putAll_eq _).1]; have := newM_len (l.take j); have := List.length_take_le j l; omega
        refine wp_region_S [(11, fun w' => w'.cell? ⟨b, o + j * 2, none⟩ = some (.int .u64 x.key)), (11, fun w' => w'.cell? ⟨b, o + j * 2 + 1, none⟩ = some (.int .u64 x.val))] (by kernel_rfl) ?_
        (refine wpAnyS_take (i := 0) (v := ?_) rfl (by kernel_rfl) (by kernel_rfl) (by kernel_rfl) (by kernel_rfl) (by kernel_rfl) (by kernel_rfl) (fun _ _ _ h => h) hS (Or.inl ⟨by kernel_rfl, ?_⟩) (fun hS1 => ?_); rotate_left; (focus (intro w _; go_simp; first | done | with_reducible rfl)); clear hS; have hS := hS1; clear hS1)
        (refine wpAnyS_take (i := 1) (v := ?_) rfl (by kernel_rfl) (by kernel_rfl) (by kernel_rfl) (by kernel_rfl) (by kernel_rfl) (by kernel_rfl) (fun _ _ _ h => h) hS (Or.inl ⟨by kernel_rfl, ?_⟩) (fun hS1 => ?_); rotate_left; (focus (intro w _; go_simp; first | done | with_reducible rfl)); clear hS; have hS := hS1; clear hS1)
        (refine wpAnyS_take (i := 2) (v := ?_) rfl (by kernel_rfl) (by kernel_rfl) (by kernel_rfl) (by kernel_rfl) (by kernel_rfl) (by kernel_rfl) (fun _ _ _ h => h) hS (Or.inl ⟨by kernel_rfl, ?_⟩) (fun hS1 => ?_); rotate_left; (focus (intro w _; go_simp; first | done | with_reducible rfl)); clear hS; have hS := hS1; clear hS1)
        (refine wpAnyS_take (i := 3) (v := ?_) rfl (by kernel_rfl) (by kernel_rfl) (by kernel_rfl) (by kernel_rfl) (by kernel_rfl) (by kernel_rfl) (fun _ _ _ h => h) hS (Or.inl ⟨by kernel_rfl, ?_⟩) (fun hS1 => ?_); rotate_left; (focus (intro w _; go_simp; first | done | with_reducible rfl)); clear hS; have hS := hS1; clear hS1)
        (refine wpAnyS_take (i := 4) (v := ?_) rfl (by kernel_rfl) (by kernel_rfl) (by kernel_rfl) (by kernel_rfl) (by kernel_rfl) (by kernel_rfl) (fun _ _ _ h => h) hS (Or.inl ⟨by kernel_rfl, ?_⟩) (fun hS1 => ?_); rotate_left; (focus (intro w _; go_simp; first | done | with_reducible rfl)); clear hS; have hS := hS1; clear hS1)
        (refine wpAnyS_load (i := 5) (c := 11) (T := fun w' => w'.cell? ⟨b, o + j * 2, none⟩ = some (.int .u64 x.key)) (v := ?_) rfl (by kernel_rfl) (by kernel_rfl) (by kernel_rfl) (by kernel_rfl) (by kernel_rfl) (by kernel_rfl) (by kernel_rfl) (by simp) (fun _ _ _ h => h) hS (Or.inl ⟨by kernel_rfl, ?_⟩) (fun hS1 => ?_); rotate_left; (focus (intro w hT; go_simp; first | done | with_reducible rfl)); clear hS; have hS := hS1; clear hS1)
        (refine wpAnyS_take (i := 6) (v := ?_) rfl (by kernel_rfl) (by kernel_rfl) (by kernel_rfl) (by kernel_rfl) (by kernel_rfl) (by kernel_rfl) (fun _ _ _ h => h) hS (Or.inl ⟨by kernel_rfl, ?_⟩) (fun hS1 => ?_); rotate_left; (focus (intro w _; go_simp; first | done | with_reducible rfl)); clear hS; have hS := hS1; clear hS1)
        (refine wpAnyS_take (i := 7) (v := ?_) rfl (by kernel_rfl) (by kernel_rfl) (by kernel_rfl) (by kernel_rfl) (by kernel_rfl) (by kernel_rfl) (fun _ _ _ h => h) hS (Or.inl ⟨by kernel_rfl, ?_⟩) (fun hS1 => ?_); rotate_left; (focus (intro w _; go_simp; first | done | with_reducible rfl)); clear hS; have hS := hS1; clear hS1)
        (refine wpAnyS_take (i := 8) (v := ?_) rfl (by kernel_rfl) (by kernel_rfl) (by kernel_rfl) (by kernel_rfl) (by kernel_rfl) (by kernel_rfl) (fun _ _ _ h => h) hS (Or.inl ⟨by kernel_rfl, ?_⟩) (fun hS1 => ?_); rotate_left; (focus (intro w _; go_simp; first | done | with_reducible rfl)); clear hS; have hS := hS1; clear hS1)
        (refine wpAnyS_take (i := 9) (v := ?_) rfl (by kernel_rfl) (by kernel_rfl) (by kernel_rfl) (by kernel_rfl) (by kernel_rfl) (by kernel_rfl) (fun _ _ _ h => h) hS (Or.inl ⟨by kernel_rfl, ?_⟩) (fun hS1 => ?_); rotate_left; (focus (intro w _; go_simp; first | done | with_reducible rfl)); clear hS; have hS := hS1; clear hS1)
        (refine wpAnyS_load (i := 10) (c := 11) (T := fun w' => w'.cell? ⟨b, o + j * 2 + 1, none⟩ = some (.int .u64 x.val)) (v := ?_) rfl (by kernel_rfl) (by kernel_rfl) (by kernel_rfl) (by kernel_rfl) (by kernel_rfl) (by kernel_rfl) (by kernel_rfl) (by simp) (fun _ _ _ h => h) hS (Or.inl ⟨by kernel_rfl, ?_⟩) (fun hS1 => ?_); rotate_left; (focus (intro w hT; go_simp; first | done | with_reducible rfl)); clear hS; have hS := hS1; clear hS1)
        refine wpAnyS_ready (rs := [11]) (by kernel_rfl) (by simp) ?_
        refine AllReadyS.cons rfl (fun K hK => ?_) AllReadyS.nil
        go_simp
        ((with_reducible refine (ref_put _ (putAll (l.take j)) x.key x.val _ ((Arr.ofRow HR.out).below (by ((repeat' (first | exact Below.refl _ _ | assumption | (refine Below_alloc ?_ ?_ _) | (refine Below_ext ?_ ?_ _ _) | (refine Below_setCell ?_ _ _ _ ?_) | apply Below.drew | refine Below_drewN ?_ _)) <;> first | done | (simp; done) | (simp; omega)))) (by omega)).mono ?_))
        rintro e w2 ⟨a2, c2, rfl, hR2, hb3⟩
        have HR2 := Lib.hid hR2
        have HB3 := Lib.hid hb3
        clear hR2 hb3
        simp only []
        refine hK.out _ _ ?_ (fun hS1 => ?_)
        · clear hK hS; (intro x hx hl; simp only [List.mem_cons, List.not_mem_nil, or_false] at hx; rcases hx with rfl | rfl; all_goals (first | exact Bool.noConfusion (show true = false from hl) | (show World.cell? _ _ = _; go_simp; done) | (refine ⟨?_, ?_, ?_, ?_, ?_⟩ <;> (show World.cell? _ _ = _; go_simp; done)) | (refine ⟨?_, ?_, ?_⟩ <;> (show World.cell? _ _ = _; go_simp; done))))
        clear hK K hS
        have hS := hS1
        clear hS1
        (refine wpAnyS_take (i := 12) (v := ?_) rfl (by kernel_rfl) (by kernel_rfl) (by kernel_rfl) (by kernel_rfl) (by kernel_rfl) (by kernel_rfl) (fun _ _ _ h => h) hS (Or.inl ⟨by kernel_rfl, ?_⟩) (fun hS1 => ?_); rotate_left; (focus (intro w _; go_simp; first | done | with_reducible rfl)); clear hS; have hS := hS1; clear hS1)
        refine wpAnyS_done (by kernel_rfl) ?_ _
        clear hS
        go_wp2_with (fail)
        go_roundg (l.length - (j + 1))
        case rel =>
          have hp := putAll_succ HX.out
          refine ⟨j + 1, by omega, rfl, by go_num, ⟨a2, c2, by rw [hp], by rw [hp]; exact owns_base_le hbw.size HR2.out⟩, (Below.drew hbw).trans (HB3.out.mono hbw.size)⟩
        case measure => omega
      · obtain rfl : j = l.length := by omega
        have hpe : putAll (l.take l.length) = newM l := by rw [List.take_length]; exact (putAll_eq l).1
        rw [hpe] at hR
        rw [hpe]
        have hri := (putAll_eq l).2
        have hlu := (newM_rising l hl).2
        have hl0 := newM_len l
        have hMw : MapAt w.heap.size wr p kv vv (newM l) := hM.below hbw
        have hbw0 : Below w.heap.size w wr := (show Below w.heap.size w (w.ext E nx) from (by ((repeat' (first | exact Below.refl _ _ | assumption | (refine Below_alloc ?_ ?_ _) | (refine Below_ext ?_ ?_ _ _) | (refine Below_setCell ?_ _ _ _ ?_) | apply Below.drew | refine Below_drewN ?_ _)) <;> first | done | (simp; done) | (simp; omega)))).trans (hbw.mono (by simp))
        have hA1 := Arr.ofRow hR
        have hap : ∀ g, foot p kv vv g → (Value.slice aa (newM l).length cc).ownBlock ≠ some g := fun g hg e => by
          have h1 := (hM.foot_lt hg).1
          have h2 := (owns_lt hR e).2
          omega
        clear hM hbw hR
        have HMw := Lib.hid hMw
        have HA1 := Lib.hid hA1
        have HAP := Lib.hid hap
        have HBW := Lib.hid hbw0
        clear hMw hA1 hap hbw0
        generalize newM l = m0 at *
        go_wp2_with (fail)
        go_loopg [6, 8] os.length (fun g pp kk W => ∃ j : Nat, j ≤ os.length ∧ g = os.length - j ∧ kk = .int .i64 j ∧ ∃ kv vv, MapAt w.heap.size W p kv vv (mAt m0 (os.take j)) ∧ (∃ aa cc, pp = .slice aa (mAt m0 (os.take j)).length cc) ∧ Arr W 2 PairD.cells pp (mAt m0 (os.take j)) ∧ (mAt m0 (os.take j) ≠ [] → ∀ g, foot p kv vv g → pp.ownBlock ≠ some g) ∧ Below w.heap.size w W)
        case atStart => exact ⟨0, by omega, by omega, rfl, kv, vv, HMw.out, ⟨aa, cc, rfl⟩, HA1.out, fun _ => HAP.out, HBW.out⟩
        case round =>
          obtain ⟨j, hj, rfl, rfl, kv1, vv1, hM1, ⟨aa1, cc1, rfl⟩, hA1, hap1, hbw1⟩ := hrel
          have hri1 := mAt_rising (os.take j) hri
          have hml : (mAt m0 (os.take j)).length ≤ 1000 := by have := mAt_len (os.take j) m0; have := List.length_take_le j os; omega
          by_cases hlt : j < os.length
          · obtain ⟨x, hx⟩ : ∃ x, os[j]? = some x := ⟨_, List.getElem?_eq_getElem hlt⟩
            obtain ⟨b, o, c', e, hh, e0, e1, e2, e3, e4⟩ := HOs.out.op hbw1 hx
            cases e
            have hms := mAt_succ (m := m0) hx
            have HX := Lib.hid hx
            have HM1 := Lib.hid hM1
            have HA2 := Lib.hid hA1
            have HAP1 := Lib.hid hap1
            have HBW1 := Lib.hid hbw1
            clear hx hM1 hA1 hap1 hbw1
            have HR1 := fun W => ref21_right x W
            have HR2 := fun W => model_right x W
            generalize mAt m0 (os.take j) = m at *
            cases hxr : x.right with
            | true =>
              rw [hxr] at HR1 HR2
              have HRes := fun W sv (h : Arr W 2 PairD.cells sv m) => ref_resultB sv m x W h (by omega) hxr
              have HAft := fun W sv (h : Arr W 2 PairD.cells sv m) => ref_afterB sv m x W h (by omega)
              go_wp2_with (first | (go_at_call 22; with_reducible refine (HR1 _).mono ?_; rintro e w3 ⟨rfl, hbx⟩; obtain ⟨E3, n3, rfl⟩ := below_ext hbx; clear hbx) | (go_at_call 23; with_reducible refine (HRes _ _ (HA2.out.below (by ((repeat' (first | exact Below.refl _ _ | assumption | (refine Below_alloc ?_ ?_ _) | (refine Below_ext ?_ ?_ _ _) | (refine Below_setCell ?_ _ _ _ ?_) | apply Below.drew | refine Below_drewN ?_ _)) <;> first | done | (simp; done) | (simp; omega))))).mono ?_; rintro e w4 ⟨r, ar, cr, hres, rfl, hAr, hbr, hbx⟩; obtain ⟨E4, n4, rfl⟩ := below_ext hbx; obtain rfl := res_eq hri1 hxr hres; have HAr2 := Lib.hid hAr; have HBR := Lib.hid hbr; clear hbx hres hAr hbr))
              refine (HAft _ _ (HA2.out.below (by ((repeat' (first | exact Below.refl _ _ | assumption | (refine Below_alloc ?_ ?_ _) | (refine Below_ext ?_ ?_ _ _) | (refine Below_setCell ?_ _ _ _ ?_) | apply Below.drew | refine Below_drewN ?_ _)) <;> first | done | (simp; done) | (simp; omega))))).mono ?_
              rintro e w5 ⟨sv, rfl, hAs, hapS, hbx⟩
              obtain ⟨E5, n5, rfl⟩ := below_ext hbx
              rw [after_eq hri1 hxr] at hAs hapS
              have hAs0 := hAs
              have HAs := Lib.hid hAs
              have HAPS := Lib.hid hapS
              clear hbx hAs hapS
              simp only []
              obtain ⟨a5, c5, rfl, hc51, hc52, -⟩ := hAs0
              go_wp2_with (fail)
              have hHS : ∀ (W : World) (v1 v2 : Value), Arr W 2 PairD.cells v1 (resOf m x).2.2 → Arr W 2 PairD.cells v2 (resOf m x).2.2 → Calls Try.prog 19 #[.agg #[.int .i64 (resOf m x).1, .int .u64 (resOf m x).2.1, v1], .agg #[.int .i64 (resOf m x).1, .int .u64 (resOf m x).2.1, v2]] W fun e w' => e = .returned (.bool true) ∧ Below W.heap.size W w' := fun W v1 v2 h1 h2 => by
                have := ref21_same ⟨(resOf m x).1, (resOf m x).2.1, v1, (resOf m x).2.2⟩ ⟨(resOf m x).1, (resOf m x).2.1, v2, (resOf m x).2.2⟩ W h1 h2
                simpa [ResD.same] using this
              have hS : HeldTill [(17, fun w' => w'.cell? ⟨b, o + j * 5, none⟩ = some (.int .i64 x.kind) ∧ w'.cell? ⟨b, o + j * 5 + 1, none⟩ = some (.int .u64 x.key) ∧ w'.cell? ⟨b, o + j * 5 + 2, none⟩ = some (.int .u64 x.val) ∧ w'.cell? ⟨b, o + j * 5 + 3, none⟩ = some (.int .u64 x.high) ∧ w'.cell? ⟨b, o + j * 5 + 4, none⟩ = some (.int .i64 x.most)), (19, fun w' => w'.cell? ⟨wr.heap.size, 0, none⟩ = some (.int .i64 (resOf m x).1) ∧ w'.cell? ⟨wr.heap.size, 1, none⟩ = some (.int .u64 (resOf m x).2.1) ∧ w'.cell? ⟨wr.heap.size, 2, none⟩ = some (.slice ar (resOf m x).2.2.length cr))] (Array.replicate 29 false) (World.drew ((((wr.alloc (.cells #[.int .i64 (resOf m x).1, .int .u64 (resOf m x).2.1, .slice ar (resOf m x).2.2.length cr] 27)).ext E3 n3).ext E4 n4).ext E5 n5)) := by
                intro x hx _
                simp only [List.mem_cons, List.not_mem_nil, or_false] at hx
                rcases hx with rfl | rfl
                · refine ⟨?_, ?_, ?_, ?_, ?_⟩ <;> (show World.cell? _ _ = _; go_simp)
                · refine ⟨?_, ?_, ?_⟩ <;> (show World.cell? _ _ = _; go_simp)
              refine wp_region_S [(17, fun w' => w'.cell? ⟨b, o + j * 5, none⟩ = some (.int .i64 x.kind) ∧ w'.cell? ⟨b, o + j * 5 + 1, none⟩ = some (.int .u64 x.key) ∧ w'.cell? ⟨b, o + j * 5 + 2, none⟩ = some (.int .u64 x.val) ∧ w'.cell? ⟨b, o + j * 5 + 3, none⟩ = some (.int .u64 x.high) ∧ w'.cell? ⟨b, o + j * 5 + 4, none⟩ = some (.int .i64 x.most)), (19, fun w' => w'.cell? ⟨wr.heap.size, 0, none⟩ = some (.int .i64 (resOf m x).1) ∧ w'.cell? ⟨wr.heap.size, 1, none⟩ = some (.int .u64 (resOf m x).2.1) ∧ w'.cell? ⟨wr.heap.size, 2, none⟩ = some (.slice ar (resOf m x).2.2.length cr))] (by kernel_rfl) ?_
              (refine wpAnyS_take (i := 0) (v := ?_) rfl (by kernel_rfl) (by kernel_rfl) (by kernel_rfl) (by kernel_rfl) (by kernel_rfl) (by kernel_rfl) (fun _ _ _ h => h) hS (Or.inl ⟨by kernel_rfl, ?_⟩) (fun hS1 => ?_); rotate_left; (focus (intro w _; go_simp; first | done | with_reducible rfl)); clear hS; have hS := hS1; clear hS1)
              (refine wpAnyS_take (i := 1) (v := ?_) rfl (by kernel_rfl) (by kernel_rfl) (by kernel_rfl) (by kernel_rfl) (by kernel_rfl) (by kernel_rfl) (fun _ _ _ h => h) hS (Or.inl ⟨by kernel_rfl, ?_⟩) (fun hS1 => ?_); rotate_left; (focus (intro w _; go_simp; first | done | with_reducible rfl)); clear hS; have hS := hS1; clear hS1)
              (refine wpAnyS_take (i := 2) (v := ?_) rfl (by kernel_rfl) (by kernel_rfl) (by kernel_rfl) (by kernel_rfl) (by kernel_rfl) (by kernel_rfl) (fun _ _ _ h => h) hS (Or.inl ⟨by kernel_rfl, ?_⟩) (fun hS1 => ?_); rotate_left; (focus (intro w _; go_simp; first | done | with_reducible rfl)); clear hS; have hS := hS1; clear hS1)
              (refine wpAnyS_load (i := 3) (c := 17) (T := fun w' => w'.cell? ⟨b, o + j * 5, none⟩ = some (.int .i64 x.kind) ∧ w'.cell? ⟨b, o + j * 5 + 1, none⟩ = some (.int .u64 x.key) ∧ w'.cell? ⟨b, o + j * 5 + 2, none⟩ = some (.int .u64 x.val) ∧ w'.cell? ⟨b, o + j * 5 + 3, none⟩ = some (.int .u64 x.high) ∧ w'.cell? ⟨b, o + j * 5 + 4, none⟩ = some (.int .i64 x.most)) (v := ?_) rfl (by kernel_rfl) (by kernel_rfl) (by kernel_rfl) (by kernel_rfl) (by kernel_rfl) (by kernel_rfl) (by kernel_rfl) (by simp) (fun _ _ _ h => h) hS (Or.inl ⟨by kernel_rfl, ?_⟩) (fun hS1 => ?_); rotate_left; (focus (intro w hT; obtain ⟨hT0, hT1, hT2, hT3, hT4⟩ := hT; go_simp; first | done | with_reducible rfl)); clear hS; have hS := hS1; clear hS1)
              (refine wpAnyS_take (i := 5) (v := ?_) rfl (by kernel_rfl) (by kernel_rfl) (by kernel_rfl) (by kernel_rfl) (by kernel_rfl) (by kernel_rfl) (fun _ _ _ h => h) hS (Or.inl ⟨by kernel_rfl, ?_⟩) (fun hS1 => ?_); rotate_left; (focus (intro w _; go_simp; first | done | with_reducible rfl)); clear hS; have hS := hS1; clear hS1)
              (refine wpAnyS_take (i := 6) (v := ?_) rfl (by kernel_rfl) (by kernel_rfl) (by kernel_rfl) (by kernel_rfl) (by kernel_rfl) (by kernel_rfl) (fun _ _ _ h => h) hS (Or.inl ⟨by kernel_rfl, ?_⟩) (fun hS1 => ?_); rotate_left; (focus (intro w _; go_simp; first | done | with_reducible rfl)); clear hS; have hS := hS1; clear hS1)
              (refine wpAnyS_take (i := 7) (v := ?_) rfl (by kernel_rfl) (by kernel_rfl) (by kernel_rfl) (by kernel_rfl) (by kernel_rfl) (by kernel_rfl) (fun _ _ _ h => h) hS (Or.inl ⟨by kernel_rfl, ?_⟩) (fun hS1 => ?_); rotate_left; (focus (intro w _; go_simp; first | done | with_reducible rfl)); clear hS; have hS := hS1; clear hS1)
              (refine wpAnyS_load (i := 8) (c := 17) (T := fun w' => w'.cell? ⟨b, o + j * 5, none⟩ = some (.int .i64 x.kind) ∧ w'.cell? ⟨b, o + j * 5 + 1, none⟩ = some (.int .u64 x.key) ∧ w'.cell? ⟨b, o + j * 5 + 2, none⟩ = some (.int .u64 x.val) ∧ w'.cell? ⟨b, o + j * 5 + 3, none⟩ = some (.int .u64 x.high) ∧ w'.cell? ⟨b, o + j * 5 + 4, none⟩ = some (.int .i64 x.most)) (v := ?_) rfl (by kernel_rfl) (by kernel_rfl) (by kernel_rfl) (by kernel_rfl) (by kernel_rfl) (by kernel_rfl) (by kernel_rfl) (by simp) (fun _ _ _ h => h) hS (Or.inl ⟨by kernel_rfl, ?_⟩) (fun hS1 => ?_); rotate_left; (focus (intro w hT; obtain ⟨hT0, hT1, hT2, hT3, hT4⟩ := hT; go_simp; first | done | with_reducible rfl)); clear hS; have hS := hS1; clear hS1)
              refine wpAnyS_ready (rs := [4]) (by kernel_rfl) (by simp) ?_
              refine AllReadyS.cons rfl (fun K hK => ?_) AllReadyS.nil
              go_simp
              ((with_reducible refine (HR2 _).mono ?_))
              rintro e w6 ⟨rfl, hb6⟩
              obtain ⟨E6, n6, rfl⟩ := below_ext hb6
              clear hb6
              simp only []
              refine hK.out _ _ ?_ (fun hS1 => ?_)
              · clear hK hS; (intro x hx hl; simp only [List.mem_cons, List.not_mem_nil, or_false] at hx; rcases hx with rfl | rfl; all_goals (first | exact Bool.noConfusion (show true = false from hl) | (show World.cell? _ _ = _; go_simp; done) | (refine ⟨?_, ?_, ?_, ?_, ?_⟩ <;> (show World.cell? _ _ = _; go_simp; done)) | (refine ⟨?_, ?_, ?_⟩ <;> (show World.cell? _ _ = _; go_simp; done))))
              clear hK K hS
              have hS := hS1
              clear hS1
              refine wpAnyS_ready (rs := [9]) (by kernel_rfl) (by simp) ?_
              refine AllReadyS.cons rfl (fun K hK => ?_) AllReadyS.nil
              go_simp
              ((with_reducible refine (HR1 _).mono ?_))
              rintro e w7 ⟨rfl, hb7⟩
              obtain ⟨E7, n7, rfl⟩ := below_ext hb7
              clear hb7
              simp only []
              refine hK.out _ _ ?_ (fun hS1 => ?_)
              · clear hK hS; (intro x hx hl; simp only [List.mem_cons, List.not_mem_nil, or_false] at hx; rcases hx with rfl | rfl; all_goals (first | exact Bool.noConfusion (show true = false from hl) | (show World.cell? _ _ = _; go_simp; done) | (refine ⟨?_, ?_, ?_, ?_, ?_⟩ <;> (show World.cell? _ _ = _; go_simp; done)) | (refine ⟨?_, ?_, ?_⟩ <;> (show World.cell? _ _ = _; go_simp; done))))
              clear hK K hS
              have hS := hS1
              clear hS1
              (refine wpAnyS_take (i := 10) (v := ?_) rfl (by kernel_rfl) (by kernel_rfl) (by kernel_rfl) (by kernel_rfl) (by kernel_rfl) (by kernel_rfl) (fun _ _ _ h => h) hS (Or.inl ⟨by kernel_rfl, ?_⟩) (fun hS1 => ?_); rotate_left; (focus (intro w _; go_simp; first | done | with_reducible rfl)); clear hS; have hS := hS1; clear hS1)
              (refine wpAnyS_take (i := 11) (v := ?_) rfl (by kernel_rfl) (by kernel_rfl) (by kernel_rfl) (by kernel_rfl) (by kernel_rfl) (by kernel_rfl) (fun _ _ _ h => h) hS (Or.inl ⟨by kernel_rfl, ?_⟩) (fun hS1 => ?_); rotate_left; (focus (intro w _; go_simp; first | done | with_reducible rfl)); clear hS; have hS := hS1; clear hS1)
              (refine wpAnyS_take (i := 12) (v := ?_) rfl (by kernel_rfl) (by kernel_rfl) (by kernel_rfl) (by kernel_rfl) (by kernel_rfl) (by kernel_rfl) (fun _ _ _ h => h) hS (Or.inl ⟨by kernel_rfl, ?_⟩) (fun hS1 => ?_); rotate_left; (focus (intro w _; go_simp; first | done | with_reducible rfl)); clear hS; have hS := hS1; clear hS1)
              (refine wpAnyS_take (i := 13) (v := ?_) rfl (by kernel_rfl) (by kernel_rfl) (by kernel_rfl) (by kernel_rfl) (by kernel_rfl) (by kernel_rfl) (fun _ _ _ h => h) hS (Or.inl ⟨by kernel_rfl, ?_⟩) (fun hS1 => ?_); rotate_left; (focus (intro w _; go_simp; first | done | with_reducible rfl)); clear hS; have hS := hS1; clear hS1)
              (refine wpAnyS_take (i := 14) (v := ?_) rfl (by kernel_rfl) (by kernel_rfl) (by kernel_rfl) (by kernel_rfl) (by kernel_rfl) (by kernel_rfl) (fun _ _ _ h => h) hS (Or.inl ⟨by kernel_rfl, ?_⟩) (fun hS1 => ?_); rotate_left; (focus (intro w _; go_simp; first | done | with_reducible rfl)); clear hS; have hS := hS1; clear hS1)
              (refine wpAnyS_take (i := 15) (v := ?_) rfl (by kernel_rfl) (by kernel_rfl) (by kernel_rfl) (by kernel_rfl) (by kernel_rfl) (by kernel_rfl) (fun _ _ _ h => h) hS (Or.inl ⟨by kernel_rfl, ?_⟩) (fun hS1 => ?_); rotate_left; (focus (intro w _; go_simp; first | done | with_reducible rfl)); clear hS; have hS := hS1; clear hS1)
              (refine wpAnyS_load (i := 16) (c := 17) (T := fun w' => w'.cell? ⟨b, o + j * 5, none⟩ = some (.int .i64 x.kind) ∧ w'.cell? ⟨b, o + j * 5 + 1, none⟩ = some (.int .u64 x.key) ∧ w'.cell? ⟨b, o + j * 5 + 2, none⟩ = some (.int .u64 x.val) ∧ w'.cell? ⟨b, o + j * 5 + 3, none⟩ = some (.int .u64 x.high) ∧ w'.cell? ⟨b, o + j * 5 + 4, none⟩ = some (.int .i64 x.most)) (v := ?_) rfl (by kernel_rfl) (by kernel_rfl) (by kernel_rfl) (by kernel_rfl) (by kernel_rfl) (by kernel_rfl) (by kernel_rfl) (by simp) (fun _ _ _ h => h) hS (Or.inl ⟨by kernel_rfl, ?_⟩) (fun hS1 => ?_); rotate_left; (focus (intro w hT; obtain ⟨hT0, hT1, hT2, hT3, hT4⟩ := hT; go_simp; first | done | with_reducible rfl)); clear hS; have hS := hS1; clear hS1)
              (refine wpAnyS_load (i := 18) (c := 19) (T := fun w' => w'.cell? ⟨wr.heap.size, 0, none⟩ = some (.int .i64 (resOf m x).1) ∧ w'.cell? ⟨wr.heap.size, 1, none⟩ = some (.int .u64 (resOf m x).2.1) ∧ w'.cell? ⟨wr.heap.size, 2, none⟩ = some (.slice ar (resOf m x).2.2.length cr)) (v := ?_) rfl (by kernel_rfl) (by kernel_rfl) (by kernel_rfl) (by kernel_rfl) (by kernel_rfl) (by kernel_rfl) (by kernel_rfl) (by simp) (fun _ _ _ h => h) hS (Or.inl ⟨by kernel_rfl, ?_⟩) (fun hS1 => ?_); rotate_left; (focus (intro w hT; obtain ⟨hT0, hT1, hT2⟩ := hT; go_simp; first | done | with_reducible rfl)); clear hS; have hS := hS1; clear hS1)
              refine wpAnyS_ready (rs := [17]) (by kernel_rfl) (by simp) ?_
              refine AllReadyS.cons rfl (fun K hK => ?_) AllReadyS.nil
              go_simp
              ((with_reducible refine (do_any w.heap.size p kv1 vv1 m x _ (HM1.out.below (by ((repeat' (first | exact Below.refl _ _ | assumption | (refine Below_alloc ?_ ?_ _) | (refine Below_ext ?_ ?_ _ _) | (refine Below_setCell ?_ _ _ _ ?_) | apply Below.drew | refine Below_drewN ?_ _)) <;> first | done | (simp; done) | (simp; omega)))) (by omega)).mono ?_))
              intro e w8 hD
              obtain ⟨kv8, vv8, a8, c8, rfl, hM8, hR8, hk8, hf8⟩ := done_outE rfl rfl hD
              clear hD
              obtain ⟨hq8, _, hh8⟩ := hk8.cells (b := wr.heap.size) (by go_simp) (fun hs => by have := (HM1.out.foot_lt hs).1; omega)
              have f0 : w8.cell? ⟨wr.heap.size, 0, none⟩ = some (.int .i64 (resOf m x).1) := by rw [hq8]; go_simp
              have f1 : w8.cell? ⟨wr.heap.size, 1, none⟩ = some (.int .u64 (resOf m x).2.1) := by rw [hq8]; go_simp
              have f2 : w8.cell? ⟨wr.heap.size, 2, none⟩ = some (.slice ar (resOf m x).2.2.length cr) := by rw [hq8]; go_simp
              have HM8 := Lib.hid hM8
              have HR8 := Lib.hid hR8
              have HK8 := Lib.hid hk8
              have HF8 := Lib.hid hf8
              clear hM8 hR8 hk8 hf8 hq8
              simp only []
              refine hK.out _ _ ?_ (fun hS1 => ?_)
              · clear hK hS; (intro x hx hl; simp only [List.mem_cons, List.not_mem_nil, or_false] at hx; rcases hx with rfl | rfl; all_goals (first | exact Bool.noConfusion (show true = false from hl) | (show World.cell? _ _ = _; go_simp; done) | (refine ⟨?_, ?_, ?_, ?_, ?_⟩ <;> (show World.cell? _ _ = _; go_simp; done)) | (refine ⟨?_, ?_, ?_⟩ <;> (show World.cell? _ _ = _; go_simp; done))))
              clear hK K hS
              have hS := hS1
              clear hS1
              refine wpAnyS_ready (rs := [19]) (by kernel_rfl) (by simp) ?_
              refine AllReadyS.cons rfl (fun K hK => ?_) AllReadyS.nil
              go_simp
              ((with_reducible refine (hHS _ _ _ (by exact Arr.ofRow HR8.out) (by have r0 := arr_swap2 (B := .cells #[.int .i64 (resOf m x).1, .int .u64 (resOf m x).2.1, .slice ar (resOf m x).2.2.length cr] 27) HAr2.out HBR.out; exact Arr.kp (by (repeat' (first | assumption | refine Arr.ext ?_ _ _ | refine Arr.alloc ?_ _ | refine Arr.drew ?_ | refine Arr.drewN ?_ _))) HK8.out (fun g hg hf => by have q1 := HBR.out g hg; have q2 := (HM1.out.foot_lt hf).1; simp at q1; omega))).mono ?_))
              rintro e w9 ⟨rfl, hb9⟩
              obtain ⟨E9, n9, rfl⟩ := below_ext hb9
              clear hb9
              simp only []
              refine hK.out _ _ ?_ (fun hS1 => ?_)
              · clear hK hS; (intro x hx hl; simp only [List.mem_cons, List.not_mem_nil, or_false] at hx; rcases hx with rfl | rfl; all_goals (first | exact Bool.noConfusion (show true = false from hl) | (show World.cell? _ _ = _; go_simp; done) | (refine ⟨?_, ?_, ?_, ?_, ?_⟩ <;> (show World.cell? _ _ = _; go_simp; done)) | (refine ⟨?_, ?_, ?_⟩ <;> (show World.cell? _ _ = _; go_simp; done))))
              clear hK K hS
              have hS := hS1
              clear hS1
              (refine wpAnyS_take (i := 20) (v := ?_) rfl (by kernel_rfl) (by kernel_rfl) (by kernel_rfl) (by kernel_rfl) (by kernel_rfl) (by kernel_rfl) (fun _ _ _ h => h) hS (Or.inl ⟨by kernel_rfl, ?_⟩) (fun hS1 => ?_); rotate_left; (focus (intro w _; go_simp; first | done | with_reducible rfl)); clear hS; have hS := hS1; clear hS1)
              (refine wpAnyS_take (i := 21) (v := ?_) rfl (by kernel_rfl) (by kernel_rfl) (by kernel_rfl) (by kernel_rfl) (by kernel_rfl) (by kernel_rfl) (fun _ _ _ h => h) hS (Or.inl ⟨by kernel_rfl, ?_⟩) (fun hS1 => ?_); rotate_left; (focus (intro w _; go_simp; first | done | with_reducible rfl)); clear hS; have hS := hS1; clear hS1)
              (refine wpAnyS_take (i := 22) (v := ?_) rfl (by kernel_rfl) (by kernel_rfl) (by kernel_rfl) (by kernel_rfl) (by kernel_rfl) (by kernel_rfl) (fun _ _ _ h => h) hS (Or.inl ⟨by kernel_rfl, ?_⟩) (fun hS1 => ?_); rotate_left; (focus (intro w _; go_simp; first | done | with_reducible rfl)); clear hS; have hS := hS1; clear hS1)
              (refine wpAnyS_take (i := 23) (v := ?_) rfl (by kernel_rfl) (by kernel_rfl) (by kernel_rfl) (by kernel_rfl) (by kernel_rfl) (by kernel_rfl) (fun _ _ _ h => h) hS (Or.inl ⟨by kernel_rfl, ?_⟩) (fun hS1 => ?_); rotate_left; (focus (intro w _; go_simp; first | done | with_reducible rfl)); clear hS; have hS := hS1; clear hS1)
              (refine wpAnyS_take (i := 25) (v := ?_) rfl (by kernel_rfl) (by kernel_rfl) (by kernel_rfl) (by kernel_rfl) (by kernel_rfl) (by kernel_rfl) (fun _ _ _ h => h) hS (Or.inl ⟨by kernel_rfl, ?_⟩) (fun hS1 => ?_); rotate_left; (focus (intro w _; go_simp; first | done | with_reducible rfl)); clear hS; have hS := hS1; clear hS1)
              (refine wpAnyS_take (i := 26) (v := ?_) rfl (by kernel_rfl) (by kernel_rfl) (by kernel_rfl) (by kernel_rfl) (by kernel_rfl) (by kernel_rfl) (fun _ _ _ h => h) hS (Or.inl ⟨by kernel_rfl, ?_⟩) (fun hS1 => ?_); rotate_left; (focus (intro w _; go_simp; first | done | with_reducible rfl)); clear hS; have hS := hS1; clear hS1)
              refine wpAnyS_ready (rs := [24]) (by kernel_rfl) (by simp) ?_
              refine AllReadyS.cons rfl (fun K hK => ?_) AllReadyS.nil
              go_simp
              ((with_reducible refine (len_any w.heap.size p kv8 vv8 (afterM m x) _ (HM8.out.below (by ((repeat' (first | exact Below.refl _ _ | assumption | (refine Below_alloc ?_ ?_ _) | (refine Below_ext ?_ ?_ _ _) | (refine Below_setCell ?_ _ _ _ ?_) | apply Below.drew | refine Below_drewN ?_ _)) <;> first | done | (simp; done) | (simp; omega))))).mono ?_))
              rintro e w10 ⟨rfl, hb10⟩
              obtain ⟨E10, n10, rfl⟩ := below_ext hb10
              clear hb10
              simp only []
              refine hK.out _ _ ?_ (fun hS1 => ?_)
              · clear hK hS; (intro x hx hl; simp only [List.mem_cons, List.not_mem_nil, or_false] at hx; rcases hx with rfl | rfl; all_goals (first | exact Bool.noConfusion (show true = false from hl) | (show World.cell? _ _ = _; go_simp; done) | (refine ⟨?_, ?_, ?_, ?_, ?_⟩ <;> (show World.cell? _ _ = _; go_simp; done)) | (refine ⟨?_, ?_, ?_⟩ <;> (show World.cell? _ _ = _; go_simp; done))))
              clear hK K hS
              have hS := hS1
              clear hS1
              (refine wpAnyS_take (i := 27) (v := ?_) rfl (by kernel_rfl) (by kernel_rfl) (by kernel_rfl) (by kernel_rfl) (by kernel_rfl) (by kernel_rfl) (fun _ _ _ h => h) hS (Or.inl ⟨by kernel_rfl, ?_⟩) (fun hS1 => ?_); rotate_left; (focus (intro w _; go_simp; first | done | with_reducible rfl)); clear hS; have hS := hS1; clear hS1)
              (refine wpAnyS_take (i := 28) (v := ?_) rfl (by kernel_rfl) (by kernel_rfl) (by kernel_rfl) (by kernel_rfl) (by kernel_rfl) (by kernel_rfl) (fun _ _ _ h => h) hS (Or.inl ⟨by kernel_rfl, ?_⟩) (fun hS1 => ?_); rotate_left; (focus (intro w _; go_simp; first | done | with_reducible rfl)); clear hS; have hS := hS1; clear hS1)
              refine wpAnyS_done (by kernel_rfl) ?_ _
              clear hS
              go_wp2_with (fail)
              go_roundg (os.length - (j + 1))
              case rel =>
                have q1 := HM8.out
                have q2 : Below w.heap.size w wr := HBW1.out
                have q3 := q2.size
                have q4 := HK8.out
                have q7 := apart_new (F := foot p kv1 vv1) HAP1.out (fun g hg => by have := (HM1.out.foot_lt hg).1; simp; omega) HAPS.out
                have q5 : Below w.heap.size w w8 := Below.trans (by ((repeat' (first | exact Below.refl _ _ | assumption | (refine Below_alloc ?_ ?_ _) | (refine Below_ext ?_ ?_ _ _) | (refine Below_setCell ?_ _ _ _ ?_) | apply Below.drew | refine Below_drewN ?_ _)) <;> first | done | (simp; done) | (simp; omega))) (q4.below (by simp; omega) fun k hk => (HM1.out.foot_lt hk).2)
                have q6 := q5.size
                refine ⟨j + 1, by omega, rfl, by go_num, kv8, vv8, by rw [hms]; exact HM8.out.below (by ((repeat' (first | exact Below.refl _ _ | assumption | (refine Below_alloc ?_ ?_ _) | (refine Below_ext ?_ ?_ _ _) | (refine Below_setCell ?_ _ _ _ ?_) | apply Below.drew | refine Below_drewN ?_ _)) <;> first | done | (simp; done) | (simp; omega))), ⟨a5, c5, by rw [hms]⟩, ?_, ?_, (by ((repeat' (first | exact Below.refl _ _ | assumption | (refine Below_alloc ?_ ?_ _) | (refine Below_ext ?_ ?_ _ _) | (refine Below_setCell ?_ _ _ _ ?_) | apply Below.drew | refine Below_drewN ?_ _)) <;> first | done | (simp; done) | (simp; omega)))⟩
                · rw [hms]
                  have r0 := HAs.out.drew
                  simp only [ext_drew] at r0
                  exact ((Arr.kp2 (by (repeat' (first | assumption | refine Arr.ext ?_ _ _ | refine Arr.alloc ?_ _ | refine Arr.drew ?_ | refine Arr.drewN ?_ _))) HK8.out (fun hl g hg hf => q7 hl g hf hg)).ext _ _).ext _ _
                · rw [hms]
                  have r0 := HAs.out.drew
                  simp only [ext_drew] at r0
                  exact apart_after (by (repeat' (first | assumption | refine Arr.ext ?_ _ _ | refine Arr.alloc ?_ _ | refine Arr.drew ?_ | refine Arr.drewN ?_ _))) q7 HF8.out (Nat.le_refl _)
              case measure => omega
            | false =>
              rw [hxr] at HR1 HR2
              have e1' : afterM m x = m := by simp [afterM, hxr]
              have e2' : resOf m x = (0, 0, []) := by simp [resOf, hxr]
              go_wp2_with (first | (go_at_call 22; with_reducible refine (HR1 _).mono ?_; rintro e w3 ⟨rfl, hbx⟩; obtain ⟨E3, n3, rfl⟩ := below_ext hbx; clear hbx))
              have hHS : ∀ (W : World) (v1 v2 : Value), Arr W 2 PairD.cells v1 ([] : List PairD) → Arr W 2 PairD.cells v2 ([] : List PairD) → Calls Try.prog 19 #[.agg #[.int .i64 0, .int .u64 0, v1], .agg #[.int .i64 0, .int .u64 0, v2]] W fun e w' => e = .returned (.bool true) ∧ Below W.heap.size W w' := fun W v1 v2 h1 h2 => by
                have := ref21_same ⟨0, 0, v1, ([] : List PairD)⟩ ⟨0, 0, v2, ([] : List PairD)⟩ W h1 h2
                simpa [ResD.same] using this
              have hS : HeldTill [(17, fun w' => w'.cell? ⟨b, o + j * 5, none⟩ = some (.int .i64 x.kind) ∧ w'.cell? ⟨b, o + j * 5 + 1, none⟩ = some (.int .u64 x.key) ∧ w'.cell? ⟨b, o + j * 5 + 2, none⟩ = some (.int .u64 x.val) ∧ w'.cell? ⟨b, o + j * 5 + 3, none⟩ = some (.int .u64 x.high) ∧ w'.cell? ⟨b, o + j * 5 + 4, none⟩ = some (.int .i64 x.most)), (19, fun w' => w'.cell? ⟨wr.heap.size, 0, none⟩ = some (.int .i64 0) ∧ w'.cell? ⟨wr.heap.size, 1, none⟩ = some (.int .u64 0) ∧ w'.cell? ⟨wr.heap.size, 2, none⟩ = some (.slice none 0 0))] (Array.replicate 29 false) (World.drew ((wr.alloc (.cells #[.int .i64 0, .int .u64 0, .slice none 0 0] 27)).ext E3 n3)) := by
                intro x hx _
                simp only [List.mem_cons, List.not_mem_nil, or_false] at hx
                rcases hx with rfl | rfl
                · refine ⟨?_, ?_, ?_, ?_, ?_⟩ <;> (show World.cell? _ _ = _; go_simp)
                · refine ⟨?_, ?_, ?_⟩ <;> (show World.cell? _ _ = _; go_simp)
              refine wp_region_S [(17, fun w' => w'.cell? ⟨b, o + j * 5, none⟩ = some (.int .i64 x.kind) ∧ w'.cell? ⟨b, o + j * 5 + 1, none⟩ = some (.int .u64 x.key) ∧ w'.cell? ⟨b, o + j * 5 + 2, none⟩ = some (.int .u64 x.val) ∧ w'.cell? ⟨b, o + j * 5 + 3, none⟩ = some (.int .u64 x.high) ∧ w'.cell? ⟨b, o + j * 5 + 4, none⟩ = some (.int .i64 x.most)), (19, fun w' => w'.cell? ⟨wr.heap.size, 0, none⟩ = some (.int .i64 0) ∧ w'.cell? ⟨wr.heap.size, 1, none⟩ = some (.int .u64 0) ∧ w'.cell? ⟨wr.heap.size, 2, none⟩ = some (.slice none 0 0))] (by kernel_rfl) ?_
              (refine wpAnyS_take (i := 0) (v := ?_) rfl (by kernel_rfl) (by kernel_rfl) (by kernel_rfl) (by kernel_rfl) (by kernel_rfl) (by kernel_rfl) (fun _ _ _ h => h) hS (Or.inl ⟨by kernel_rfl, ?_⟩) (fun hS1 => ?_); rotate_left; (focus (intro w _; go_simp; first | done | with_reducible rfl)); clear hS; have hS := hS1; clear hS1)
              (refine wpAnyS_take (i := 1) (v := ?_) rfl (by kernel_rfl) (by kernel_rfl) (by kernel_rfl) (by kernel_rfl) (by kernel_rfl) (by kernel_rfl) (fun _ _ _ h => h) hS (Or.inl ⟨by kernel_rfl, ?_⟩) (fun hS1 => ?_); rotate_left; (focus (intro w _; go_simp; first | done | with_reducible rfl)); clear hS; have hS := hS1; clear hS1)
              (refine wpAnyS_take (i := 2) (v := ?_) rfl (by kernel_rfl) (by kernel_rfl) (by kernel_rfl) (by kernel_rfl) (by kernel_rfl) (by kernel_rfl) (fun _ _ _ h => h) hS (Or.inl ⟨by kernel_rfl, ?_⟩) (fun hS1 => ?_); rotate_left; (focus (intro w _; go_simp; first | done | with_reducible rfl)); clear hS; have hS := hS1; clear hS1)
              (refine wpAnyS_load (i := 3) (c := 17) (T := fun w' => w'.cell? ⟨b, o + j * 5, none⟩ = some (.int .i64 x.kind) ∧ w'.cell? ⟨b, o + j * 5 + 1, none⟩ = some (.int .u64 x.key) ∧ w'.cell? ⟨b, o + j * 5 + 2, none⟩ = some (.int .u64 x.val) ∧ w'.cell? ⟨b, o + j * 5 + 3, none⟩ = some (.int .u64 x.high) ∧ w'.cell? ⟨b, o + j * 5 + 4, none⟩ = some (.int .i64 x.most)) (v := ?_) rfl (by kernel_rfl) (by kernel_rfl) (by kernel_rfl) (by kernel_rfl) (by kernel_rfl) (by kernel_rfl) (by kernel_rfl) (by simp) (fun _ _ _ h => h) hS (Or.inl ⟨by kernel_rfl, ?_⟩) (fun hS1 => ?_); rotate_left; (focus (intro w hT; obtain ⟨hT0, hT1, hT2, hT3, hT4⟩ := hT; go_simp; first | done | with_reducible rfl)); clear hS; have hS := hS1; clear hS1)
              (refine wpAnyS_take (i := 5) (v := ?_) rfl (by kernel_rfl) (by kernel_rfl) (by kernel_rfl) (by kernel_rfl) (by kernel_rfl) (by kernel_rfl) (fun _ _ _ h => h) hS (Or.inl ⟨by kernel_rfl, ?_⟩) (fun hS1 => ?_); rotate_left; (focus (intro w _; go_simp; first | done | with_reducible rfl)); clear hS; have hS := hS1; clear hS1)
              (refine wpAnyS_take (i := 6) (v := ?_) rfl (by kernel_rfl) (by kernel_rfl) (by kernel_rfl) (by kernel_rfl) (by kernel_rfl) (by kernel_rfl) (fun _ _ _ h => h) hS (Or.inl ⟨by kernel_rfl, ?_⟩) (fun hS1 => ?_); rotate_left; (focus (intro w _; go_simp; first | done | with_reducible rfl)); clear hS; have hS := hS1; clear hS1)
              (refine wpAnyS_take (i := 7) (v := ?_) rfl (by kernel_rfl) (by kernel_rfl) (by kernel_rfl) (by kernel_rfl) (by kernel_rfl) (by kernel_rfl) (fun _ _ _ h => h) hS (Or.inl ⟨by kernel_rfl, ?_⟩) (fun hS1 => ?_); rotate_left; (focus (intro w _; go_simp; first | done | with_reducible rfl)); clear hS; have hS := hS1; clear hS1)
              (refine wpAnyS_load (i := 8) (c := 17) (T := fun w' => w'.cell? ⟨b, o + j * 5, none⟩ = some (.int .i64 x.kind) ∧ w'.cell? ⟨b, o + j * 5 + 1, none⟩ = some (.int .u64 x.key) ∧ w'.cell? ⟨b, o + j * 5 + 2, none⟩ = some (.int .u64 x.val) ∧ w'.cell? ⟨b, o + j * 5 + 3, none⟩ = some (.int .u64 x.high) ∧ w'.cell? ⟨b, o + j * 5 + 4, none⟩ = some (.int .i64 x.most)) (v := ?_) rfl (by kernel_rfl) (by kernel_rfl) (by kernel_rfl) (by kernel_rfl) (by kernel_rfl) (by kernel_rfl) (by kernel_rfl) (by simp) (fun _ _ _ h => h) hS (Or.inl ⟨by kernel_rfl, ?_⟩) (fun hS1 => ?_); rotate_left; (focus (intro w hT; obtain ⟨hT0, hT1, hT2, hT3, hT4⟩ := hT; go_simp; first | done | with_reducible rfl)); clear hS; have hS := hS1; clear hS1)
              refine wpAnyS_ready (rs := [4]) (by kernel_rfl) (by simp) ?_
              refine AllReadyS.cons rfl (fun K hK => ?_) AllReadyS.nil
              go_simp
              ((with_reducible refine (HR2 _).mono ?_))
              rintro e w6 ⟨rfl, hb6⟩
              obtain ⟨E6, n6, rfl⟩ := below_ext hb6
              clear hb6
              simp only []
              refine hK.out _ _ ?_ (fun hS1 => ?_)
              · clear hK hS; (intro x hx hl; simp only [List.mem_cons, List.not_mem_nil, or_false] at hx; rcases hx with rfl | rfl; all_goals (first | exact Bool.noConfusion (show true = false from hl) | (show World.cell? _ _ = _; go_simp; done) | (refine ⟨?_, ?_, ?_, ?_, ?_⟩ <;> (show World.cell? _ _ = _; go_simp; done)) | (refine ⟨?_, ?_, ?_⟩ <;> (show World.cell? _ _ = _; go_simp; done))))
              clear hK K hS
              have hS := hS1
              clear hS1
              refine wpAnyS_ready (rs := [9]) (by kernel_rfl) (by simp) ?_
              refine AllReadyS.cons rfl (fun K hK => ?_) AllReadyS.nil
              go_simp
              ((with_reducible refine (HR1 _).mono ?_))
              rintro e w7 ⟨rfl, hb7⟩
              obtain ⟨E7, n7, rfl⟩ := below_ext hb7
              clear hb7
              simp only []
              refine hK.out _ _ ?_ (fun hS1 => ?_)
              · clear hK hS; (intro x hx hl; simp only [List.mem_cons, List.not_mem_nil, or_false] at hx; rcases hx with rfl | rfl; all_goals (first | exact Bool.noConfusion (show true = false from hl) | (show World.cell? _ _ = _; go_simp; done) | (refine ⟨?_, ?_, ?_, ?_, ?_⟩ <;> (show World.cell? _ _ = _; go_simp; done)) | (refine ⟨?_, ?_, ?_⟩ <;> (show World.cell? _ _ = _; go_simp; done))))
              clear hK K hS
              have hS := hS1
              clear hS1
              (refine wpAnyS_take (i := 10) (v := ?_) rfl (by kernel_rfl) (by kernel_rfl) (by kernel_rfl) (by kernel_rfl) (by kernel_rfl) (by kernel_rfl) (fun _ _ _ h => h) hS (Or.inl ⟨by kernel_rfl, ?_⟩) (fun hS1 => ?_); rotate_left; (focus (intro w _; go_simp; first | done | with_reducible rfl)); clear hS; have hS := hS1; clear hS1)
              (refine wpAnyS_take (i := 11) (v := ?_) rfl (by kernel_rfl) (by kernel_rfl) (by kernel_rfl) (by kernel_rfl) (by kernel_rfl) (by kernel_rfl) (fun _ _ _ h => h) hS (Or.inl ⟨by kernel_rfl, ?_⟩) (fun hS1 => ?_); rotate_left; (focus (intro w _; go_simp; first | done | with_reducible rfl)); clear hS; have hS := hS1; clear hS1)
              (refine wpAnyS_take (i := 12) (v := ?_) rfl (by kernel_rfl) (by kernel_rfl) (by kernel_rfl) (by kernel_rfl) (by kernel_rfl) (by kernel_rfl) (fun _ _ _ h => h) hS (Or.inl ⟨by kernel_rfl, ?_⟩) (fun hS1 => ?_); rotate_left; (focus (intro w _; go_simp; first | done | with_reducible rfl)); clear hS; have hS := hS1; clear hS1)
              (refine wpAnyS_take (i := 13) (v := ?_) rfl (by kernel_rfl) (by kernel_rfl) (by kernel_rfl) (by kernel_rfl) (by kernel_rfl) (by kernel_rfl) (fun _ _ _ h => h) hS (Or.inl ⟨by kernel_rfl, ?_⟩) (fun hS1 => ?_); rotate_left; (focus (intro w _; go_simp; first | done | with_reducible rfl)); clear hS; have hS := hS1; clear hS1)
              (refine wpAnyS_take (i := 14) (v := ?_) rfl (by kernel_rfl) (by kernel_rfl) (by kernel_rfl) (by kernel_rfl) (by kernel_rfl) (by kernel_rfl) (fun _ _ _ h => h) hS (Or.inl ⟨by kernel_rfl, ?_⟩) (fun hS1 => ?_); rotate_left; (focus (intro w _; go_simp; first | done | with_reducible rfl)); clear hS; have hS := hS1; clear hS1)
              (refine wpAnyS_take (i := 15) (v := ?_) rfl (by kernel_rfl) (by kernel_rfl) (by kernel_rfl) (by kernel_rfl) (by kernel_rfl) (by kernel_rfl) (fun _ _ _ h => h) hS (Or.inl ⟨by kernel_rfl, ?_⟩) (fun hS1 => ?_); rotate_left; (focus (intro w _; go_simp; first | done | with_reducible rfl)); clear hS; have hS := hS1; clear hS1)
              (refine wpAnyS_load (i := 16) (c := 17) (T := fun w' => w'.cell? ⟨b, o + j * 5, none⟩ = some (.int .i64 x.kind) ∧ w'.cell? ⟨b, o + j * 5 + 1, none⟩ = some (.int .u64 x.key) ∧ w'.cell? ⟨b, o + j * 5 + 2, none⟩ = some (.int .u64 x.val) ∧ w'.cell? ⟨b, o + j * 5 + 3, none⟩ = some (.int .u64 x.high) ∧ w'.cell? ⟨b, o + j * 5 + 4, none⟩ = some (.int .i64 x.most)) (v := ?_) rfl (by kernel_rfl) (by kernel_rfl) (by kernel_rfl) (by kernel_rfl) (by kernel_rfl) (by kernel_rfl) (by kernel_rfl) (by simp) (fun _ _ _ h => h) hS (Or.inl ⟨by kernel_rfl, ?_⟩) (fun hS1 => ?_); rotate_left; (focus (intro w hT; obtain ⟨hT0, hT1, hT2, hT3, hT4⟩ := hT; go_simp; first | done | with_reducible rfl)); clear hS; have hS := hS1; clear hS1)
              (refine wpAnyS_load (i := 18) (c := 19) (T := fun w' => w'.cell? ⟨wr.heap.size, 0, none⟩ = some (.int .i64 0) ∧ w'.cell? ⟨wr.heap.size, 1, none⟩ = some (.int .u64 0) ∧ w'.cell? ⟨wr.heap.size, 2, none⟩ = some (.slice none 0 0)) (v := ?_) rfl (by kernel_rfl) (by kernel_rfl) (by kernel_rfl) (by kernel_rfl) (by kernel_rfl) (by kernel_rfl) (by kernel_rfl) (by simp) (fun _ _ _ h => h) hS (Or.inl ⟨by kernel_rfl, ?_⟩) (fun hS1 => ?_); rotate_left; (focus (intro w hT; obtain ⟨hT0, hT1, hT2⟩ := hT; go_simp; first | done | with_reducible rfl)); clear hS; have hS := hS1; clear hS1)
              refine wpAnyS_ready (rs := [17]) (by kernel_rfl) (by simp) ?_
              refine AllReadyS.cons rfl (fun K hK => ?_) AllReadyS.nil
              go_simp
              ((with_reducible refine (do_any w.heap.size p kv1 vv1 m x _ (HM1.out.below (by ((repeat' (first | exact Below.refl _ _ | assumption | (refine Below_alloc ?_ ?_ _) | (refine Below_ext ?_ ?_ _ _) | (refine Below_setCell ?_ _ _ _ ?_) | apply Below.drew | refine Below_drewN ?_ _)) <;> first | done | (simp; done) | (simp; omega)))) (by omega)).mono ?_))
              intro e w8 hD
              obtain ⟨kv8, vv8, a8, c8, rfl, hM8, hR8, hk8, hf8⟩ := done_outE e1' e2' hD
              clear hD
              obtain ⟨hq8, _, hh8⟩ := hk8.cells (b := wr.heap.size) (by go_simp) (fun hs => by have := (HM1.out.foot_lt hs).1; omega)
              have f0 : w8.cell? ⟨wr.heap.size, 0, none⟩ = some (.int .i64 0) := by rw [hq8]; go_simp
              have f1 : w8.cell? ⟨wr.heap.size, 1, none⟩ = some (.int .u64 0) := by rw [hq8]; go_simp
              have f2 : w8.cell? ⟨wr.heap.size, 2, none⟩ = some (.slice none 0 0) := by rw [hq8]; go_simp
              have HM8 := Lib.hid hM8
              have HR8 := Lib.hid hR8
              have HK8 := Lib.hid hk8
              have HF8 := Lib.hid hf8
              clear hM8 hR8 hk8 hf8 hq8
              simp only []
              refine hK.out _ _ ?_ (fun hS1 => ?_)
              · clear hK hS; (intro x hx hl; simp only [List.mem_cons, List.not_mem_nil, or_false] at hx; rcases hx with rfl | rfl; all_goals (first | exact Bool.noConfusion (show true = false from hl) | (show World.cell? _ _ = _; go_simp; done) | (refine ⟨?_, ?_, ?_, ?_, ?_⟩ <;> (show World.cell? _ _ = _; go_simp; done)) | (refine ⟨?_, ?_, ?_⟩ <;> (show World.cell? _ _ = _; go_simp; done))))
              clear hK K hS
              have hS := hS1
              clear hS1
              refine wpAnyS_ready (rs := [19]) (by kernel_rfl) (by simp) ?_
              refine AllReadyS.cons rfl (fun K hK => ?_) AllReadyS.nil
              go_simp
              ((with_reducible refine (hHS _ _ _ (by exact Arr.ofRow HR8.out) (Arr.zero _ _ _ _ _ (by omega))).mono ?_))
              rintro e w9 ⟨rfl, hb9⟩
              obtain ⟨E9, n9, rfl⟩ := below_ext hb9
              clear hb9
              simp only []
              refine hK.out _ _ ?_ (fun hS1 => ?_)
              · clear hK hS; (intro x hx hl; simp only [List.mem_cons, List.not_mem_nil, or_false] at hx; rcases hx with rfl | rfl; all_goals (first | exact Bool.noConfusion (show true = false from hl) | (show World.cell? _ _ = _; go_simp; done) | (refine ⟨?_, ?_, ?_, ?_, ?_⟩ <;> (show World.cell? _ _ = _; go_simp; done)) | (refine ⟨?_, ?_, ?_⟩ <;> (show World.cell? _ _ = _; go_simp; done))))
              clear hK K hS
              have hS := hS1
              clear hS1
              (refine wpAnyS_take (i := 20) (v := ?_) rfl (by kernel_rfl) (by kernel_rfl) (by kernel_rfl) (by kernel_rfl) (by kernel_rfl) (by kernel_rfl) (fun _ _ _ h => h) hS (Or.inl ⟨by kernel_rfl, ?_⟩) (fun hS1 => ?_); rotate_left; (focus (intro w _; go_simp; first | done | with_reducible rfl)); clear hS; have hS := hS1; clear hS1)
              (refine wpAnyS_take (i := 21) (v := ?_) rfl (by kernel_rfl) (by kernel_rfl) (by kernel_rfl) (by kernel_rfl) (by kernel_rfl) (by kernel_rfl) (fun _ _ _ h => h) hS (Or.inl ⟨by kernel_rfl, ?_⟩) (fun hS1 => ?_); rotate_left; (focus (intro w _; go_simp; first | done | with_reducible rfl)); clear hS; have hS := hS1; clear hS1)
              (refine wpAnyS_take (i := 22) (v := ?_) rfl (by kernel_rfl) (by kernel_rfl) (by kernel_rfl) (by kernel_rfl) (by kernel_rfl) (by kernel_rfl) (fun _ _ _ h => h) hS (Or.inl ⟨by kernel_rfl, ?_⟩) (fun hS1 => ?_); rotate_left; (focus (intro w _; go_simp; first | done | with_reducible rfl)); clear hS; have hS := hS1; clear hS1)
              (refine wpAnyS_take (i := 23) (v := ?_) rfl (by kernel_rfl) (by kernel_rfl) (by kernel_rfl) (by kernel_rfl) (by kernel_rfl) (by kernel_rfl) (fun _ _ _ h => h) hS (Or.inl ⟨by kernel_rfl, ?_⟩) (fun hS1 => ?_); rotate_left; (focus (intro w _; go_simp; first | done | with_reducible rfl)); clear hS; have hS := hS1; clear hS1)
              (refine wpAnyS_take (i := 25) (v := ?_) rfl (by kernel_rfl) (by kernel_rfl) (by kernel_rfl) (by kernel_rfl) (by kernel_rfl) (by kernel_rfl) (fun _ _ _ h => h) hS (Or.inl ⟨by kernel_rfl, ?_⟩) (fun hS1 => ?_); rotate_left; (focus (intro w _; go_simp; first | done | with_reducible rfl)); clear hS; have hS := hS1; clear hS1)
              (refine wpAnyS_take (i := 26) (v := ?_) rfl (by kernel_rfl) (by kernel_rfl) (by kernel_rfl) (by kernel_rfl) (by kernel_rfl) (by kernel_rfl) (fun _ _ _ h => h) hS (Or.inl ⟨by kernel_rfl, ?_⟩) (fun hS1 => ?_); rotate_left; (focus (intro w _; go_simp; first | done | with_reducible rfl)); clear hS; have hS := hS1; clear hS1)
              refine wpAnyS_ready (rs := [24]) (by kernel_rfl) (by simp) ?_
              refine AllReadyS.cons rfl (fun K hK => ?_) AllReadyS.nil
              go_simp
              ((with_reducible refine (len_any w.heap.size p kv8 vv8 m _ (HM8.out.below (by ((repeat' (first | exact Below.refl _ _ | assumption | (refine Below_alloc ?_ ?_ _) | (refine Below_ext ?_ ?_ _ _) | (refine Below_setCell ?_ _ _ _ ?_) | apply Below.drew | refine Below_drewN ?_ _)) <;> first | done | (simp; done) | (simp; omega))))).mono ?_))
              rintro e w10 ⟨rfl, hb10⟩
              obtain ⟨E10, n10, rfl⟩ := below_ext hb10
              clear hb10
              simp only []
              refine hK.out _ _ ?_ (fun hS1 => ?_)
              · clear hK hS; (intro x hx hl; simp only [List.mem_cons, List.not_mem_nil, or_false] at hx; rcases hx with rfl | rfl; all_goals (first | exact Bool.noConfusion (show true = false from hl) | (show World.cell? _ _ = _; go_simp; done) | (refine ⟨?_, ?_, ?_, ?_, ?_⟩ <;> (show World.cell? _ _ = _; go_simp; done)) | (refine ⟨?_, ?_, ?_⟩ <;> (show World.cell? _ _ = _; go_simp; done))))
              clear hK K hS
              have hS := hS1
              clear hS1
              (refine wpAnyS_take (i := 27) (v := ?_) rfl (by kernel_rfl) (by kernel_rfl) (by kernel_rfl) (by kernel_rfl) (by kernel_rfl) (by kernel_rfl) (fun _ _ _ h => h) hS (Or.inl ⟨by kernel_rfl, ?_⟩) (fun hS1 => ?_); rotate_left; (focus (intro w _; go_simp; first | done | with_reducible rfl)); clear hS; have hS := hS1; clear hS1)
              (refine wpAnyS_take (i := 28) (v := ?_) rfl (by kernel_rfl) (by kernel_rfl) (by kernel_rfl) (by kernel_rfl) (by kernel_rfl) (by kernel_rfl) (fun _ _ _ h => h) hS (Or.inl ⟨by kernel_rfl, ?_⟩) (fun hS1 => ?_); rotate_left; (focus (intro w _; go_simp; first | done | with_reducible rfl)); clear hS; have hS := hS1; clear hS1)
              refine wpAnyS_done (by kernel_rfl) ?_ _
              clear hS
              go_wp2_with (fail)
              go_roundg (os.length - (j + 1))
              case rel =>
                have q1 := HM8.out
                have q2 : Below w.heap.size w wr := HBW1.out
                have q3 := q2.size
                have q4 := HK8.out
                have q5 : Below w.heap.size w w8 := Below.trans (by ((repeat' (first | exact Below.refl _ _ | assumption | (refine Below_alloc ?_ ?_ _) | (refine Below_ext ?_ ?_ _ _) | (refine Below_setCell ?_ _ _ _ ?_) | apply Below.drew | refine Below_drewN ?_ _)) <;> first | done | (simp; done) | (simp; omega))) (q4.below (by simp; omega) fun k hk => (HM1.out.foot_lt hk).2)
                have q6 := q5.size
                refine ⟨j + 1, by omega, rfl, by go_num, kv8, vv8, by rw [hms, e1']; exact HM8.out.below (by ((repeat' (first | exact Below.refl _ _ | assumption | (refine Below_alloc ?_ ?_ _) | (refine Below_ext ?_ ?_ _ _) | (refine Below_setCell ?_ _ _ _ ?_) | apply Below.drew | refine Below_drewN ?_ _)) <;> first | done | (simp; done) | (simp; omega))), ⟨aa1, cc1, by rw [hms, e1']⟩, ?_, ?_, (by ((repeat' (first | exact Below.refl _ _ | assumption | (refine Below_alloc ?_ ?_ _) | (refine Below_ext ?_ ?_ _ _) | (refine Below_setCell ?_ _ _ _ ?_) | apply Below.drew | refine Below_drewN ?_ _)) <;> first | done | (simp; done) | (simp; omega)))⟩
                · rw [hms, e1']
                  have r0 := HA2.out
                  exact ((Arr.kp2 (by (repeat' (first | assumption | refine Arr.ext ?_ _ _ | refine Arr.alloc ?_ _ | refine Arr.drew ?_ | refine Arr.drewN ?_ _))) HK8.out (fun hl g hg hf => HAP1.out hl g hf hg)).ext _ _).ext _ _
                · rw [hms, e1']
                  have r0 := HA2.out
                  exact apart_after (by (repeat' (first | assumption | refine Arr.ext ?_ _ _ | refine Arr.alloc ?_ _ | refine Arr.drew ?_ | refine Arr.drewN ?_ _))) HAP1.out HF8.out (Nat.le_refl _)
              case measure => omega
          · obtain rfl : j = os.length := by omega
            have hMr := mAt_rising os hri
            have hMu := mAt_inU os hri hlu hou
            rw [List.take_length] at hM1 hA1 hri1 hml
            rw [List.take_length]
            generalize mAt m0 os = m at *
            have HM1 := Lib.hid hM1
            have HA2 := Lib.hid hA1
            have HBW1 := Lib.hid hbw1
            have HP : ∀ (W : World) (v1 v2 : Value), Arr W 2 PairD.cells v1 m → Arr W 2 PairD.cells v2 m → Calls Try.prog 28 #[v1, v2] W fun e w' => e = .returned (.bool true) ∧ Below W.heap.size W w' := fun W v1 v2 h1 h2 => by
              have := ref21_pairs v1 v2 m m W h1 h2
              simpa using this
            have HQ : ∀ (W : World), MapAt w.heap.size W p kv1 vv1 m → Calls Try.prog 29 #[.pointer (some ⟨p, 0, none⟩)] W fun e w' => ∃ v, e = .returned v ∧ RowP W.heap.size w' v m ∧ Below W.heap.size W w' := fun W hW => by
              have := pairs_any w.heap.size p kv1 vv1 m W hW (by omega)
              rwa [place_zero hMr hMu, List.drop_zero] at this
            clear hM1 hA1 hbw1 hap1
            go_wp2_with (fail)
            refine (HQ _ HM1.out).mono ?_
            rintro e w2 ⟨v2, rfl, hR2, hb2⟩
            have HR2 := Lib.hid hR2
            have HB2 := Lib.hid hb2
            clear hR2 hb2
            simp only []
            go_wp2_with (fail)
            refine (HP _ _ _ (Arr.ofRow HR2.out) (HA2.out.below HB2.out)).mono ?_
            rintro e w3 ⟨rfl, hb3⟩
            have HB3 := Lib.hid hb3
            clear hb3
            simp only []
            go_wp2_with (fail)
            refine (HA _).mono ?_
            rintro e w4 ⟨rfl, hb4⟩
            simp only []
            go_wp2_with (fail)
            go_ret
            have q1 := HBW1.out.trans (HB2.out.mono HBW1.out.size)
            have q2 := q1.trans (HB3.out.mono q1.size)
            exact ⟨by rfl, q2.trans (hb4.mono q2.size)⟩
  · have hdd : (decide ((100 : Int) < (os.length : Int)) = true) ∨ (decide ((100 : Int) < (os.length : Int)) = false ∧ decide ((100 : Int) < (l.length : Int)) = true) := by
      rcases Nat.lt_or_ge 100 os.length with h1 | h1
      · exact .inl (decide_eq_true (by omega))
      · exact .inr ⟨decide_eq_false (by omega), decide_eq_true (by omega)⟩
    rcases hdd with hd2 | ⟨hd2, hd⟩
    · go_enter Try.func6, Try.ntmps6
      go_wp2_with (fail)
      refine (HA _).mono ?_
      rintro e w4 ⟨rfl, hb4⟩
      simp only []
      go_wp2_with (fail)
      go_ret
      exact ⟨by rfl, hb4⟩
    · go_enter Try.func6, Try.ntmps6
      go_wp2_with (fail)
      refine (HA _).mono ?_
      rintro e w4 ⟨rfl, hb4⟩
      simp only []
      go_wp2_with (fail)
      go_ret
      exact ⟨by rfl, hb4⟩
end Go.Proofs.Ytofhaechpllaoaa
