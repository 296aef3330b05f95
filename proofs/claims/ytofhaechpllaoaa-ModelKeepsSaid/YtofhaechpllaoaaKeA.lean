/- ModelKeeps: the walk. -/
import Derived.Test.YtofhaechpllaoaaPkC
import Derived.Test.YtofhaechpllaoaaPkA
namespace Go.Proofs.Ytofhaechpllaoaa
open Go Go.RowKit Go.Shelf

theorem done_outE {base p : Nat} {kv vv : Value} {m m' : List PairD} {o : OpD} {r : Int × Int × List PairD} (ha : afterM m o = m') (hr : resOf m o = r) {w : World} {e : Ending} {w' : World} (h : DoneO base p kv vv m o w e w') :
    ∃ kv' vv' a c, e = .returned (.agg #[.int .i64 r.1, .int .u64 r.2.1, .slice a r.2.2.length c]) ∧ MapAt base w' p kv' vv' m' ∧ RowP w.heap.size w' (.slice a r.2.2.length c) r.2.2 ∧ Kp (foot p kv vv) w w' ∧ ∀ g, foot p kv' vv' g → foot p kv vv g ∨ w.heap.size ≤ g := by
  subst ha hr; exact h

theorem field_res (a b c : Value) (w : World) : (Instr.field 27 (.agg #[a, b, c]) 0).run Try.prog w = .ok a w := by kernel_rfl
set_option maxRecDepth 100000 in
set_option maxHeartbeats 4000000 in
theorem keeps_walk (v : Value) (l : List PairD) (key value : Int) (w : World) (h : Arr w 2 PairD.cells v l) (hl : InU l) (hk : 0 ≤ key ∧ key ≤ 18446744073709551615)
    (HA : ∀ W, Calls Try.prog 17 #[] W fun e w' => e = .returned (.bool true) ∧ Below W.heap.size W w') :
    Calls Try.prog 7 #[v, .int .u64 key, .int .u64 value] w fun e w' => e = .returned (.bool true) ∧ Below w.heap.size w w' := by
  have HN := fun W (hb : Arr W 2 PairD.cells v l) (hn : l.length ≤ 100) => new_any v l W hb (by omega)
  have HAr := Lib.hid h
  obtain ⟨a, cap, rfl, hc1, hc2, -⟩ := h
  by_cases hn : l.length ≤ 100
  · have hd : decide ((100 : Int) < (l.length : Int)) = false := decide_eq_false (by omega)
    obtain ⟨m1, m2, e1, g1, g2, g0, e2, e3, e4, e5, e6, e7, g3, e8, e9, e10, e11⟩ := keeps_law l key value hl hk hn
    go_enter Try.func7, Try.ntmps7
    go_wp2_with (first | (go_at_call 20; with_reducible refine (HN _ HAr.out hn).mono ?_; rintro e w' ⟨p, kv, vv, rfl, hM, hbx⟩; obtain ⟨E, nx, rfl⟩ := below_ext hbx; clear hbx))
    refine (do_any w.heap.size p kv vv _ ⟨2, key, value, 0, 0⟩ _ hM (by omega)).mono ?_
    intro e w1 hD
    obtain ⟨kv1, vv1, a1, c1, rfl, hM1, hR1, hk1, hf1⟩ := done_outE e1 rfl hD
    clear hD
    have HM1 := Lib.hid hM1
    have HF1 := Lib.hid hf1
    clear hM1 hf1 hR1
    simp only []
    go_wp2_with (fail)
    refine (do_any w.heap.size p kv1 vv1 _ ⟨1, key, 0, 0, 0⟩ _ HM1.out (by omega)).mono ?_
    intro e w2 hD
    obtain ⟨kv2, vv2, a2, c2, rfl, hM2, hR2, hk2, hf2⟩ := done_outE e3 e2 hD
    clear hD
    have HM2 := Lib.hid hM2
    have HF2 := Lib.hid hf2
    clear hM2 hf2 hR2
    simp only []
    go_wp2_with (fail)
    refine (len_any w.heap.size p kv2 vv2 m1 _ (HM2.out.alloc _)).mono ?_
    rintro e w' ⟨rfl, hbx⟩
    obtain ⟨E3, n3, rfl⟩ := below_ext hbx
    clear hbx
    simp only []
    go_wp2_with (fail)
    refine (do_any w.heap.size p kv2 vv2 _ ⟨4, 0, 0, 18446744073709551615, m1.length⟩ _ (HM2.out.below (by ((repeat' (first | exact Below.refl _ _ | assumption | (refine Below_alloc ?_ ?_ _) | (refine Below_ext ?_ ?_ _ _) | (refine Below_setCell ?_ _ _ _ ?_) | apply Below.drew | refine Below_drewN ?_ _)) <;> first | done | (simp; done) | (simp; omega)))) (by omega)).mono ?_
    intro e w3 hD
    obtain ⟨kv3, vv3, a3, c3, rfl, hM3, hR3, hk3, hf3⟩ := done_outE e5 e4 hD
    clear hD
    have HM3 := Lib.hid hM3
    have HF3 := Lib.hid hf3
    have HR3 := Lib.hid hR3
    clear hM3 hf3 hR3
    have hkb : ∀ g, foot p kv2 vv2 g → g < w2.heap.size := fun g hg => (HM2.out.foot_lt hg).1
    obtain ⟨hq4, hz4, hh4⟩ := hk3.cells (b := w2.heap.size) (by go_simp) (fun hs => by have := hkb _ hs; omega)
    have HK1 := Lib.hid hk1
    have HK2 := Lib.hid hk2
    have HK3 := Lib.hid hk3
    clear hk1 hk2 hk3
    simp only []
    go_wp2_with (fail)
    have hr0 : w3.cell? ⟨w2.heap.size, 0, none⟩ = some (.int .i64 2) := by rw [hq4]; go_simp
    have hr1 : w3.cell? ⟨w2.heap.size, 1, none⟩ = some (.int .u64 value) := by rw [hq4]; go_simp
    have hz0 : w3.frozen? ⟨w2.heap.size, 0, none⟩ = false := by rw [hz4]; go_simp
    have hz1 : w3.frozen? ⟨w2.heap.size, 1, none⟩ = false := by rw [hz4]; go_simp
    clear hq4 hz4
    have HP : ∀ (W : World) (v1 v2 : Value), Arr W 2 PairD.cells v1 m1 → Arr W 2 PairD.cells v2 m1 → Calls Try.prog 28 #[v1, v2] W fun e w' => e = .returned (.bool true) ∧ Below W.heap.size W w' := fun W v1 v2 h1 h2 => by
      have := ref21_pairs v1 v2 m1 m1 W h1 h2
      simpa using this
    have HQ : ∀ (W : World), MapAt w.heap.size W p kv3 vv3 m1 → Calls Try.prog 29 #[.pointer (some ⟨p, 0, none⟩)] W fun e w' => ∃ v, e = .returned v ∧ RowP W.heap.size w' v m1 ∧ Below W.heap.size W w' := fun W hW => by
      have := pairs_any w.heap.size p kv3 vv3 m1 W hW (by omega)
      rwa [e6] at this
    have hd0 : decide ((m1.length : Int) = 0) = false := decide_eq_false (by omega)
    have HL : ∀ (W : World), MapAt w.heap.size W p kv3 vv3 m1 → Calls Try.prog 27 #[.pointer (some ⟨p, 0, none⟩)] W fun e w' => e = .returned (.int .i64 m1.length) ∧ Below W.heap.size W w' := fun W hW => len_any w.heap.size p kv3 vv3 m1 W hW
    have hS : HeldTill [(13, fun w' => w'.cell? ⟨w2.heap.size, 0, none⟩ = some (.int .i64 2)), (13, fun w' => w'.cell? ⟨w2.heap.size, 1, none⟩ = some (.int .u64 value)), (14, fun w' => w'.cell? ⟨w3.heap.size, 2, none⟩ = some (.slice a3 m1.length c3))] (Array.replicate 22 false) (w3.alloc (.cells #[.int .i64 4, .int .u64 0, .slice a3 m1.length c3] 27)).drew := by
      intro x hx _
      simp only [List.mem_cons, List.not_mem_nil, or_false] at hx
      rcases hx with rfl | rfl | rfl
      all_goals (show World.cell? _ _ = _; go_simp)
    refine wp_region_S [(13, fun w' => w'.cell? ⟨w2.heap.size, 0, none⟩ = some (.int .i64 2)), (13, fun w' => w'.cell? ⟨w2.heap.size, 1, none⟩ = some (.int .u64 value)), (14, fun w' => w'.cell? ⟨w3.heap.size, 2, none⟩ = some (.slice a3 m1.length c3))] (by kernel_rfl) ?_
    (refine wpAnyS_take (i := 0) (v := ?_) rfl (by kernel_rfl) (by kernel_rfl) (by kernel_rfl) (by kernel_rfl) (by kernel_rfl) (by kernel_rfl) (fun _ _ _ h => h) hS (Or.inl ⟨by kernel_rfl, ?_⟩) (fun hS1 => ?_); rotate_left; (focus (intro w _; go_simp; first | done | with_reducible rfl)); clear hS; have hS := hS1; clear hS1)
    (refine wpAnyS_load (i := 1) (c := 13) (T := fun w' => w'.cell? ⟨w2.heap.size, 0, none⟩ = some (.int .i64 2)) (v := ?_) rfl (by kernel_rfl) (by kernel_rfl) (by kernel_rfl) (by kernel_rfl) (by kernel_rfl) (by kernel_rfl) (by kernel_rfl) (by simp) (fun _ _ _ h => h) hS (Or.inl ⟨by kernel_rfl, ?_⟩) (fun hS1 => ?_); rotate_left; (focus (intro w hT; go_simp; first | done | with_reducible rfl)); clear hS; have hS := hS1; clear hS1)
    (refine wpAnyS_take (i := 2) (v := ?_) rfl (by kernel_rfl) (by kernel_rfl) (by kernel_rfl) (by kernel_rfl) (by kernel_rfl) (by kernel_rfl) (fun _ _ _ h => h) hS (Or.inl ⟨by kernel_rfl, ?_⟩) (fun hS1 => ?_); rotate_left; (focus (intro w _; go_simp; first | done | with_reducible rfl)); clear hS; have hS := hS1; clear hS1)
    (refine wpAnyS_take (i := 3) (v := ?_) rfl (by kernel_rfl) (by kernel_rfl) (by kernel_rfl) (by kernel_rfl) (by kernel_rfl) (by kernel_rfl) (fun _ _ _ h => h) hS (Or.inl ⟨by kernel_rfl, ?_⟩) (fun hS1 => ?_); rotate_left; (focus (intro w _; go_simp; first | done | with_reducible rfl)); clear hS; have hS := hS1; clear hS1)
    (refine wpAnyS_take (i := 4) (v := ?_) rfl (by kernel_rfl) (by kernel_rfl) (by kernel_rfl) (by kernel_rfl) (by kernel_rfl) (by kernel_rfl) (fun _ _ _ h => h) hS (Or.inl ⟨by kernel_rfl, ?_⟩) (fun hS1 => ?_); rotate_left; (focus (intro w _; go_simp; first | done | with_reducible rfl)); clear hS; have hS := hS1; clear hS1)
    (refine wpAnyS_load (i := 5) (c := 13) (T := fun w' => w'.cell? ⟨w2.heap.size, 1, none⟩ = some (.int .u64 value)) (v := ?_) rfl (by kernel_rfl) (by kernel_rfl) (by kernel_rfl) (by kernel_rfl) (by kernel_rfl) (by kernel_rfl) (by kernel_rfl) (by simp) (fun _ _ _ h => h) hS (Or.inl ⟨by kernel_rfl, ?_⟩) (fun hS1 => ?_); rotate_left; (focus (intro w hT; go_simp; first | done | with_reducible rfl)); clear hS; have hS := hS1; clear hS1)
    (refine wpAnyS_take (i := 6) (v := ?_) rfl (by kernel_rfl) (by kernel_rfl) (by kernel_rfl) (by kernel_rfl) (by kernel_rfl) (by kernel_rfl) (fun _ _ _ h => h) hS (Or.inl ⟨by kernel_rfl, ?_⟩) (fun hS1 => ?_); rotate_left; (focus (intro w _; go_simp; first | done | with_reducible rfl)); clear hS; have hS := hS1; clear hS1)
    (refine wpAnyS_take (i := 7) (v := ?_) rfl (by kernel_rfl) (by kernel_rfl) (by kernel_rfl) (by kernel_rfl) (by kernel_rfl) (by kernel_rfl) (fun _ _ _ h => h) hS (Or.inl ⟨by kernel_rfl, ?_⟩) (fun hS1 => ?_); rotate_left; (focus (intro w _; go_simp; first | done | with_reducible rfl)); clear hS; have hS := hS1; clear hS1)
    (refine wpAnyS_take (i := 8) (v := ?_) rfl (by kernel_rfl) (by kernel_rfl) (by kernel_rfl) (by kernel_rfl) (by kernel_rfl) (by kernel_rfl) (fun _ _ _ h => h) hS (Or.inl ⟨by kernel_rfl, ?_⟩) (fun hS1 => ?_); rotate_left; (focus (intro w _; go_simp; first | done | with_reducible rfl)); clear hS; have hS := hS1; clear hS1)
    (refine wpAnyS_take (i := 9) (v := ?_) rfl (by kernel_rfl) (by kernel_rfl) (by kernel_rfl) (by kernel_rfl) (by kernel_rfl) (by kernel_rfl) (fun _ _ _ h => h) hS (Or.inl ⟨by kernel_rfl, ?_⟩) (fun hS1 => ?_); rotate_left; (focus (intro w _; go_simp; first | done | with_reducible rfl)); clear hS; have hS := hS1; clear hS1)
    (refine wpAnyS_take (i := 10) (v := ?_) rfl (by kernel_rfl) (by kernel_rfl) (by kernel_rfl) (by kernel_rfl) (by kernel_rfl) (by kernel_rfl) (fun _ _ _ h => h) hS (Or.inl ⟨by kernel_rfl, ?_⟩) (fun hS1 => ?_); rotate_left; (focus (intro w _; go_simp; first | done | with_reducible rfl)); clear hS; have hS := hS1; clear hS1)
    (refine wpAnyS_load (i := 11) (c := 14) (T := fun w' => w'.cell? ⟨w3.heap.size, 2, none⟩ = some (.slice a3 m1.length c3)) (v := ?_) rfl (by kernel_rfl) (by kernel_rfl) (by kernel_rfl) (by kernel_rfl) (by kernel_rfl) (by kernel_rfl) (by kernel_rfl) (by simp) (fun _ _ _ h => h) hS (Or.inl ⟨by kernel_rfl, ?_⟩) (fun hS1 => ?_); rotate_left; (focus (intro w hT; go_simp; first | done | with_reducible rfl)); clear hS; have hS := hS1; clear hS1)
    (refine wpAnyS_take (i := 12) (v := ?_) rfl (by kernel_rfl) (by kernel_rfl) (by kernel_rfl) (by kernel_rfl) (by kernel_rfl) (by kernel_rfl) (fun _ _ _ h => h) hS (Or.inl ⟨by kernel_rfl, ?_⟩) (fun hS1 => ?_); rotate_left; (focus (intro w _; go_simp; first | done | with_reducible rfl)); clear hS; have hS := hS1; clear hS1)
    refine wpAnyS_ready (rs := [13]) (by kernel_rfl) (by simp) ?_
    refine AllReadyS.cons rfl (fun K hK => ?_) AllReadyS.nil
    go_simp
    ((with_reducible refine (HQ _ (HM3.out.below (by ((repeat' (first | exact Below.refl _ _ | assumption | (refine Below_alloc ?_ ?_ _) | (refine Below_ext ?_ ?_ _ _) | (refine Below_setCell ?_ _ _ _ ?_) | apply Below.drew | refine Below_drewN ?_ _)) <;> first | done | (simp; done) | (simp; omega))))).mono ?_))
    rintro e w5 ⟨v5, rfl, hR5, hb5⟩
    obtain ⟨E5, n5, rfl⟩ := below_ext hb5
    have HR5 := Lib.hid hR5
    clear hR5 hb5
    simp only []
    refine hK.out _ _ ?_ (fun hS1 => ?_)
    · clear hK hS; (intro x hx hl; simp only [List.mem_cons, List.not_mem_nil, or_false] at hx; rcases hx with rfl | rfl | rfl; all_goals (first | exact Bool.noConfusion (show true = false from hl) | (show World.cell? _ _ = _; go_simp; done)))
    clear hK K hS
    have hS := hS1
    clear hS1
    refine wpAnyS_ready (rs := [14]) (by kernel_rfl) (by simp) ?_
    refine AllReadyS.cons rfl (fun K hK => ?_) AllReadyS.nil
    go_simp
    ((with_reducible refine (HP _ _ _ ((Arr.ofRow HR3.out).below (by ((repeat' (first | exact Below.refl _ _ | assumption | (refine Below_alloc ?_ ?_ _) | (refine Below_ext ?_ ?_ _ _) | (refine Below_setCell ?_ _ _ _ ?_) | apply Below.drew | refine Below_drewN ?_ _)) <;> first | done | (simp; done) | (simp; omega)))) (by exact Arr.ofRow HR5.out)).mono ?_))
    rintro e w6 ⟨rfl, hb6⟩
    obtain ⟨E6, n6, rfl⟩ := below_ext hb6
    clear hb6
    simp only []
    refine hK.out _ _ ?_ (fun hS1 => ?_)
    · clear hK hS; (intro x hx hl; simp only [List.mem_cons, List.not_mem_nil, or_false] at hx; rcases hx with rfl | rfl | rfl; all_goals (first | exact Bool.noConfusion (show true = false from hl) | (show World.cell? _ _ = _; go_simp; done)))
    clear hK K hS
    have hS := hS1
    clear hS1
    (refine wpAnyS_take (i := 15) (v := ?_) rfl (by kernel_rfl) (by kernel_rfl) (by kernel_rfl) (by kernel_rfl) (by kernel_rfl) (by kernel_rfl) (fun _ _ _ h => h) hS (Or.inl ⟨by kernel_rfl, ?_⟩) (fun hS1 => ?_); rotate_left; (focus (intro w _; go_simp; first | done | with_reducible rfl)); clear hS; have hS := hS1; clear hS1)
    (refine wpAnyS_take (i := 16) (v := ?_) rfl (by kernel_rfl) (by kernel_rfl) (by kernel_rfl) (by kernel_rfl) (by kernel_rfl) (by kernel_rfl) (fun _ _ _ h => h) hS (Or.inl ⟨by kernel_rfl, ?_⟩) (fun hS1 => ?_); rotate_left; (focus (intro w _; go_simp; first | done | with_reducible rfl)); clear hS; have hS := hS1; clear hS1)
    (refine wpAnyS_take (i := 17) (v := ?_) rfl (by kernel_rfl) (by kernel_rfl) (by kernel_rfl) (by kernel_rfl) (by kernel_rfl) (by kernel_rfl) (fun _ _ _ h => h) hS (Or.inl ⟨by kernel_rfl, ?_⟩) (fun hS1 => ?_); rotate_left; (focus (intro w _; go_simp; first | done | with_reducible rfl)); clear hS; have hS := hS1; clear hS1)
    (refine wpAnyS_take (i := 18) (v := ?_) rfl (by kernel_rfl) (by kernel_rfl) (by kernel_rfl) (by kernel_rfl) (by kernel_rfl) (by kernel_rfl) (fun _ _ _ h => h) hS (Or.inl ⟨by kernel_rfl, ?_⟩) (fun hS1 => ?_); rotate_left; (focus (intro w _; go_simp; first | done | with_reducible rfl)); clear hS; have hS := hS1; clear hS1)
    refine wpAnyS_ready (rs := [19]) (by kernel_rfl) (by simp) ?_
    refine AllReadyS.cons rfl (fun K hK => ?_) AllReadyS.nil
    go_simp
    ((with_reducible refine (HL _ (HM3.out.below (by ((repeat' (first | exact Below.refl _ _ | assumption | (refine Below_alloc ?_ ?_ _) | (refine Below_ext ?_ ?_ _ _) | (refine Below_setCell ?_ _ _ _ ?_) | apply Below.drew | refine Below_drewN ?_ _)) <;> first | done | (simp; done) | (simp; omega))))).mono ?_))
    rintro e w7 ⟨rfl, hb7⟩
    obtain ⟨E7, n7, rfl⟩ := below_ext hb7
    clear hb7
    simp only []
    refine hK.out _ _ ?_ (fun hS1 => ?_)
    · clear hK hS; (intro x hx hl; simp only [List.mem_cons, List.not_mem_nil, or_false] at hx; rcases hx with rfl | rfl | rfl; all_goals (first | exact Bool.noConfusion (show true = false from hl) | (show World.cell? _ _ = _; go_simp; done)))
    clear hK K hS
    have hS := hS1
    clear hS1
    (refine wpAnyS_take (i := 20) (v := ?_) rfl (by kernel_rfl) (by kernel_rfl) (by kernel_rfl) (by kernel_rfl) (by kernel_rfl) (by kernel_rfl) (fun _ _ _ h => h) hS (Or.inl ⟨by kernel_rfl, ?_⟩) (fun hS1 => ?_); rotate_left; (focus (intro w _; go_simp; first | done | with_reducible rfl)); clear hS; have hS := hS1; clear hS1)
    (refine wpAnyS_take (i := 21) (v := ?_) rfl (by kernel_rfl) (by kernel_rfl) (by kernel_rfl) (by kernel_rfl) (by kernel_rfl) (by kernel_rfl) (fun _ _ _ h => h) hS (Or.inl ⟨by kernel_rfl, ?_⟩) (fun hS1 => ?_); rotate_left; (focus (intro w _; go_simp; first | done | with_reducible rfl)); clear hS; have hS := hS1; clear hS1)
    refine wpAnyS_done (by kernel_rfl) ?_ _
    clear hS
    go_wp2_with (fail)
    refine (do_any w.heap.size p kv3 vv3 _ ⟨3, key, 0, 0, 0⟩ _ (HM3.out.below (by ((repeat' (first | exact Below.refl _ _ | assumption | (refine Below_alloc ?_ ?_ _) | (refine Below_ext ?_ ?_ _ _) | (refine Below_setCell ?_ _ _ _ ?_) | apply Below.drew | refine Below_drewN ?_ _)) <;> first | done | (simp; done) | (simp; omega)))) (by omega)).mono ?_
    intro e w4 hD
    obtain ⟨kv4, vv4, a4, c4, rfl, hM4, hR4, hk4, hf4⟩ := done_outE e7 rfl hD
    clear hD
    have HM4 := Lib.hid hM4
    have HF4 := Lib.hid hf4
    have HK4 := Lib.hid hk4
    clear hM4 hf4 hR4 hk4
    simp only []
    go_wp2_with (fail)
    refine (get_any w.heap.size p kv4 vv4 m2 key _ HM4.out (by omega)).mono ?_
    rintro e w' ⟨rfl, hbx⟩
    obtain ⟨E8, n8, rfl⟩ := below_ext hbx
    clear hbx
    rw [e8]
    simp only []
    go_wp2_with (fail)
    refine (do_any w.heap.size p kv4 vv4 _ ⟨1, key, 0, 0, 0⟩ _ (HM4.out.below (by ((repeat' (first | exact Below.refl _ _ | assumption | (refine Below_alloc ?_ ?_ _) | (refine Below_ext ?_ ?_ _ _) | (refine Below_setCell ?_ _ _ _ ?_) | apply Below.drew | refine Below_drewN ?_ _)) <;> first | done | (simp; done) | (simp; omega)))) (by omega)).mono ?_
    intro e w9 hD
    obtain ⟨kv9, vv9, a9, c9, rfl, hM9, hR9, hk9, hf9⟩ := done_outE e10 e9 hD
    clear hD
    have HM9 := Lib.hid hM9
    have hfield := field_res
    have HF9 := Lib.hid hf9
    have HK9 := Lib.hid hk9
    clear hM9 hf9 hR9 hk9
    simp only []
    go_wp2_with (fail)
    refine (do_any w.heap.size p kv9 vv9 _ ⟨3, key, 0, 0, 0⟩ _ HM9.out (by omega)).mono ?_
    intro e w10 hD
    obtain ⟨kv10, vv10, a10, c10, rfl, hM10, hR10, hk10, hf10⟩ := done_outE rfl rfl hD
    clear hD hM10 hf10 hR10
    have HK10 := Lib.hid hk10
    clear hk10
    rw [e11]
    simp only []
    go_wp2_with (fail)
    refine (HA _).mono ?_
    rintro e w11 ⟨rfl, hb11⟩
    have HB11 := Lib.hid hb11
    clear hb11
    simp only []
    go_wp2_with (fail)
    go_ret
    have step : ∀ {W W' : World} {p : Nat} {kv vv : Value} {m : List PairD}, MapAt w.heap.size W p kv vv m → Kp (foot p kv vv) W W' → Below w.heap.size w W → Below w.heap.size w W' := fun hm hk hb => hb.trans (hk.below hb.size (fun k h => (hm.foot_lt h).2))
    have b0 : Below w.heap.size w (w.ext E nx) := (by ((repeat' (first | exact Below.refl _ _ | assumption | (refine Below_alloc ?_ ?_ _) | (refine Below_ext ?_ ?_ _ _) | (refine Below_setCell ?_ _ _ _ ?_) | apply Below.drew | refine Below_drewN ?_ _)) <;> first | done | (simp; done) | (simp; omega)))
    have b1 := step hM HK1.out b0
    have s1 := b1.size
    have b2 := step HM1.out HK2.out b1
    have s2 := b2.size
    have b3 := step (HM2.out.below (by ((repeat' (first | exact Below.refl _ _ | assumption | (refine Below_alloc ?_ ?_ _) | (refine Below_ext ?_ ?_ _ _) | (refine Below_setCell ?_ _ _ _ ?_) | apply Below.drew | refine Below_drewN ?_ _)) <;> first | done | (simp; done) | (simp; omega)))) HK3.out (by ((repeat' (first | exact Below.refl _ _ | assumption | (refine Below_alloc ?_ ?_ _) | (refine Below_ext ?_ ?_ _ _) | (refine Below_setCell ?_ _ _ _ ?_) | apply Below.drew | refine Below_drewN ?_ _)) <;> first | done | (simp; done) | (simp; omega)))
    have s3 := b3.size
    have b4 := step (HM3.out.below (by ((repeat' (first | exact Below.refl _ _ | assumption | (refine Below_alloc ?_ ?_ _) | (refine Below_ext ?_ ?_ _ _) | (refine Below_setCell ?_ _ _ _ ?_) | apply Below.drew | refine Below_drewN ?_ _)) <;> first | done | (simp; done) | (simp; omega)))) HK4.out (by ((repeat' (first | exact Below.refl _ _ | assumption | (refine Below_alloc ?_ ?_ _) | (refine Below_ext ?_ ?_ _ _) | (refine Below_setCell ?_ _ _ _ ?_) | apply Below.drew | refine Below_drewN ?_ _)) <;> first | done | (simp; done) | (simp; omega)))
    have s4 := b4.size
    have b9 := step (HM4.out.below (by ((repeat' (first | exact Below.refl _ _ | assumption | (refine Below_alloc ?_ ?_ _) | (refine Below_ext ?_ ?_ _ _) | (refine Below_setCell ?_ _ _ _ ?_) | apply Below.drew | refine Below_drewN ?_ _)) <;> first | done | (simp; done) | (simp; omega)))) HK9.out (by ((repeat' (first | exact Below.refl _ _ | assumption | (refine Below_alloc ?_ ?_ _) | (refine Below_ext ?_ ?_ _ _) | (refine Below_setCell ?_ _ _ _ ?_) | apply Below.drew | refine Below_drewN ?_ _)) <;> first | done | (simp; done) | (simp; omega)))
    have s9 := b9.size
    have b10 := step HM9.out HK10.out b9
    have s10 := b10.size
    exact ⟨by rfl, b10.trans (HB11.out.mono s10)⟩
  · have hd : decide ((100 : Int) < (l.length : Int)) = true := decide_eq_true (by omega)
    go_enter Try.func7, Try.ntmps7
    go_wp2_with (fail)
    refine (HA _).mono ?_
    rintro e w11 ⟨rfl, hb11⟩
    simp only []
    go_wp2_with (fail)
    go_ret
    exact ⟨by rfl, hb11⟩
end Go.Proofs.Ytofhaechpllaoaa
