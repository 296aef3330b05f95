/- The law EditPlays over what its functions do. -/
import Derived.Test.YtlfehgagnelbhaaGreatDoorCEq
namespace Go.Proofs.YtlfehgagnelbhaaGreatDoor.Ex
open Go

set_option maxRecDepth 100000 in
theorem smLnT (hm : Tryz.prog.follows .mixedOrders = true) : SmCall Tryz.prog 7 (fun args h => (ctX [sConf] sConf fLnT args h).sel) :=
  ctX_ok hm (smL_ok (lEd_ok hm)) (fun ds r post h => by
    unfold fLnT at h
    split at h
    · rename_i s t f l p
      simp only [Option.some.injEq, Prod.mk.injEq] at h
      obtain ⟨h1, rfl, rfl⟩ := h
      refine ⟨fun _ => none, 1000, ?_⟩
      have h2 := @goalLn_ok
      unfold goalLn at h2
      have h3 := @h2 s t f l p
      rw [show dLn s t f l p = dCf s t f l p from by unfold dLn; rw [h1]; rfl] at h3
      exact h3
    · cases h)
set_option maxRecDepth 100000 in
theorem smLnF (hm : Tryz.prog.follows .mixedOrders = true) : SmCall Tryz.prog 7 (fun args h => (ctX [sConf] sConf fLnF args h).sel) :=
  ctX_ok hm (smL_ok (lEd_ok hm)) (fun ds r post h => by
    unfold fLnF at h
    split at h
    · rename_i s t f l p
      simp only [Option.some.injEq, Prod.mk.injEq] at h
      obtain ⟨h1, rfl, rfl⟩ := h
      refine ⟨fun _ => none, 1000, ?_⟩
      have h2 := @goalLnF_ok
      unfold goalLnF at h2
      exact @h2 s t f l p h1
    · cases h)
set_option maxRecDepth 100000 in
theorem smNwPT (hm : Tryz.prog.follows .mixedOrders = true) : SmCall Tryz.prog 6 (fun args h => (ctX [sConf, sSpot, rW4] sEdP fNwPT args h).sel) :=
  ctX_ok hm (smL_ok (lEd_ok hm)) (fun ds r post h' => by
    unfold fNwPT at h'
    split at h'
    · rename_i ls lt lf ll lp sp sv sn si h v n inr dp kd ix key val
      simp only [Option.some.injEq, Prod.mk.injEq] at h'
      obtain ⟨h1, rfl, rfl⟩ := h'
      refine ⟨fun _ => none, 1000, ?_⟩
      obtain ⟨h1, h4⟩ := yAnd_t.mp h1
      have h2 := @goalNwP_ok
      unfold goalNwP at h2
      have h3 := @h2 sp sv sn si h v n inr dp ls lt lf ll lp kd ix key val h1
      rw [show dNwP (okNw h n kd inr ls lf) sp sv sn si h v n inr dp ls lt lf ll lp kd ix key val = dEdP sp sv sn si inr dp ls lt lf ll lp (E0 h v n kd ix key val) 0 0 0 0 from by unfold dNwP; rw [h4]; rfl] at h3
      exact h3
    · cases h')
set_option maxRecDepth 100000 in
theorem smNwPF (hm : Tryz.prog.follows .mixedOrders = true) : SmCall Tryz.prog 6 (fun args h => (ctX [sConf, sSpot, rW4] sEdP fNwPF args h).sel) :=
  ctX_ok hm (smL_ok (lEd_ok hm)) (fun ds r post h' => by
    unfold fNwPF at h'
    split at h'
    · rename_i ls lt lf ll lp sp sv sn si h v n inr dp kd ix key val
      simp only [Option.some.injEq, Prod.mk.injEq] at h'
      obtain ⟨h1, rfl, rfl⟩ := h'
      refine ⟨fun _ => none, 1000, ?_⟩
      obtain ⟨h1, h4⟩ := yAnd_t.mp h1
      have h2 := @goalNwPF_ok
      unfold goalNwPF at h2
      exact @h2 sp sv sn si h v n inr dp ls lt lf ll lp kd ix key val h1 h4
    · cases h')
set_option maxRecDepth 100000 in
theorem smNwRT (hm : Tryz.prog.follows .mixedOrders = true) : SmCall Tryz.prog 8 (fun args h => (ctX [sConf, sWk20, .sc, .sc, .sc, .sc] sEdR fNwRT args h).sel) :=
  ctX_ok hm (smL_ok (lEd_ok hm)) (fun ds r post h' => by
    unfold fNwRT at h'
    split at h'
    · rename_i cs ct cf cl cp sp sv sn si h v n inr dp th mo wkey slow chain at_ out sk sl sh skey child mn ml m1 m2 m3 kd ix key val
      simp only [Option.some.injEq, Prod.mk.injEq] at h'
      obtain ⟨h1, rfl, rfl⟩ := h'
      refine ⟨fun _ => none, 1000, ?_⟩
      obtain ⟨h1, h4⟩ := yAnd_t.mp h1
      have h2 := @goalNwR_ok
      unfold goalNwR at h2
      have h3 := @h2 sp sv sn si h v n inr dp th mo wkey slow chain at_ out sk sl sh skey child mn ml m1 m2 m3 cs ct cf cl cp kd ix key val h1
      rw [show dNwR (okNw h n kd inr cs cf) h v n kd ix key val = dEdR (E0 h v n kd ix key val) 0 0 0 from by unfold dNwR; rw [h4]; rfl] at h3
      exact h3
    · cases h')
set_option maxRecDepth 100000 in
theorem smNwRF (hm : Tryz.prog.follows .mixedOrders = true) : SmCall Tryz.prog 8 (fun args h => (ctX [sConf, sWk20, .sc, .sc, .sc, .sc] sEdR fNwRF args h).sel) :=
  ctX_ok hm (smL_ok (lEd_ok hm)) (fun ds r post h' => by
    unfold fNwRF at h'
    split at h'
    · rename_i cs ct cf cl cp sp sv sn si h v n inr dp th mo wkey slow chain at_ out sk sl sh skey child mn ml m1 m2 m3 kd ix key val
      simp only [Option.some.injEq, Prod.mk.injEq] at h'
      obtain ⟨h1, rfl, rfl⟩ := h'
      refine ⟨fun _ => none, 1000, ?_⟩
      obtain ⟨h1, h4⟩ := yAnd_t.mp h1
      have h2 := @goalNwRF_ok
      unfold goalNwRF at h2
      exact @h2 sp sv sn si h v n inr dp th mo wkey slow chain at_ out sk sl sh skey child mn ml m1 m2 m3 cs ct cf cl cp kd ix key val h1 h4
    · cases h')
theorem smWrongT (hm : Tryz.prog.follows .mixedOrders = true) : SmCall Tryz.prog 10 (fun args h => (ctS gConf fWrongT args h).sel) :=
  ctS_weak (smWrong hm) (fun ds a h => by
    unfold fWrongT at h
    split at h
    · rename_i s t f l p
      simp only [Option.some.injEq, Prod.mk.injEq] at h
      obtain ⟨h1, rfl⟩ := h
      refine ⟨_, rfl, fun M u hu => ?_⟩
      have e : wrongC s t f l p = -1 := by
        have h2 := rightC_iff.1 h1
        unfold wrongC
        (repeat' split) <;> omega
      rw [e] at hu
      exact hu
    · cases h)
set_option maxRecDepth 100000 in
theorem up23 : isY true (callS Tryz.prog noSm 1000 5 []) = true := by kernel_rfl
theorem awake23 (hm : Tryz.prog.follows .mixedOrders = true) : SmCall Tryz.prog 5 (smB true) :=
  smBool_ok Tryz.func5 (by kernel_rfl) (by kernel_rfl) fun w hw => callY_calls hm noSm_ok up23 (us := []) rfl w hw
theorem lEpT_ok (hm : Tryz.prog.follows .mixedOrders = true) : SmAll Tryz.prog lEpT :=
  ⟨smLnT hm, smNwPT hm, smNwRT hm, smWrongT hm, smDnP hm, smWtP hm, smWtR hm, smOlR hm, smSM hm, smSI hm, smTkP hm, smTkR hm, smSl16 hm @goalSl16_ok, smSl16 hm @goalSl16R_ok, awake23 hm, trivial⟩
theorem lEpF1_ok (hm : Tryz.prog.follows .mixedOrders = true) : SmAll Tryz.prog lEpF1 := ⟨smLnF hm, smNwPF hm, smNwR hm, smWrong hm, smSM hm, awake23 hm, trivial⟩
theorem lEpF2_ok (hm : Tryz.prog.follows .mixedOrders = true) : SmAll Tryz.prog lEpF2 := ⟨smLnT hm, smNwPF hm, smNwRF hm, smWrongT hm, smSM hm, awake23 hm, trivial⟩
end Go.Proofs.YtlfehgagnelbhaaGreatDoor.Ex
