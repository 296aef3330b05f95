/- The law BoundMost returns true for every list of configurations, where strings.asciiSpace reads as its initialiser lays it; the row and its tied card. -/
import Derived.Test.YtbjkadagacdniaaGreatDoorLaidG
import Derived.Test.YtbjkadagacdniaaGreatDoorCards
import Derived.Test.YtbjkadagacdniaaGreatDoorRunB
import Derived.Test.YtbjkadagacdniaaGreatDoorCGreat
namespace Go.Proofs.YtbjkadagacdniaaGreatDoor.LBoundMost
open Go Go.RowKit Go.WideShapes Go.ChangeShapes Go.Proofs.YtbjkadagacdniaaGreatDoor.Ex Go.Proofs.YtbjkadagacdniaaGreatDoor.Lw Go.Proofs.YtbjkadagacdniaaGreatDoor.LaidD

theorem mixed : Tryz.prog.follows .mixedOrders = true := by kernel_rfl
set_option maxRecDepth 100000 in
theorem smOk : SmOK Tryz.prog (smL lLaw) :=
  smL_ok ⟨smMost mixed goalMost1_ok, smMost mixed goalMost2_ok, smGreat mixed, smBool_ok Tryz.func4 (by kernel_rfl) (by kernel_rfl) fun w hw => callN_calls mixed RunB.up (us := []) rfl w hw, trivial⟩
abbrev kConf : List CK := [.int .i64, .int .i64, .int .i64, .int .i64, .int .i64]
set_option maxRecDepth 100000 in
theorem calls {W : World} (hg : GW W) {d : Dc} {v : Value} (hd : DaR W (.cell cConf) (.cell d) v) (hk : DcK (.rw 26 kConf) d) :
    Calls Tryz.prog 3 #[v] W fun e w' => e = .returned (.bool true) ∧ Below W.heap.size W w' := by
  obtain ⟨nil, n, V, _, _, _, rfl⟩ := hk
  exact law_callsG mixed smOk hg (gs := gConfs) (ds := dConfs nil n (fun i => Ex.intOf (V i 0)) (fun i => Ex.intOf (V i 1)) (fun i => Ex.intOf (V i 2)) (fun i => Ex.intOf (V i 3)) (fun i => Ex.intOf (V i 4))) (us := [v]) ⟨_, _, _, _, rfl, rfl, hd, rfl, rfl⟩ (by show 1 < 4294967296; omega)
    (goalBoundMost_ok nil n (fun i => Ex.intOf (V i 0)) (fun i => Ex.intOf (V i 1)) (fun i => Ex.intOf (V i 2)) (fun i => Ex.intOf (V i 3)) (fun i => Ex.intOf (V i 4)))

set_option maxRecDepth 100000 in
theorem lifted (os : Os) (started : os.Started) (H : Type) (enc : TypeId × Value → H) :
    ReturnsInHanded {} Tryz.checked os 3 .any (fun w args => (Rows.boundMostSpec.pre enc Tryz.prog Tryz.f3 [] false w args ∧ laidMetH Tryz.prog laid2 w) ∧ sizedMet enc Tryz.prog Tryz.f3 (OpenSpec.ofChange Rows.boundMostSpec) false w args)
      (Rows.boundMostSpec.post enc Tryz.prog Tryz.f3 false true false false) := by
  refine returnsInHanded_of_change_and (C := Tryz.checked) (X := fun w _ => laidMetH Tryz.prog laid2 w) (fun _ _ _ hh h => h.of_heap hh) own started (by kernel_rfl) Tryz.func3
    (ChangeSpec.witness_shaped (enc := enc) (C := Tryz.checked) (os := os) (X := fun w _ => laidMetH Tryz.prog laid2 w) false (World.doorLaid Tryz.prog 4000 os) #[.slice none 0 0] 8 rfl (shaped os _) (by kernel_rfl) (by kernel_rfl) (by kernel_rfl) (door_met os _)) ?_
  intro W base args ds gs before hval0 hW _ _ hL _
  have hval : ∀ (j : Nat) t v, Tryz.f3.params[j]? = some t → args[j]? = some v → Value.okWide Tryz.prog W .any base t v := hval0
  have hW' := hW
  obtain ⟨p, q, hA0, hV, rfl, hfz, hnd⟩ := hW
  have hA : DataW.TrodAll enc Tryz.prog W 0 (fun _ => true) true Tryz.f3.params.toList args.toList ds p := hA0
  rw [Tryz.params3] at hA hval
  obtain ⟨v0, d0, rfl, rfl, h0⟩ := trodAll_one hA
  obtain ⟨rfl, rfl⟩ := trodVars_none hV
  have hs : v0.cells = #[v0] := by obtain ⟨a, n, c, rfl⟩ := okWide_slice Tryz.underlying22 (hval 0 22 v0 rfl rfl); rfl
  have ct : ctsOf Tryz.prog 10 22 = some [.rw 26 kConf] := by kernel_rfl
  obtain ⟨d, r1, k1⟩ := par_cellG (gw hL) (fun e ks hm k hk => by
    simp only [List.mem_singleton, CT.rw.injEq] at hm
    obtain ⟨rfl, rfl⟩ := hm
    simp at hk; subst hk; exact glk_i64) ct hs h0
  refine (calls (gw hL) r1 k1).mono fun e W' ⟨he, hb⟩ => ?_
  subst he
  exact ⟨_, rfl, law_post hW' rfl rfl Tryz.underlying4 rfl laidOut (by
    rw [Tryz.params3]
    intro t ht
    simp only [List.mem_cons, List.not_mem_nil, or_false] at ht
    subst ht; exact ⟨by kernel_rfl, of_decide_eq_true (by kernel_rfl)⟩) hb⟩

end Go.Proofs.YtbjkadagacdniaaGreatDoor.LBoundMost
