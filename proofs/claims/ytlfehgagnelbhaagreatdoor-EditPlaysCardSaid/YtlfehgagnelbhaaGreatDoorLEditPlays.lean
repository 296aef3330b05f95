/- The law EditPlays returns true for every configuration, spot, change and told words, where strings.asciiSpace reads as its initialiser lays it; the row and its tied card. -/
import Derived.Test.YtlfehgagnelbhaaGreatDoorLaidE
import Derived.Test.YtlfehgagnelbhaaGreatDoorCards
import Derived.Test.YtlfehgagnelbhaaGreatDoorCEr
namespace Go.Proofs.YtlfehgagnelbhaaGreatDoor.LEditPlays
open Go Go.RowKit Go.WideShapes Go.ChangeShapes Go.Proofs.YtlfehgagnelbhaaGreatDoor.Ex Go.Proofs.YtlfehgagnelbhaaGreatDoor.Lw Go.Proofs.YtlfehgagnelbhaaGreatDoor.LaidD

theorem mixed : Tryz.prog.follows .mixedOrders = true := by kernel_rfl
def ctC : List CT := [.sc (.int .i64), .sc (.int .i64), .sc (.int .i64), .sc (.int .i64), .sc (.int .i64)]
def ctSp : List CT := [.sc (.int .u64), .sc (.int .u64), .sc (.int .i64), .sc (.int .i64), .sc (.int .u64), .sc (.int .u64), .sc (.int .i64), .sc .bool, .sc (.int .i64)]
def ctCh : List CT := [.sc (.int .i64), .sc (.int .i64), .sc (.int .u64), .sc (.int .u64)]
abbrev rU : CT := .rw 24 [.int .u64]
theorem wf_inU {n : Int} (h : (Lit.int .u64 n).wf = true) : inU n = true := by
  simp only [Lit.wf, Bool.and_eq_true, decide_eq_true_eq] at h
  have h1 : IntKind.min .u64 = 0 := by decide
  have h2 : IntKind.max .u64 = 18446744073709551615 := by decide
  rw [h1, h2] at h
  simp only [inU, yAnd_t, yLe_t, yLt_t]
  omega
theorem conf_open {ds : List Dc} (h : DcKs ctC ds) : ∃ s t f l p : Int, ds = [.v (.y .i64 s), .v (.y .i64 t), .v (.y .i64 f), .v (.y .i64 l), .v (.y .i64 p)] := by
  obtain ⟨_, _, rfl, ⟨_, ⟨n1, rfl, _⟩, rfl⟩, _, _, rfl, ⟨_, ⟨n2, rfl, _⟩, rfl⟩, _, _, rfl, ⟨_, ⟨n3, rfl, _⟩, rfl⟩, _, _, rfl, ⟨_, ⟨n4, rfl, _⟩, rfl⟩, _, _, rfl, ⟨_, ⟨n5, rfl, _⟩, rfl⟩, rfl⟩ := h
  exact ⟨n1, n2, n3, n4, n5, rfl⟩
theorem spot_open {ds : List Dc} (hx : DcKs ctSp ds) : ∃ (sp sv sn si h v n : Int) (inr : Bool) (dp : Int), ds = [.v (.y .u64 sp), .v (.y .u64 sv), .v (.y .i64 sn), .v (.y .i64 si), .v (.y .u64 h), .v (.y .u64 v), .v (.y .i64 n), .v (.yb inr), .v (.y .i64 dp)] ∧ inU h = true ∧ inU v = true := by
  obtain ⟨_, _, rfl, ⟨_, ⟨n1, rfl, _⟩, rfl⟩, _, _, rfl, ⟨_, ⟨n2, rfl, _⟩, rfl⟩, _, _, rfl, ⟨_, ⟨n3, rfl, _⟩, rfl⟩, _, _, rfl, ⟨_, ⟨n4, rfl, _⟩, rfl⟩, _, _, rfl, ⟨_, ⟨n5, rfl, w5⟩, rfl⟩, _, _, rfl, ⟨_, ⟨n6, rfl, w6⟩, rfl⟩, _, _, rfl, ⟨_, ⟨n7, rfl, _⟩, rfl⟩, _, _, rfl, ⟨_, ⟨b, rfl⟩, rfl⟩, _, _, rfl, ⟨_, ⟨n8, rfl, _⟩, rfl⟩, rfl⟩ := hx
  exact ⟨n1, n2, n3, n4, n5, n6, n7, b, n8, rfl, wf_inU w5, wf_inU w6⟩
theorem chg_open {ds : List Dc} (h : DcKs ctCh ds) : ∃ kd ix key val : Int, ds = [.v (.y .i64 kd), .v (.y .i64 ix), .v (.y .u64 key), .v (.y .u64 val)] := by
  obtain ⟨_, _, rfl, ⟨_, ⟨n1, rfl, _⟩, rfl⟩, _, _, rfl, ⟨_, ⟨n2, rfl, _⟩, rfl⟩, _, _, rfl, ⟨_, ⟨n3, rfl, _⟩, rfl⟩, _, _, rfl, ⟨_, ⟨n4, rfl, _⟩, rfl⟩, rfl⟩ := h
  exact ⟨n1, n2, n3, n4, rfl⟩
set_option maxRecDepth 100000 in
theorem calls {W : World} (hg : GW W) {d0 d1 d2 : List Dc} {d3 : Dc} {v0 v1 v2 v3 : Value} (r0 : DaR W (.agg (ctC.map CT.cs)) (.agg d0) v0) (k0 : DcKs ctC d0) (r1 : DaR W (.agg (ctSp.map CT.cs)) (.agg d1) v1) (k1 : DcKs ctSp d1)
    (r2 : DaR W (.agg (ctCh.map CT.cs)) (.agg d2) v2) (k2 : DcKs ctCh d2) (r3 : DaR W (.cell rU.cs) (.cell d3) v3) (k3 : DcK rU d3) :
    Calls Tryz.prog 3 #[v0, v1, v2, v3] W fun e w' => e = .returned (.bool true) ∧ Below W.heap.size W w' := by
  obtain ⟨cs, ct, cf, cl, cp, rfl⟩ := conf_open k0
  obtain ⟨sp, sv, sn, si, h, v, n, inr, dp, rfl, hh, hv⟩ := spot_open k1
  obtain ⟨kd, ix, key, val, rfl⟩ := chg_open k2
  obtain ⟨nil, m, V, _, _, _, rfl⟩ := k3
  have hd : DaRs W gEp (dEp cs ct cf cl cp sp sv sn si h v n inr dp kd ix key val nil m (fun i => Ex.intOf (V i 0))) [v0, v1, v2, v3] := ⟨_, _, _, _, rfl, rfl, r0, _, _, _, _, rfl, rfl, r1, _, _, _, _, rfl, rfl, r2, _, _, _, _, rfl, rfl, r3, rfl, rfl⟩
  cases hr : rightC cs ct cf cl cp with
  | false => exact law_callsG mixed (smL_ok (lEpF1_ok mixed)) hg hd (by show 1 < 4294967296; omega) (@goalEpF1_ok cs ct cf cl cp sp sv sn si h v n inr dp kd ix key val nil m (fun i => Ex.intOf (V i 0)) hh (yNot_t.mpr hr))
  | true =>
    cases hk : okNw h n kd inr cs cf with
    | false => exact law_callsG mixed (smL_ok (lEpF2_ok mixed)) hg hd (by show 1 < 4294967296; omega) (@goalEpF2_ok cs ct cf cl cp sp sv sn si h v n inr dp kd ix key val nil m (fun i => Ex.intOf (V i 0)) hh hr (yNot_t.mpr hk))
    | true => exact law_callsG mixed (smL_ok (lEpT_ok mixed)) hg hd (by show 1 < 4294967296; omega) (@goalEpT_ok cs ct cf cl cp sp sv sn si h v n inr dp kd ix key val nil m (fun i => Ex.intOf (V i 0)) hh hv hr hk)

set_option maxRecDepth 100000 in
theorem lifted (os : Os) (started : os.Started) (H : Type) (enc : TypeId × Value → H) :
    ReturnsInHanded {} Tryz.checked os 3 .any (fun w args => (Rows.editPlaysSpec.pre enc Tryz.prog Tryz.f3 [] false w args ∧ laidMetH Tryz.prog laid2 w) ∧ sizedMet enc Tryz.prog Tryz.f3 (OpenSpec.ofChange Rows.editPlaysSpec) false w args)
      (Rows.editPlaysSpec.post enc Tryz.prog Tryz.f3 false true false false) := by
  refine returnsInHanded_of_change_and (C := Tryz.checked) (X := fun w _ => laidMetH Tryz.prog laid2 w) (fun _ _ _ hh h => h.of_heap hh) own started (by kernel_rfl) Tryz.func3
    (ChangeSpec.witness_shaped (enc := enc) (C := Tryz.checked) (os := os) (X := fun w _ => laidMetH Tryz.prog laid2 w) false (World.doorLaid Tryz.prog 4000 os) #[.agg #[.int .i64 0, .int .i64 0, .int .i64 0, .int .i64 0, .int .i64 0], .agg #[.int .u64 0, .int .u64 0, .int .i64 0, .int .i64 0, .int .u64 0, .int .u64 0, .int .i64 0, .bool false, .int .i64 0], .agg #[.int .i64 0, .int .i64 0, .int .u64 0, .int .u64 0], .slice none 0 0] 8 rfl (shaped os _) (by kernel_rfl) (by kernel_rfl) (by kernel_rfl) (door_met os _)) ?_
  intro W base args ds gs before hval0 hW _ _ hL _
  have hval : ∀ (j : Nat) t v, Tryz.f3.params[j]? = some t → args[j]? = some v → Value.okWide Tryz.prog W .any base t v := hval0
  have hW' := hW
  obtain ⟨p, q, hA0, hV, rfl, hfz, hnd⟩ := hW
  have hA : DataW.TrodAll enc Tryz.prog W 0 (fun _ => true) true Tryz.f3.params.toList args.toList ds p := hA0
  rw [Tryz.params3] at hA hval
  obtain ⟨v0, v1, v2, v3, d0, d1, d2, d3, p0, p1, p2, p3, rfl, rfl, rfl, h0, h1, h2, h3⟩ := trodAll_four hA
  obtain ⟨rfl, rfl⟩ := trodVars_none hV
  have ct0 : ctsOf Tryz.prog 10 23 = some ctC := by kernel_rfl
  have ct1 : ctsOf Tryz.prog 10 26 = some ctSp := by kernel_rfl
  have ct2 : ctsOf Tryz.prog 10 28 = some ctCh := by kernel_rfl
  have ct3 : ctsOf Tryz.prog 10 29 = some [rU] := by kernel_rfl
  obtain ⟨e0, r0, k0⟩ := par_aggN ct0 Tryz.underlying23 (by kernel_rfl) (hval 0 23 v0 rfl rfl) h0
  obtain ⟨e1, r1, k1⟩ := par_aggN ct1 Tryz.underlying26 (by kernel_rfl) (hval 1 26 v1 rfl rfl) h1
  obtain ⟨e2, r2, k2⟩ := par_aggN ct2 Tryz.underlying28 (by kernel_rfl) (hval 2 28 v2 rfl rfl) h2
  obtain ⟨e3, r3, k3⟩ := par_cellN (c := rU) ct3 (by obtain ⟨a, n, c, rfl⟩ := okWide_slice Tryz.underlying29 (hval 3 29 v3 rfl rfl); rfl) h3
  refine (calls (gw hL) r0 k0 r1 k1 r2 k2 r3 k3).mono fun e W' ⟨he, hb⟩ => ?_
  subst he
  exact ⟨_, rfl, law_post hW' rfl rfl Tryz.underlying4 rfl laidOut (by
    rw [Tryz.params3]
    intro t ht
    simp only [List.mem_cons, List.not_mem_nil, or_false] at ht
    rcases ht with rfl | rfl | rfl | rfl <;> exact ⟨by kernel_rfl, of_decide_eq_true (by kernel_rfl)⟩) hb⟩

theorem row : Rows.EditPlaysSaid :=
  OpenClaim.holds_of_wide 3 Tryz.f3 rfl rfl rfl rfl rfl rfl rfl ⟨rfl, rfl, rfl, rfl, rfl⟩ rfl rfl rfl rfl rfl (by kernel_rfl) Tryz.func3 (by kernel_rfl)
    (of_decide_eq_true (by kernel_rfl)) (by unfold Func.isWrapper; first | (rw [if_pos (by decide +kernel)]; kernel_rfl) | (rw [if_neg (by decide +kernel)]; exact ⟨rfl, rfl⟩))
    (fun os started H enc _ => lifted os started H enc)
theorem holds : Rows.EditPlaysCardSaid :=
  Claim7.holds_tied_plain_at .later [] [.listed, .data] true Rows.editPlaysCard.stood.harness false
    row (fun _ h => by cases h) (by kernel_rfl) (fun _ h => by cases h) editPlays_row_tie rfl ⟨rfl, rfl⟩ (by kernel_rfl) rfl
    (fun f fn hf hfn => by
      obtain rfl : f = 3 := Option.some.inj ((show Tryz.prog.funcNamed "gleaning/gleaninglaw23.EditPlays" = some 3 by kernel_rfl).symm.trans hf) |>.symm
      obtain rfl : fn = Tryz.f3 := (Option.some.inj (Tryz.func3.symm.trans hfn)).symm
      exact ⟨by kernel_rfl, fun j t ht => by
        rw [Tryz.params3] at ht
        have hm : t ∈ [23, 26, 28, 29] := by simpa using Array.mem_of_getElem? ht
        have hall : ([23, 26, 28, 29].all fun u => !Tryz.prog.wantsStandIn u) = true := by kernel_rfl
        exact (show Tryz.prog.wantsStandIn t = false by simpa using List.all_eq_true.1 hall t hm)⟩)
    (by kernel_rfl)
#print axioms holds
end Go.Proofs.YtlfehgagnelbhaaGreatDoor.LEditPlays
