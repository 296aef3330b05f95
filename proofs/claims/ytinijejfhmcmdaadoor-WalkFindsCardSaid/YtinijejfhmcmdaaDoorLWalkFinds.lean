/- The law WalkFinds returns true for every configuration, every writes, every key, slow or not, where strings.asciiSpace reads as its initialiser lays it; the row and its tied card. -/
import Derived.Test.YtinijejfhmcmdaaDoorCards
import Derived.Test.YtinijejfhmcmdaaDoorU5
set_option linter.all false
set_option maxRecDepth 100000
namespace Go.Proofs.YtinijejfhmcmdaaDoor.LWalkFinds
open Go Go.RowKit Go.WideShapes Go.ChangeShapes Go.Proofs.YtinijejfhmcmdaaDoor.Ex Go.Proofs.YtinijejfhmcmdaaDoor.Lw Go.Proofs.YtinijejfhmcmdaaDoor.LaidD
theorem mixed : Tryd.prog.follows .mixedOrders = true := by kernel_rfl
def ctC : List CT := [.sc (.int .i64), .sc (.int .i64), .sc (.int .i64), .sc (.int .i64), .sc (.int .i64)]
abbrev rW2 : CT := .rw 32 [.int .i64, .int .u64]
theorem wf_inU {n : Int} (h : (Lit.int .u64 n).wf = true) : inU n = true := by
 simp only [Lit.wf, Bool.and_eq_true, decide_eq_true_eq] at h
 have h1 : IntKind.min .u64 = 0 := by decide
 have h2 : IntKind.max .u64 = 18446744073709551615 := by decide
 rw [h1, h2] at h
 simp only [inU, yAnd_t, yLe_t, yLt_t]
 omega
theorem conf_open {ds : List Dc} (h : DcKs ctC ds) : ∃ s t f l p : Int, ds = [.v (.y .i64 s), .v (.y .i64 t), .v (.y .i64 f), .v (.y .i64 l), .v (.y .i64 p)] := by
 obtain ⟨_, _, rfl, ⟨_, ⟨n1, rfl, _⟩, rfl⟩, _, _, rfl, ⟨_, ⟨n2, rfl, _⟩, rfl⟩, _, _, rfl, ⟨_, ⟨n3, rfl, _⟩, rfl⟩, _, _, rfl, ⟨_, ⟨n4, rfl, _⟩, rfl⟩, _, _, rfl, ⟨_, ⟨n5, rfl, _⟩, rfl⟩, rfl⟩ := h
 exact ⟨n1, n2, n3, n4, n5, rfl⟩
theorem walk {W : World} (hg : GW W) {cs ct cf cl cp : Int} {mn : Bool} {m : Nat} {a b : Nat → Int} {key : Int} {slow : Bool} {us : List Value} (hk : inU key = true) (hb : ∀ i, i < m → inU (b i) = true)
   (h : AV.RL (Mw W) (aWf cs ct cf cl cp mn m a b key slow) us) : Calls Tryd.prog 3 us.toArray W fun e w' => e = .returned (.bool true) ∧ Below W.heap.size W w' := by
 cases hr : rightC cs ct cf cl cp with
 | false =>
   obtain ⟨q, hm⟩ : ∃ q : Nat, wrongC cs ct cf cl cp = Int.ofNat q := by
     have h1 := rightC_off.1 hr
     have h2 : 0 ≤ wrongC cs ct cf cl cp := by
       unfold wrongC
       (repeat' split) <;> omega
     exact ⟨(wrongC cs ct cf cl cp).toNat, by rw [Int.ofNat_eq_natCast]; omega⟩
   exact law_callsP mixed (smL_ok (lWfF_ok q mixed)) hg h (@goalWfF_ok q cs ct cf cl cp mn m a b key slow (yEq_t.mpr hm))
 | true => exact law_callsP mixed (smL_ok (lWf_ok mixed)) hg h (@goalWf_ok cs ct cf cl cp mn m a b key slow _ _ hr hk hb rfl rfl)
theorem calls {W : World} (hg : GW W) {d0 : List Dc} {d1 d2 d3 : Dc} {v0 v1 v2 v3 : Value} (r0 : DaR W (.agg (ctC.map CT.cs)) (.agg d0) v0) (k0 : DcKs ctC d0) (r1 : DaR W (.cell rW2.cs) (.cell d1) v1) (k1 : DcK rW2 d1)
   (r2 : DaR W (.cell none) (.cell d2) v2) (k2 : DcK (.sc (.int .u64)) d2) (r3 : DaR W (.cell none) (.cell d3) v3) (k3 : DcK (.sc .bool) d3) :
   Calls Tryd.prog 3 #[v0, v1, v2, v3] W fun e w' => e = .returned (.bool true) ∧ Below W.heap.size W w' := by
 obtain ⟨cs, ct, cf, cl, cp, rfl⟩ := conf_open k0
 obtain ⟨mn, m, V, _, _, hV, rfl⟩ := k1
 obtain ⟨_, ⟨key, rfl, wk⟩, rfl⟩ := k2
 obtain ⟨_, ⟨slow, rfl⟩, rfl⟩ := k3
 obtain ⟨u0, rfl, r0⟩ := r0
 have hcs : ∀ c ∈ ctC.map CT.cs, c = none ∨ c = cU := fun c hc => by
   simp only [ctC, List.map_cons, List.map_nil, CT.cs, List.mem_cons, List.not_mem_nil, or_false] at hc
   rcases hc with h | h | h | h | h <;> exact .inl h
 have q0 := dcs_lstl hg (fun g c h => gl_not h) r0 hcs (fun d hc => by
   simp only [List.mem_cons, List.not_mem_nil, or_false] at hc
   rcases hc with rfl | rfl | rfl | rfl | rfl <;> exact trivial)
 have q1 := DcR_lst2 (t := 32) hg (fun g c h => gl_not h) (x := fun i => Ex.intOf (V i 0)) (y := fun i => Ex.intOf (V i 1)) r1
 have hb : ∀ i, i < m → inU (Ex.intOf (V i 1)) = true := fun i hi => by
   obtain ⟨n, e, w⟩ := hV i hi 1 (.int .u64) rfl
   rw [e]; exact wf_inU w
 exact walk hg (us := [.agg u0.toArray, v1, v2, v3]) (cs := cs) (ct := ct) (cf := cf) (cl := cl) (cp := cp) (mn := mn) (m := m) (a := fun i => Ex.intOf (V i 0)) (b := fun i => Ex.intOf (V i 1)) (key := key) (slow := slow) (wf_inU wk) hb
   ⟨_, _, ⟨u0, q0, rfl⟩, ⟨_, _, q1, ⟨_, _, dc_cell r2, ⟨_, _, dc_cell r3, rfl, rfl⟩, rfl⟩, rfl⟩, rfl⟩
theorem lifted (os : Os) (started : os.Started) (H : Type) (enc : TypeId × Value → H) :
   ReturnsInHanded {} Tryd.checked os 3 .any (fun w args => (Rows.walkFindsSpec.pre enc Tryd.prog Tryd.f3 [] false w args ∧ laidMetH Tryd.prog laid2 w) ∧ sizedMet enc Tryd.prog Tryd.f3 (OpenSpec.ofChange Rows.walkFindsSpec) false w args)
     (Rows.walkFindsSpec.post enc Tryd.prog Tryd.f3 false true false false) := by
 refine returnsInHanded_of_change_and (C := Tryd.checked) (X := fun w _ => laidMetH Tryd.prog laid2 w) (fun _ _ _ hh h => h.of_heap hh) own started (by kernel_rfl) Tryd.func3
   (ChangeSpec.witness_shaped (enc := enc) (C := Tryd.checked) (os := os) (X := fun w _ => laidMetH Tryd.prog laid2 w) false (World.doorLaid Tryd.prog 4000 os) #[.agg #[.int .i64 0, .int .i64 0, .int .i64 0, .int .i64 0, .int .i64 0], .slice none 0 0, .int .u64 0, .bool false] 8 rfl (shaped os _) (by kernel_rfl) (by kernel_rfl) (by kernel_rfl) (door_met os _)) ?_
 intro W base args ds gs before hval0 hW _ _ hL _
 have hval : ∀ (j : Nat) t v, Tryd.f3.params[j]? = some t → args[j]? = some v → Value.okWide Tryd.prog W .any base t v := hval0
 have hW' := hW
 obtain ⟨p, q, hA0, hV, rfl, hfz, hnd⟩ := hW
 have hA : DataW.TrodAll enc Tryd.prog W 0 (fun _ => true) true Tryd.f3.params.toList args.toList ds p := hA0
 rw [Tryd.params3] at hA hval
 obtain ⟨v0, v1, v2, v3, d0, d1, d2, d3, p0, p1, p2, p3, rfl, rfl, rfl, h0, h1, h2, h3⟩ := trodAll_four hA
 obtain ⟨rfl, rfl⟩ := trodVars_none hV
 have ct0 : ctsOf Tryd.prog 10 23 = some ctC := by kernel_rfl
 have ct1 : ctsOf Tryd.prog 10 24 = some [rW2] := by kernel_rfl
 have ct2 : ctsOf Tryd.prog 10 25 = some [.sc (.int .u64)] := by kernel_rfl
 have ct3 : ctsOf Tryd.prog 10 4 = some [.sc .bool] := by kernel_rfl
 obtain ⟨e0, r0, k0⟩ := par_aggN ct0 Tryd.underlying23 (by kernel_rfl) (hval 0 23 v0 rfl rfl) h0
 obtain ⟨e1, r1, k1⟩ := par_cellN (c := rW2) ct1 (by obtain ⟨a, n, c, rfl⟩ := okWide_slice Tryd.underlying24 (hval 1 24 v1 rfl rfl); rfl) h1
 obtain ⟨e2, r2, k2⟩ := par_cellN (c := .sc (.int .u64)) ct2 (by obtain ⟨n, rfl⟩ := okWide_int Tryd.underlying25 (hval 2 25 v2 rfl rfl); rfl) h2
 obtain ⟨e3, r3, k3⟩ := par_cellN (c := .sc .bool) ct3 (by obtain ⟨n, rfl⟩ := okWide_bool Tryd.underlying4 (hval 3 4 v3 rfl rfl); rfl) h3
 refine (calls (gw hL) r0 k0 r1 k1 r2 k2 r3 k3).mono fun e W' ⟨he, hb⟩ => ?_
 subst he
 exact ⟨_, rfl, law_post hW' rfl rfl Tryd.underlying4 rfl laidOut (by
   rw [Tryd.params3]
   intro t ht
   simp only [List.mem_cons, List.not_mem_nil, or_false] at ht
   rcases ht with rfl | rfl | rfl | rfl <;> exact ⟨by kernel_rfl, of_decide_eq_true (by kernel_rfl)⟩) hb⟩
theorem row : Rows.WalkFindsSaid :=
 OpenClaim.holds_of_wide 3 Tryd.f3 rfl rfl rfl rfl rfl rfl rfl ⟨rfl, rfl, rfl, rfl, rfl⟩ rfl rfl rfl rfl rfl (by kernel_rfl) Tryd.func3 (by kernel_rfl)
   (of_decide_eq_true (by kernel_rfl)) (by unfold Func.isWrapper; first | (rw [if_pos (by decide +kernel)]; kernel_rfl) | (rw [if_neg (by decide +kernel)]; exact ⟨rfl, rfl⟩))
   (fun os started H enc _ => lifted os started H enc)
theorem holds : Rows.WalkFindsCardSaid :=
 Claim7.holds_tied_plain_at .later [] [.listed, .data] true Rows.walkFindsCard.stood.harness false
   row (fun _ h => by cases h) (by kernel_rfl) (fun _ h => by cases h) walkFinds_row_tie rfl ⟨rfl, rfl⟩ (by kernel_rfl) rfl
   (fun f fn hf hfn => by
     obtain rfl : f = 3 := Option.some.inj ((show Tryd.prog.funcNamed "gleaning/gleaninglaw20.WalkFinds" = some 3 by kernel_rfl).symm.trans hf) |>.symm
     obtain rfl : fn = Tryd.f3 := (Option.some.inj (Tryd.func3.symm.trans hfn)).symm
     exact ⟨by kernel_rfl, fun j t ht => by
       rw [Tryd.params3] at ht
       have hm : t ∈ [23, 24, 25, 4] := by simpa using Array.mem_of_getElem? ht
       have hall : ([23, 24, 25, 4].all fun u => !Tryd.prog.wantsStandIn u) = true := by kernel_rfl
       exact (show Tryd.prog.wantsStandIn t = false by simpa using List.all_eq_true.1 hall t hm)⟩)
   (by kernel_rfl)
#print axioms holds
end Go.Proofs.YtinijejfhmcmdaaDoor.LWalkFinds
