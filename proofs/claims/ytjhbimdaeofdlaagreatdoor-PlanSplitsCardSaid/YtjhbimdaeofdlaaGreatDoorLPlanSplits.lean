/- The law PlanSplits returns true for every parts, where strings.asciiSpace reads as its initialiser lays it; the row and its tied card. -/
import Derived.Test.YtjhbimdaeofdlaaGreatDoorCards
import Derived.Test.YtjhbimdaeofdlaaGreatDoorU7
import Derived.Test.YtjhbimdaeofdlaaGreatDoorU7
set_option linter.all false
set_option maxRecDepth 100000
set_option linter.all false
set_option maxRecDepth 100000
namespace Go.Proofs.YtjhbimdaeofdlaaGreatDoor.LPlanSplits
open Go Go.RowKit Go.WideShapes Go.ChangeShapes Go.Proofs.YtjhbimdaeofdlaaGreatDoor.Ex Go.Proofs.YtjhbimdaeofdlaaGreatDoor.Lw Go.Proofs.YtjhbimdaeofdlaaGreatDoor.LaidD
theorem mixed : Tryz.prog.follows .mixedOrders = true := by kernel_rfl
abbrev ctPt (r : List CT) : List CT := .sc (.int .i64) :: .sc (.int .u64) :: .sc .bool :: .rw 24 [.int .u64] :: .rw 24 [.int .u64] :: .sc (.int .u64) :: r
def ctP : List CT := .sc (.int .i64) :: .sc (.int .i64) :: .sc (.int .i64) :: .sc (.int .i64) :: .sc (.int .i64) :: ctPt (ctPt (ctPt (ctPt (ctPt [.sc (.int .i64), .sc (.int .u64), .sc (.int .u64)]))))
theorem wf_inU {n : Int} (h : (Lit.int .u64 n).wf = true) : inU n = true := by
 simp only [Lit.wf, Bool.and_eq_true, decide_eq_true_eq] at h
 have h1 : IntKind.min .u64 = 0 := by decide
 have h2 : IntKind.max .u64 = 18446744073709551615 := by decide
 rw [h1, h2] at h
 simp only [inU, yAnd_t, yLe_t, yLt_t]
 omega
theorem smOk : SmOK Tryz.prog (smL lPss) :=
 smL_ok (lPss_ok mixed (smBool_ok Tryz.func9 (by kernel_rfl) (by kernel_rfl) fun w hw => callN_calls mixed RunP.up (us := []) rfl w hw))
theorem gl_u8 {g : Nat} {c : List AV} (hg : GL g = some c) {j : Nat} {a : AV} (ha : c[j]? = some a) : ∃ z, True ∧ a = .i .u8 z := by
 have h0 : g = 0 := by
   unfold GL at hg
   cases hb : Nat.beq g 0 with
   | true => exact Nat.eq_of_beq_eq_true hb
   | false => rw [hb] at hg; cases hg
 subst h0
 rw [gl0, Option.some.injEq] at hg
 subst hg
 obtain ⟨z, _, rfl⟩ := List.mem_map.1 (List.mem_of_getElem? ha)
 exact ⟨z, trivial, rfl⟩
theorem part_open {rest : List CT} {ds : List Dc} (h : DcKs (ctPt rest) ds) : ∃ (p : Pt) (r : List Dc), ds = p.dcs r ∧ inU p.v = true ∧ DcKs rest r := by
 obtain ⟨_, _, rfl, ⟨_, ⟨n1, rfl, _⟩, rfl⟩, h⟩ := h
 obtain ⟨_, _, rfl, ⟨_, ⟨n2, rfl, w2⟩, rfl⟩, h⟩ := h
 obtain ⟨_, _, rfl, ⟨_, ⟨n3, rfl⟩, rfl⟩, h⟩ := h
 obtain ⟨_, _, rfl, ⟨n4, n5, n6, _, _, _, rfl⟩, h⟩ := h
 obtain ⟨_, _, rfl, ⟨n7, n8, n9, _, _, _, rfl⟩, h⟩ := h
 obtain ⟨_, r, rfl, ⟨_, ⟨n10, rfl, _⟩, rfl⟩, h⟩ := h
 exact ⟨⟨n1, n2, n3, n4, n5, fun i => Ex.intOf (n6 i 0), n7, n8, fun i => Ex.intOf (n9 i 0), n10⟩, r, rfl, wf_inU w2, h⟩
theorem i64_open {rest : List CT} {ds : List Dc} (h : DcKs (.sc (.int .i64) :: rest) ds) : ∃ (n : Int) (r : List Dc), ds = .v (.y .i64 n) :: r ∧ DcKs rest r := by
 obtain ⟨_, r, rfl, ⟨_, ⟨n1, rfl, _⟩, rfl⟩, h⟩ := h
 exact ⟨n1, r, rfl, h⟩
theorem u64_open {rest : List CT} {ds : List Dc} (h : DcKs (.sc (.int .u64) :: rest) ds) : ∃ (n : Int) (r : List Dc), ds = .v (.y .u64 n) :: r ∧ inU n = true ∧ DcKs rest r := by
 obtain ⟨_, r, rfl, ⟨_, ⟨n1, rfl, w⟩, rfl⟩, h⟩ := h
 exact ⟨n1, r, rfl, wf_inU w, h⟩
theorem parts_open {ds : List Dc} (h : DcKs ctP ds) : ∃ (cs ct cf cl cp : Int) (pp aa bb ff tt : Pt) (xi xk xw : Int), ds = .v (.y .i64 cs) :: .v (.y .i64 ct) :: .v (.y .i64 cf) :: .v (.y .i64 cl) :: .v (.y .i64 cp) :: pp.dcs (aa.dcs (bb.dcs (ff.dcs (tt.dcs [.v (.y .i64 xi), .v (.y .u64 xk), .v (.y .u64 xw)])))) ∧
   inU pp.v = true ∧ inU aa.v = true ∧ inU bb.v = true ∧ inU ff.v = true ∧ inU tt.v = true ∧ inU xk = true ∧ inU xw = true := by
 unfold ctP at h
 obtain ⟨cs, r1, e1, g1⟩ := i64_open h
 obtain ⟨ct, r2, e2, g2⟩ := i64_open g1
 obtain ⟨cf, r3, e3, g3⟩ := i64_open g2
 obtain ⟨cl, r4, e4, g4⟩ := i64_open g3
 obtain ⟨cp, r5, e5, g5⟩ := i64_open g4
 obtain ⟨pp, r6, e6, h1, g6⟩ := part_open g5
 obtain ⟨aa, r7, e7, h2, g7⟩ := part_open g6
 obtain ⟨bb, r8, e8, h3, g8⟩ := part_open g7
 obtain ⟨ff, r9, e9, h4, g9⟩ := part_open g8
 obtain ⟨tt, r10, e10, h5, g10⟩ := part_open g9
 obtain ⟨xi, r11, e11, g11⟩ := i64_open g10
 obtain ⟨xk, r12, e12, h6, g12⟩ := u64_open g11
 obtain ⟨xw, r13, e13, h7, g13⟩ := u64_open g12
 have e0 : r13 = [] := g13
 exact ⟨cs, ct, cf, cl, cp, pp, aa, bb, ff, tt, xi, xk, xw, by rw [e1, e2, e3, e4, e5, e6, e7, e8, e9, e10, e11, e12, e13, e0], h1, h2, h3, h4, h5, h6, h7⟩
set_option maxHeartbeats 4000000 in
theorem calls {W : World} (hg : GW W) {ds : List Dc} {v : Value} (hd : DaR W (.agg (ctP.map CT.cs)) (.agg ds) v) (hk : DcKs ctP ds) :
   Calls Tryz.prog 3 #[v] W fun e w' => e = .returned (.bool true) ∧ Below W.heap.size W w' := by
 obtain ⟨cs, ct, cf, cl, cp, pp, aa, bb, ff, tt, xi, xk, xw, rfl, h1, h2, h3, h4, h5, h6, h7⟩ := parts_open hk
 obtain ⟨us, rfl, hd⟩ := hd
 obtain ⟨q1, q2⟩ := dcs_lst hg (fun g c h j a ha n hr => by
   obtain ⟨z, _, rfl⟩ : ∃ z, True ∧ a = .i .u8 z := gl_u8 h ha
   simp only [AV.R] at hr
   cases hr) hd (fun c hc => by
     simp only [ctP, List.map_cons, List.map_nil, CT.cs, List.mem_cons, List.not_mem_nil, or_false] at hc
     rcases hc with h | h | h | h | h | h | h | h | h | h | h | h | h | h | h | h | h | h | h | h | h | h | h | h | h | h | h | h | h | h | h | h | h | h | h | h | h | h <;> first | exact .inl h | exact .inr h)
   (fun d hc => by
     simp only [Pt.dcs, List.mem_cons, List.not_mem_nil, or_false] at hc
     rcases hc with rfl | rfl | rfl | rfl | rfl | rfl | rfl | rfl | rfl | rfl | rfl | rfl | rfl | rfl | rfl | rfl | rfl | rfl | rfl | rfl | rfl | rfl | rfl | rfl | rfl | rfl | rfl | rfl | rfl | rfl | rfl | rfl | rfl | rfl | rfl | rfl | rfl | rfl <;> first | exact trivial | exact ⟨_, rfl⟩)
 have n1 := q2 aa.kn aa.nk [.int .u64 aa.k] (by simp [Pt.dcs])
 have n2 := q2 aa.vn aa.nv [.int .u64 aa.w] (by simp [Pt.dcs])
 exact law_callsP mixed smOk hg (us := [.agg us.toArray]) (show AV.RL (Mw W) (avParts cs ct cf cl cp pp.s pp.v pp.i pp.kn pp.nk pp.k pp.vn pp.nv pp.w pp.l aa.s aa.v aa.i aa.kn aa.nk aa.k aa.vn aa.nv aa.w aa.l bb.s bb.v bb.i bb.kn bb.nk bb.k bb.vn bb.nv bb.w bb.l ff.s ff.v ff.i ff.kn ff.nk ff.k ff.vn ff.nv ff.w ff.l tt.s tt.v tt.i tt.kn tt.nk tt.k tt.vn tt.nv tt.w tt.l xi xk xw) [.agg us.toArray] from ⟨_, _, ⟨us, q1, rfl⟩, rfl, rfl⟩)
   (@goalPss_ok cs ct cf cl cp pp.s pp.v pp.i pp.kn pp.nk pp.k pp.vn pp.nv pp.w pp.l aa.s aa.v aa.i aa.kn aa.nk aa.k aa.vn aa.nv aa.w aa.l bb.s bb.v bb.i bb.kn bb.nk bb.k bb.vn bb.nv bb.w bb.l ff.s ff.v ff.i ff.kn ff.nk ff.k ff.vn ff.nv ff.w ff.l tt.s tt.v tt.i tt.kn tt.nk tt.k tt.vn tt.nv tt.w tt.l xi xk xw h1 h2 h4 h5 (by rw [n1, n2]; rfl))
theorem lifted (os : Os) (started : os.Started) (H : Type) (enc : TypeId × Value → H) :
   ReturnsInHanded {} Tryz.checked os 3 .any (fun w args => (Rows.planSplitsSpec.pre enc Tryz.prog Tryz.f3 [] false w args ∧ laidMetH Tryz.prog laid2 w) ∧ sizedMet enc Tryz.prog Tryz.f3 (OpenSpec.ofChange Rows.planSplitsSpec) false w args)
     (Rows.planSplitsSpec.post enc Tryz.prog Tryz.f3 false true false false) := by
 refine returnsInHanded_of_change_and (C := Tryz.checked) (X := fun w _ => laidMetH Tryz.prog laid2 w) (fun _ _ _ hh h => h.of_heap hh) own started (by kernel_rfl) Tryz.func3
   (ChangeSpec.witness_shaped (enc := enc) (C := Tryz.checked) (os := os) (X := fun w _ => laidMetH Tryz.prog laid2 w) false (World.doorLaid Tryz.prog 4000 os) #[.agg #[.int .i64 0, .int .i64 0, .int .i64 0, .int .i64 0, .int .i64 0, .int .i64 0, .int .u64 0, .bool false, .slice none 0 0, .slice none 0 0, .int .u64 0, .int .i64 0, .int .u64 0, .bool false, .slice none 0 0, .slice none 0 0, .int .u64 0, .int .i64 0, .int .u64 0, .bool false, .slice none 0 0, .slice none 0 0, .int .u64 0, .int .i64 0, .int .u64 0, .bool false, .slice none 0 0, .slice none 0 0, .int .u64 0, .int .i64 0, .int .u64 0, .bool false, .slice none 0 0, .slice none 0 0, .int .u64 0, .int .i64 0, .int .u64 0, .int .u64 0]] 8 rfl (shaped os _) (by kernel_rfl) (by kernel_rfl) (by kernel_rfl) (door_met os _)) ?_
 intro W base args ds gs before hval0 hW _ _ hL _
 have hval : ∀ (j : Nat) t v, Tryz.f3.params[j]? = some t → args[j]? = some v → Value.okWide Tryz.prog W .any base t v := hval0
 have hW' := hW
 obtain ⟨p, q, hA0, hV, rfl, hfz, hnd⟩ := hW
 have hA : DataW.TrodAll enc Tryz.prog W 0 (fun _ => true) true Tryz.f3.params.toList args.toList ds p := hA0
 rw [Tryz.params3] at hA hval
 obtain ⟨v0, d0, rfl, rfl, h0⟩ := trodAll_one hA
 obtain ⟨rfl, rfl⟩ := trodVars_none hV
 have ct : ctsOf Tryz.prog 10 31 = some ctP := by kernel_rfl
 obtain ⟨d, r1, k1⟩ := par_aggG (gw hL) (fun e ks hm k hk => by
   simp only [ctP, List.mem_cons, CT.rw.injEq, reduceCtorEq, List.not_mem_nil, or_false, false_or, or_self] at hm
   obtain ⟨rfl, rfl⟩ := hm
   simp at hk; subst hk; exact glk_u64) ct Tryz.underlying31 (by kernel_rfl) (hval 0 31 v0 rfl rfl) h0
 refine (calls (gw hL) r1 k1).mono fun e W' ⟨he, hb⟩ => ?_
 subst he
 exact ⟨_, rfl, law_post hW' rfl rfl Tryz.underlying4 rfl laidOut (by
   rw [Tryz.params3]
   intro t ht
   simp only [List.mem_cons, List.not_mem_nil, or_false] at ht
   subst ht
   exact ⟨by kernel_rfl, of_decide_eq_true (by kernel_rfl)⟩) hb⟩
theorem row : Rows.PlanSplitsSaid :=
 OpenClaim.holds_of_wide 3 Tryz.f3 rfl rfl rfl rfl rfl rfl rfl ⟨rfl, rfl, rfl, rfl, rfl⟩ rfl rfl rfl rfl rfl (by kernel_rfl) Tryz.func3 (by kernel_rfl)
   (of_decide_eq_true (by kernel_rfl)) (by unfold Func.isWrapper; first | (rw [if_pos (by decide +kernel)]; kernel_rfl) | (rw [if_neg (by decide +kernel)]; exact ⟨rfl, rfl⟩))
   (fun os started H enc _ => lifted os started H enc)
theorem holds : Rows.PlanSplitsCardSaid :=
 Claim7.holds_tied_plain_at .later [] [.listed, .data] true Rows.planSplitsCard.stood.harness true
   row (fun _ h => by cases h) (by kernel_rfl) (fun _ h => by cases h) planSplits_row_tie rfl ⟨rfl, rfl⟩ (by kernel_rfl) rfl
   (fun f fn hf hfn => by
     obtain rfl : f = 3 := Option.some.inj ((show Tryz.prog.funcNamed "gleaning/gleaninglaw14.PlanSplits" = some 3 by kernel_rfl).symm.trans hf) |>.symm
     obtain rfl : fn = Tryz.f3 := (Option.some.inj (Tryz.func3.symm.trans hfn)).symm
     exact ⟨by kernel_rfl, fun j t ht => by
       rw [Tryz.params3] at ht
       have hm : t ∈ [31] := by simpa using Array.mem_of_getElem? ht
       have hall : ([31].all fun u => !Tryz.prog.wantsStandIn u) = true := by kernel_rfl
       exact (show Tryz.prog.wantsStandIn t = false by simpa using List.all_eq_true.1 hall t hm)⟩)
   (by kernel_rfl)
#print axioms holds
end Go.Proofs.YtjhbimdaeofdlaaGreatDoor.LPlanSplits
