/- The law EditMakes returns true for every configuration, slot, node, change and count, where strings.asciiSpace reads as its initialiser lays it; the row and its tied card. -/
import Derived.Test.YtinijejfhmcmdaaGreatDoorCards
import Derived.Test.YtinijejfhmcmdaaGreatDoorU7
set_option linter.all false
set_option maxRecDepth 100000
namespace Go.Proofs.YtinijejfhmcmdaaGreatDoor.LEditMakes
open Go Go.RowKit Go.WideShapes Go.ChangeShapes Go.Proofs.YtinijejfhmcmdaaGreatDoor.Ex Go.Proofs.YtinijejfhmcmdaaGreatDoor.Lw Go.Proofs.YtinijejfhmcmdaaGreatDoor.LaidD
theorem mixed : Tryz.prog.follows .mixedOrders = true := by kernel_rfl
def ctC : List CT := [.sc (.int .i64), .sc (.int .i64), .sc (.int .i64), .sc (.int .i64), .sc (.int .i64)]
def ctN : List CT := [.sc .bool, .rw 25 [.int .u64], .rw 25 [.int .u64], .sc (.int .u64)]
def ctCh : List CT := [.sc (.int .i64), .sc (.int .i64), .sc (.int .u64), .sc (.int .u64)]
theorem wf_inU {n : Int} (h : (Lit.int .u64 n).wf = true) : inU n = true := by
 simp only [Lit.wf, Bool.and_eq_true, decide_eq_true_eq] at h
 have h1 : IntKind.min .u64 = 0 := by decide
 have h2 : IntKind.max .u64 = 18446744073709551615 := by decide
 rw [h1, h2] at h
 simp only [inU, yAnd_t, yLe_t, yLt_t]
 omega
theorem conf_open {ds : List Dc} (h : DcKs ctC ds) : ∃ s t f l p : Int, ds = [.v (.y .i64 s), .v (.y .i64 t), .v (.y .i64 f), .v (.y .i64 l), .v (.y .i64 p)] := by
 obtain ⟨_, _, rfl, ⟨_, ⟨n1, rfl, _⟩, rfl⟩, _, _, rfl, ⟨_, ⟨n2, rfl, _⟩, rfl⟩, _, _, rfl, ⟨_, ⟨n3, rfl, _⟩, rfl⟩, _, _, rfl, ⟨_, ⟨n4, rfl, _⟩, rfl⟩, _, _, rfl, ⟨_, ⟨n5, rfl, _⟩, rfl⟩, rfl⟩ := h
 exact ⟨n1, n2, n3, n4, n5, rfl⟩
theorem chg_open {ds : List Dc} (h : DcKs ctCh ds) : ∃ kd ix key val : Int, ds = [.v (.y .i64 kd), .v (.y .i64 ix), .v (.y .u64 key), .v (.y .u64 val)] := by
 obtain ⟨_, _, rfl, ⟨_, ⟨n1, rfl, _⟩, rfl⟩, _, _, rfl, ⟨_, ⟨n2, rfl, _⟩, rfl⟩, _, _, rfl, ⟨_, ⟨n3, rfl, _⟩, rfl⟩, _, _, rfl, ⟨_, ⟨n4, rfl, _⟩, rfl⟩, rfl⟩ := h
 exact ⟨n1, n2, n3, n4, rfl⟩
theorem node_open {ds : List Dc} (h : DcKs ctN ds) : ∃ (i kn : Bool) (nk : Nat) (k : Nat → Int) (vn : Bool) (nv : Nat) (v : Nat → Int) (l : Int), ds = [.v (.yb i), .rows kn nk [.int .u64 k], .rows vn nv [.int .u64 v], .v (.y .u64 l)] := by
 obtain ⟨_, _, rfl, ⟨_, ⟨n3, rfl⟩, rfl⟩, h⟩ := h
 obtain ⟨_, _, rfl, ⟨n4, n5, n6, _, _, _, rfl⟩, h⟩ := h
 obtain ⟨_, _, rfl, ⟨n7, n8, n9, _, _, _, rfl⟩, h⟩ := h
 obtain ⟨_, r, rfl, ⟨_, ⟨n10, rfl, _⟩, rfl⟩, h⟩ := h
 have e0 : r = [] := h
 subst e0
 exact ⟨n3, n4, n5, fun i => Ex.intOf (n6 i 0), n7, n8, fun i => Ex.intOf (n9 i 0), n10, rfl⟩
theorem walk {W : World} (hg : GW W) {cs ct cf cl cp slot : Int} {i kn : Bool} {nk : Nat} {k : Nat → Int} {vn : Bool} {nv : Nat} {v : Nat → Int} {l kd ix key val count : Int} {us : List Value} (hc : inU count = true)
   (h : AV.RL (Mw W) (aEm cs ct cf cl cp slot i kn nk k vn nv v l kd ix key val count) us) : Calls Tryz.prog 3 us.toArray W fun e w' => e = .returned (.bool true) ∧ Below W.heap.size W w' := by
 cases hr : rightC cs ct cf cl cp with
 | false =>
   obtain ⟨m, hm⟩ : ∃ m : Nat, wrongC cs ct cf cl cp = Int.ofNat m := by
     have h1 := rightC_off.1 hr
     have h2 : 0 ≤ wrongC cs ct cf cl cp := by
       unfold wrongC
       (repeat' split) <;> omega
     exact ⟨(wrongC cs ct cf cl cp).toNat, by rw [Int.ofNat_eq_natCast]; omega⟩
   exact law_callsP mixed (smL_ok (lEmF_ok m mixed)) hg h (@goalEmF_ok m cs ct cf cl cp slot i kn nk k vn nv v l kd ix key val count (yEq_t.mpr hm))
 | true =>
   have oth : wEmS kd cs ct cf cl cp slot i kn nk k vn nv v l ix key val count → Calls Tryz.prog 3 us.toArray W fun e w' => e = .returned (.bool true) ∧ Below W.heap.size W w' := fun g =>
     law_callsP mixed (smL_ok (lEmS_ok mixed)) hg h g
   have one : ∀ b : Bool, wEm kd b cs ct cf cl cp slot i kn nk k vn nv v l ix key val count (x0Em cs ct cf slot nk k nv v l kd key val count) (tEm cs ct cf slot nk k v kd key val count) → Calls Tryz.prog 3 us.toArray W fun e w' => e = .returned (.bool true) ∧ Below W.heap.size W w' := fun b g =>
     law_callsP mixed (smL_ok (lEm_ok b mixed)) hg h g
   by_cases k1 : kd = 1
   · subst k1
     cases hi : isC k key nk with
     | true => exact one true (@goalEm1T_ok cs ct cf cl cp slot i kn nk k vn nv v l ix key val count _ _ hr hc hi rfl rfl)
     | false => exact one false (@goalEm1F_ok cs ct cf cl cp slot i kn nk k vn nv v l ix key val count _ _ hr hc hi rfl rfl)
   · by_cases k2 : kd = 2
     · subst k2
       cases hi : isC k key nk with
       | true => exact one true (@goalEm2T_ok cs ct cf cl cp slot i kn nk k vn nv v l ix key val count _ _ hr hc hi rfl rfl)
       | false => exact one false (@goalEm2F_ok cs ct cf cl cp slot i kn nk k vn nv v l ix key val count _ _ hr hc hi rfl rfl)
     · by_cases k3 : kd = 3
       · subst k3
         cases hi : isC k key nk with
         | true => exact one true (@goalEm3T_ok cs ct cf cl cp slot i kn nk k vn nv v l ix key val count _ _ hr hc hi rfl rfl)
         | false => exact one false (@goalEm3F_ok cs ct cf cl cp slot i kn nk k vn nv v l ix key val count _ _ hr hc hi rfl rfl)
       · by_cases k0 : kd = 0
         · subst k0
           exact oth (@goalEmZ_ok cs ct cf cl cp slot i kn nk k vn nv v l ix key val count hr hc)
         · cases kd with
           | ofNat q =>
             obtain ⟨q, rfl⟩ : ∃ q', q = q' + 4 := ⟨q - 4, by
               have a0 : q ≠ 0 := fun e => k0 (by rw [e]; rfl)
               have a1 : q ≠ 1 := fun e => k1 (by rw [e]; rfl)
               have a2 : q ≠ 2 := fun e => k2 (by rw [e]; rfl)
               have a3 : q ≠ 3 := fun e => k3 (by rw [e]; rfl)
               omega⟩
             exact oth (@goalEmP_ok cs ct cf cl cp slot i kn nk k vn nv v l ix key val count q hr hc)
           | negSucc q => exact oth (@goalEmN_ok cs ct cf cl cp slot i kn nk k vn nv v l ix key val count q hr hc)
theorem calls {W : World} (hg : GW W) {d0 d2 d3 : List Dc} {d1 d4 : Dc} {v0 v1 v2 v3 v4 : Value} (r0 : DaR W (.agg (ctC.map CT.cs)) (.agg d0) v0) (k0 : DcKs ctC d0) (r1 : DaR W (.cell none) (.cell d1) v1) (k1 : DcK (.sc (.int .i64)) d1)
   (r2 : DaR W (.agg (ctN.map CT.cs)) (.agg d2) v2) (k2 : DcKs ctN d2) (r3 : DaR W (.agg (ctCh.map CT.cs)) (.agg d3) v3) (k3 : DcKs ctCh d3) (r4 : DaR W (.cell none) (.cell d4) v4) (k4 : DcK (.sc (.int .u64)) d4) :
   Calls Tryz.prog 3 #[v0, v1, v2, v3, v4] W fun e w' => e = .returned (.bool true) ∧ Below W.heap.size W w' := by
 obtain ⟨cs, ct, cf, cl, cp, rfl⟩ := conf_open k0
 obtain ⟨_, ⟨slot, rfl, _⟩, rfl⟩ := k1
 obtain ⟨i, kn, nk, k, vn, nv, v, l, rfl⟩ := node_open k2
 obtain ⟨kd, ix, key, val, rfl⟩ := chg_open k3
 obtain ⟨_, ⟨count, rfl, wc⟩, rfl⟩ := k4
 obtain ⟨u0, rfl, r0⟩ := r0
 obtain ⟨u2, rfl, r2⟩ := r2
 obtain ⟨u3, rfl, r3⟩ := r3
 have hcs : ∀ c ∈ ctC.map CT.cs, c = none ∨ c = cU := fun c hc => by
   simp only [ctC, List.map_cons, List.map_nil, CT.cs, List.mem_cons, List.not_mem_nil, or_false] at hc
   rcases hc with h | h | h | h | h <;> exact .inl h
 have hns : ∀ c ∈ ctN.map CT.cs, c = none ∨ c = cU := fun c hc => by
   simp only [ctN, List.map_cons, List.map_nil, CT.cs, List.mem_cons, List.not_mem_nil, or_false] at hc
   rcases hc with h | h | h | h <;> first | exact .inl h | exact .inr h
 have hhs : ∀ c ∈ ctCh.map CT.cs, c = none ∨ c = cU := fun c hc => by
   simp only [ctCh, List.map_cons, List.map_nil, CT.cs, List.mem_cons, List.not_mem_nil, or_false] at hc
   rcases hc with h | h | h | h <;> exact .inl h
 have q0 := dcs_lstl hg (fun g c h => gl_not h) r0 hcs (fun d hc => by
   simp only [List.mem_cons, List.not_mem_nil, or_false] at hc
   rcases hc with rfl | rfl | rfl | rfl | rfl <;> exact trivial)
 have q2 := dcs_lstl hg (fun g c h => gl_not h) r2 hns (fun d hc => by
   simp only [List.mem_cons, List.not_mem_nil, or_false] at hc
   rcases hc with rfl | rfl | rfl | rfl <;> first | exact trivial | exact ⟨_, rfl⟩)
 have q3 := dcs_lstl hg (fun g c h => gl_not h) r3 hhs (fun d hc => by
   simp only [List.mem_cons, List.not_mem_nil, or_false] at hc
   rcases hc with rfl | rfl | rfl | rfl <;> exact trivial)
 exact walk hg (wf_inU wc) (us := [.agg u0.toArray, v1, .agg u2.toArray, .agg u3.toArray, v4]) (cs := cs) (ct := ct) (cf := cf) (cl := cl) (cp := cp) (slot := slot) (i := i) (kn := kn) (nk := nk) (k := k) (vn := vn) (nv := nv) (v := v) (l := l) (kd := kd) (ix := ix) (key := key) (val := val) (count := count)
   ⟨_, _, ⟨u0, q0, rfl⟩, ⟨_, _, dc_cell r1, ⟨_, _, ⟨u2, q2, rfl⟩, ⟨_, _, ⟨u3, q3, rfl⟩, ⟨_, _, dc_cell r4, rfl, rfl⟩, rfl⟩, rfl⟩, rfl⟩, rfl⟩
theorem lifted (os : Os) (started : os.Started) (H : Type) (enc : TypeId × Value → H) :
   ReturnsInHanded {} Tryz.checked os 3 .any (fun w args => (Rows.editMakesSpec.pre enc Tryz.prog Tryz.f3 [] false w args ∧ laidMetH Tryz.prog laid2 w) ∧ sizedMet enc Tryz.prog Tryz.f3 (OpenSpec.ofChange Rows.editMakesSpec) false w args)
     (Rows.editMakesSpec.post enc Tryz.prog Tryz.f3 false true false false) := by
 refine returnsInHanded_of_change_and (C := Tryz.checked) (X := fun w _ => laidMetH Tryz.prog laid2 w) (fun _ _ _ hh h => h.of_heap hh) own started (by kernel_rfl) Tryz.func3
   (ChangeSpec.witness_shaped (enc := enc) (C := Tryz.checked) (os := os) (X := fun w _ => laidMetH Tryz.prog laid2 w) false (World.doorLaid Tryz.prog 4000 os) #[.agg #[.int .i64 0, .int .i64 0, .int .i64 0, .int .i64 0, .int .i64 0], .int .i64 0, .agg #[.bool false, .slice none 0 0, .slice none 0 0, .int .u64 0], .agg #[.int .i64 0, .int .i64 0, .int .u64 0, .int .u64 0], .int .u64 0] 8 rfl (shaped os _) (by kernel_rfl) (by kernel_rfl) (by kernel_rfl) (door_met os _)) ?_
 intro W base args ds gs before hval0 hW _ _ hL _
 have hval : ∀ (j : Nat) t v, Tryz.f3.params[j]? = some t → args[j]? = some v → Value.okWide Tryz.prog W .any base t v := hval0
 have hW' := hW
 obtain ⟨p, q, hA0, hV, rfl, hfz, hnd⟩ := hW
 have hA : DataW.TrodAll enc Tryz.prog W 0 (fun _ => true) true Tryz.f3.params.toList args.toList ds p := hA0
 rw [Tryz.params3] at hA hval
 obtain ⟨v0, v1, v2, v3, v4, d0, d1, d2, d3, d4, p0, p1, p2, p3, p4, rfl, rfl, rfl, h0, h1, h2, h3, h4⟩ := trodAll_five hA
 obtain ⟨rfl, rfl⟩ := trodVars_none hV
 have ct0 : ctsOf Tryz.prog 10 23 = some ctC := by kernel_rfl
 have ct1 : ctsOf Tryz.prog 10 3 = some [.sc (.int .i64)] := by kernel_rfl
 have ct2 : ctsOf Tryz.prog 10 27 = some ctN := by kernel_rfl
 have ct3 : ctsOf Tryz.prog 10 29 = some ctCh := by kernel_rfl
 have ct4 : ctsOf Tryz.prog 10 25 = some [.sc (.int .u64)] := by kernel_rfl
 obtain ⟨e0, r0, k0⟩ := par_aggN ct0 Tryz.underlying23 (by kernel_rfl) (hval 0 23 v0 rfl rfl) h0
 obtain ⟨e1, r1, k1⟩ := par_cellN (c := .sc (.int .i64)) ct1 (by obtain ⟨n, rfl⟩ := okWide_int Tryz.underlying3 (hval 1 3 v1 rfl rfl); rfl) h1
 obtain ⟨e2, r2, k2⟩ := par_aggN ct2 Tryz.underlying27 (by kernel_rfl) (hval 2 27 v2 rfl rfl) h2
 obtain ⟨e3, r3, k3⟩ := par_aggN ct3 Tryz.underlying29 (by kernel_rfl) (hval 3 29 v3 rfl rfl) h3
 obtain ⟨e4, r4, k4⟩ := par_cellN (c := .sc (.int .u64)) ct4 (by obtain ⟨n, rfl⟩ := okWide_int Tryz.underlying25 (hval 4 25 v4 rfl rfl); rfl) h4
 refine (calls (gw hL) r0 k0 r1 k1 r2 k2 r3 k3 r4 k4).mono fun e W' ⟨he, hb⟩ => ?_
 subst he
 exact ⟨_, rfl, law_post hW' rfl rfl Tryz.underlying4 rfl laidOut (by
   rw [Tryz.params3]
   intro t ht
   simp only [List.mem_cons, List.not_mem_nil, or_false] at ht
   rcases ht with rfl | rfl | rfl | rfl | rfl <;> exact ⟨by kernel_rfl, of_decide_eq_true (by kernel_rfl)⟩) hb⟩
theorem row : Rows.EditMakesSaid :=
 OpenClaim.holds_of_wide 3 Tryz.f3 rfl rfl rfl rfl rfl rfl rfl ⟨rfl, rfl, rfl, rfl, rfl⟩ rfl rfl rfl rfl rfl (by kernel_rfl) Tryz.func3 (by kernel_rfl)
   (of_decide_eq_true (by kernel_rfl)) (by unfold Func.isWrapper; first | (rw [if_pos (by decide +kernel)]; kernel_rfl) | (rw [if_neg (by decide +kernel)]; exact ⟨rfl, rfl⟩))
   (fun os started H enc _ => lifted os started H enc)
theorem holds : Rows.EditMakesCardSaid :=
 Claim7.holds_tied_plain_at .later [] [.listed, .data] true Rows.editMakesCard.stood.harness false
   row (fun _ h => by cases h) (by kernel_rfl) (fun _ h => by cases h) editMakes_row_tie rfl ⟨rfl, rfl⟩ (by kernel_rfl) rfl
   (fun f fn hf hfn => by
     obtain rfl : f = 3 := Option.some.inj ((show Tryz.prog.funcNamed "gleaning/gleaninglaw23.EditMakes" = some 3 by kernel_rfl).symm.trans hf) |>.symm
     obtain rfl : fn = Tryz.f3 := (Option.some.inj (Tryz.func3.symm.trans hfn)).symm
     exact ⟨by kernel_rfl, fun j t ht => by
       rw [Tryz.params3] at ht
       have hm : t ∈ [23, 3, 27, 29, 25] := by simpa using Array.mem_of_getElem? ht
       have hall : ([23, 3, 27, 29, 25].all fun u => !Tryz.prog.wantsStandIn u) = true := by kernel_rfl
       exact (show Tryz.prog.wantsStandIn t = false by simpa using List.all_eq_true.1 hall t hm)⟩)
   (by kernel_rfl)
#print axioms holds
end Go.Proofs.YtinijejfhmcmdaaGreatDoor.LEditMakes
