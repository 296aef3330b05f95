/- The law OrderWhy returns true for every number; the row and its tied card. -/
import Derived.Test.YtnmdahkoifeimaaDoorLaw
import Derived.Test.YtnmdahkoifeimaaDoorExQ
import Derived.Test.YtnmdahkoifeimaaDoorIsErrno
import Derived.Test.YtnmdahkoifeimaaDoorTie
import Derived.Test.YtnmdahkoifeimaaDoorCards
import Derived.LaidMore
import Derived.Lay
import Derived.LaidHandle
import Derived.SevenTiedAt
import Derived.OpenShut
import Derived.Stop.Joined
namespace Go.Proofs.YtnmdahkoifeimaaDoor.LOrderWhy
open Go Go.RowKit Go.WideShapes Go.ChangeShapes Go.Proofs.YtnmdahkoifeimaaDoor.Ex Go.Proofs.YtnmdahkoifeimaaDoor.Lw

theorem mixed : Tryd.prog.follows .mixedOrders = true := by kernel_rfl
theorem gw (w : World) : GW w := fun g c h => by simp [GL] at h

/-! Contracts. -/
theorem smRet_ok {P : Program} {f : FuncId} {fn : Func} {g : List AV → AH → Option (AV × AH)} (hf : P.funcs[f]? = some fn) (hok : okFn fn = true) (hb : fn.body.isSome = true)
    (hc : ∀ args h v h', g args h = some (v, h') → h' = h ∧ ∀ (M : Mp) (us : List Value) (w : World), AV.RL M args us → ∃ u, v.R M u ∧ Calls P f us.toArray w fun e w' => e = .returned u ∧ Below w.heap.size w w') : SmCall P f g := by
  intro args h v h' hg
  obtain ⟨rfl, hh⟩ := hc args h v h' hg
  refine ⟨⟨Nat.le_refl _, Ab.refl _⟩, fun M us w r R ra rr fr k => ⟨?_, ?_⟩⟩
  · have hnn : ¬ (fn.name = "runtime.NumGoroutine") := by simpa [okFn] using hok
    cases hbb : fn.body with
    | none => rw [hbb] at hb; cases hb
    | some c => simp [callFunc, hf, hnn, hbb]
  · obtain ⟨u, ru, hcc⟩ := hh M us w ra
    have : CallsIn (FW none) 0 P f us.toArray w R := (callsIn_wide (n := 0)).2 (hcc.mono fun e w' ⟨he, hbl⟩ => by
      subst he
      exact k M u w' ru (rr.below hbl) ⟨hbl.os, hbl.tape, hbl.output, hbl.size, Le.refl M, fun _ e => absurd rfl e, fun q hq _ => hbl.block q hq, fun id b2 κ q1 q2 => .inr ⟨id, κ, q1, q2⟩⟩ (Ab.refl _))
    exact this

def isG (args : List AV) (h : AH) : Option (AV × AH) :=
  match args with
  | [.ifc t (.i .i64 a), .ifc u (.i .i64 b)] => bif Nat.beq t 64 && Nat.beq u 64 then some (.b (eqI a b), h) else none
  | _ => none
theorem isG_ok : SmCall Tryd.prog 42 isG := smRet_ok Tryd.func42 (by kernel_rfl) (by kernel_rfl) (by
  intro args h v h' hg
  unfold isG at hg
  split at hg
  · rename_i t a u b
    cases hc : (Nat.beq t 64 && Nat.beq u 64) with
    | false => rw [hc] at hg; cases hg
    | true =>
      rw [hc, cond_true] at hg
      simp only [Bool.and_eq_true] at hc
      obtain rfl := Nat.eq_of_beq_eq_true hc.1
      obtain rfl := Nat.eq_of_beq_eq_true hc.2
      simp only [Option.some.injEq, Prod.mk.injEq] at hg
      obtain ⟨rfl, rfl⟩ := hg
      refine ⟨rfl, fun M us w ra => ⟨.bool (eqI a b), rfl, ?_⟩⟩
      simp only [AV.RL, AV.R] at ra
      obtain ⟨x1, r1, ⟨y1, rfl, rfl⟩, ⟨x2, r2, ⟨y2, rfl, rfl⟩, rfl, rfl⟩, rfl⟩ := ra
      rw [eqI_eq]
      by_cases hab : a = b
      · subst hab
        refine (IsErrno.is_same a w).mono fun e w' ⟨he, hw⟩ => ?_
        subst hw
        exact ⟨by rw [he]; simp, Below.refl _ _⟩
      · refine (IsErrno.is_other a b hab w).mono fun e w' ⟨he, hw⟩ => ?_
        subst hw
        exact ⟨by rw [he]; simp [hab], Below.refl _ _⟩
  · cases hg)

theorem cnt_run (s : ByteArray) (n : Int) : Extern.BytealgCount.count #[.string s, .int .u8 n] = (pure (goInt (s.foldl (fun m x => if x == n.toNat.toUInt8 then m + 1 else m) (0 : Nat))) : Sem Value) := by
  first | rfl | kernel_rfl
theorem idx_run (s : ByteArray) (n : Int) : Extern.BytealgIndexByte.indexByte #[.string s, .int .u8 n] = (match (List.range s.size).find? fun i => s[i]! == n.toNat.toUInt8 with
    | some i => pure (goInt i)
    | none => pure (goInt (-1)) : Sem Value) := by kernel_rfl
def cntG : List AV → Option AV
  | [.s l, .i .u8 n] => some (.i .i64 ((⟨l.toArray⟩ : ByteArray).foldl (fun m x => if x == n.toNat.toUInt8 then m + 1 else m) ((0 : Nat) : Int)))
  | _ => none
theorem cntG_ok : SmVal Tryd.prog 139 cntG := by
  intro args v M us w hg ra
  have hx := @run_callFunc_extern Tryd.prog 139 _ Extern.BytealgCount.count Tryd.func139 (by kernel_rfl) (by kernel_rfl) (by kernel_rfl) (by kernel_rfl)
  unfold cntG at hg
  split at hg
  · simp only [Option.some.injEq] at hg
    subst hg
    simp only [AV.RL, AV.R] at ra
    obtain ⟨x1, r1, rfl, ⟨x2, r2, rfl, rfl, rfl⟩, rfl⟩ := ra
    exact ⟨_, by rw [hx, cnt_run]; rfl, rfl⟩
  · cases hg
def idxG : List AV → Option AV
  | [.s l, .i .u8 n] => match (List.range (⟨l.toArray⟩ : ByteArray).size).find? fun i => (⟨l.toArray⟩ : ByteArray)[i]! == n.toNat.toUInt8 with
    | some i => some (.i .i64 (.ofNat i))
    | none => some (.i .i64 (.negSucc 0))
  | _ => none
theorem idxG_ok : SmVal Tryd.prog 178 idxG := by
  intro args v M us w hg ra
  have hx := @run_callFunc_extern Tryd.prog 178 _ Extern.BytealgIndexByte.indexByte Tryd.func178 (by kernel_rfl) (by kernel_rfl) (by kernel_rfl) (by kernel_rfl)
  unfold idxG at hg
  split at hg
  · rename_i l n
    simp only [AV.RL, AV.R] at ra
    obtain ⟨x1, r1, rfl, ⟨x2, r2, rfl, rfl, rfl⟩, rfl⟩ := ra
    rw [hx, idx_run]
    split at hg
    · rename_i i hi
      simp only [Option.some.injEq] at hg; subst hg
      exact ⟨_, by first | rfl | simp [goInt], rfl⟩
    · rename_i hi
      simp only [Option.some.injEq] at hg; subst hg
      exact ⟨_, by first | rfl | simp [goInt], rfl⟩
  · cases hg

def sm : FuncId → Option Sm := fun f =>
  bif Nat.beq f 18 then some (.call (smB true)) else bif Nat.beq f 42 then some (.call isG)
  else bif Nat.beq f 139 then some (.val cntG) else bif Nat.beq f 178 then some (.val idxG) else none
theorem up : isB true (callS Tryd.prog noSm 1000 18 []) = true := by kernel_rfl
theorem smOk : SmOK Tryd.prog sm := by
  intro f
  by_cases h1 : f = 18
  · subst h1
    have e : sm 18 = some (.call (smB true)) := rfl
    rw [e]
    exact ⟨fun g hg => (by cases hg; exact smBool_ok Tryd.func18 (by kernel_rfl) (by kernel_rfl) fun w hw => callN_calls mixed up (us := []) rfl w hw), fun g hg => by cases hg⟩
  by_cases h2 : f = 42
  · subst h2
    have e : sm 42 = some (.call isG) := rfl
    rw [e]
    exact ⟨fun g hg => (by cases hg; exact isG_ok), fun g hg => by cases hg⟩
  by_cases h3 : f = 139
  · subst h3
    have e : sm 139 = some (.val cntG) := rfl
    rw [e]
    exact ⟨fun g hg => (by cases hg), fun g hg => by cases hg; exact cntG_ok⟩
  by_cases h4 : f = 178
  · subst h4
    have e : sm 178 = some (.val idxG) := rfl
    rw [e]
    exact ⟨fun g hg => (by cases hg), fun g hg => by cases hg; exact idxG_ok⟩
  have e : sm f = none := by simp only [sm, nbeq, h1, h2, h3, h4, decide_false, cond_false]
  rw [e]
  exact ⟨fun g hg => (by cases hg), fun g hg => by cases hg⟩

abbrev R (n : Int) : Prop := isB true (callS Tryd.prog sm 1000 5 [.i .i64 n]) = true
theorem runK (k : Nat) : R (.ofNat (k + 14)) := by unfold R; kernel_rfl
theorem runN (k : Nat) : R (.negSucc k) := by unfold R; kernel_rfl
theorem run0 : R (.ofNat 0) := by unfold R; kernel_rfl
theorem run1 : R (.ofNat 1) := by unfold R; kernel_rfl
theorem run2 : R (.ofNat 2) := by unfold R; kernel_rfl
theorem run3 : R (.ofNat 3) := by unfold R; kernel_rfl
theorem run4 : R (.ofNat 4) := by unfold R; kernel_rfl
theorem run5 : R (.ofNat 5) := by unfold R; kernel_rfl
theorem run6 : R (.ofNat 6) := by unfold R; kernel_rfl
theorem run7 : R (.ofNat 7) := by unfold R; kernel_rfl
theorem run8 : R (.ofNat 8) := by unfold R; kernel_rfl
theorem run9 : R (.ofNat 9) := by unfold R; kernel_rfl
theorem run10 : R (.ofNat 10) := by unfold R; kernel_rfl
theorem run11 : R (.ofNat 11) := by unfold R; kernel_rfl
theorem run12 : R (.ofNat 12) := by unfold R; kernel_rfl
theorem run13 : R (.ofNat 13) := by unfold R; kernel_rfl
theorem run (n : Int) : R n := by
  match n with
  | .negSucc k => exact runN k
  | .ofNat 0 => exact run0
  | .ofNat 1 => exact run1
  | .ofNat 2 => exact run2
  | .ofNat 3 => exact run3
  | .ofNat 4 => exact run4
  | .ofNat 5 => exact run5
  | .ofNat 6 => exact run6
  | .ofNat 7 => exact run7
  | .ofNat 8 => exact run8
  | .ofNat 9 => exact run9
  | .ofNat 10 => exact run10
  | .ofNat 11 => exact run11
  | .ofNat 12 => exact run12
  | .ofNat 13 => exact run13
  | .ofNat (k + 14) => exact runK k
theorem calls (n : Int) (w : World) : Calls Tryd.prog 5 #[.int .i64 n] w fun e w' => e = .returned (.bool true) ∧ Below w.heap.size w w' :=
  callS_calls mixed smOk (run n) (us := [.int .i64 n]) ⟨_, _, rfl, rfl, rfl⟩ w (gw w)

abbrev laid2 : List (String × DataW Unit) := [("unicode/utf8.acceptRanges", Rows.laid_unicode_utf8_acceptRanges), ("unicode/utf8.first", Rows.laid_unicode_utf8_first)]
noncomputable def start (os : Os) : World := World.laidAll Tryd.prog os laid2
theorem start_met (os : Os) (args : Array Value) : laidMetH Tryd.prog laid2 ((start os).forCall (fun _ _ => 0) ⟨#[], args, []⟩).memory :=
  laidMetH_of_parts3 (fuel := 12) (laidMet_of_run' 12 (by kernel_rfl) (by kernel_rfl)) (by kernel_rfl) (by kernel_rfl)
theorem shaped (os : Os) (args : Array Value) : ((start os).forCall (fun _ _ => 0) ⟨#[], args, []⟩).Shaped Tryd.prog := by
  exact World.shaped_of_RefB (by kernel_rfl) (by kernel_rfl)

set_option maxRecDepth 100000 in
theorem lifted (os : Os) (started : os.Started) (H : Type) (enc : TypeId × Value → H) :
    ReturnsInHanded {} Tryd.checked os 5 .any (fun w args => (Rows.orderWhySpec.pre enc Tryd.prog Tryd.f5 [] false w args ∧ laidMetH Tryd.prog laid2 w) ∧ sizedMet enc Tryd.prog Tryd.f5 (OpenSpec.ofChange Rows.orderWhySpec) false w args)
      (Rows.orderWhySpec.post enc Tryd.prog Tryd.f5 false true false false) := by
  refine returnsInHanded_of_change_and (C := Tryd.checked) (X := fun w _ => laidMetH Tryd.prog laid2 w) (fun _ _ _ hh h => h.of_heap hh) own started (by kernel_rfl) Tryd.func5
    (ChangeSpec.witness_shaped (enc := enc) (C := Tryd.checked) (os := os) (X := fun w _ => laidMetH Tryd.prog laid2 w) false (start os) #[.int .i64 0] 8 rfl (shaped os _) (by kernel_rfl) (by kernel_rfl) (by kernel_rfl) (start_met os _)) ?_
  intro W base args ds gs before hval0 hW _ _ _ _
  have hval : ∀ (j : Nat) t v, Tryd.f5.params[j]? = some t → args[j]? = some v → Value.okWide Tryd.prog W .any base t v := hval0
  have hW' := hW
  obtain ⟨p, q, hA0, hV, rfl, hfz, hnd⟩ := hW
  have hA : DataW.TrodAll enc Tryd.prog W 0 (fun _ => true) true Tryd.f5.params.toList args.toList ds p := hA0
  rw [Tryd.params5] at hA hval
  obtain ⟨v0, d0, rfl, rfl, h0⟩ := trodAll_one hA
  obtain ⟨rfl, rfl⟩ := trodVars_none hV
  obtain ⟨n0, rfl, rfl, rfl, _⟩ := open_int Tryd.underlying3 (hval 0 3 v0 rfl rfl) h0
  refine (calls n0 W).mono fun e W' ⟨he, hb⟩ => ?_
  subst he
  exact ⟨_, rfl, law_post hW' rfl rfl Tryd.underlying4 rfl laidOut (by
    rw [Tryd.params5]
    intro t ht
    simp only [List.mem_cons, List.not_mem_nil, or_false] at ht
    subst ht
    exact ⟨by kernel_rfl, of_decide_eq_true (by kernel_rfl)⟩) hb⟩

theorem row : Rows.OrderWhySaid :=
  OpenClaim.holds_of_wide 5 Tryd.f5 rfl rfl rfl rfl rfl rfl rfl ⟨rfl, rfl, rfl, rfl, rfl⟩ rfl rfl rfl rfl rfl (by kernel_rfl) Tryd.func5 (by kernel_rfl)
    (of_decide_eq_true (by kernel_rfl)) (by unfold Func.isWrapper; first | (rw [if_pos (by decide +kernel)]; kernel_rfl) | (rw [if_neg (by decide +kernel)]; exact ⟨rfl, rfl⟩))
    (fun os started H enc _ => lifted os started H enc)
theorem holds : Rows.OrderWhyCardSaid :=
  Claim7.holds_tied_plain_at .later [] [.data, .pinned] true Rows.orderWhyCard.stood.harness true
    row (fun _ h => by cases h) (by kernel_rfl) (fun _ h => by cases h) orderWhy_row_tie rfl ⟨rfl, rfl⟩ (by kernel_rfl) rfl
    (fun f fn hf hfn => by
      obtain rfl : f = 5 := Option.some.inj ((show Tryd.prog.funcNamed "gleaning/gleaninglaw30.OrderWhy" = some 5 by kernel_rfl).symm.trans hf) |>.symm
      obtain rfl : fn = Tryd.f5 := (Option.some.inj (Tryd.func5.symm.trans hfn)).symm
      exact ⟨by kernel_rfl, fun j t ht => by
        rw [Tryd.params5] at ht
        have hm : t ∈ [3] := by simpa using Array.mem_of_getElem? ht
        have hall : ([3].all fun u => !Tryd.prog.wantsStandIn u) = true := by kernel_rfl
        exact (show Tryd.prog.wantsStandIn t = false by simpa using List.all_eq_true.1 hall t hm)⟩)
    (by kernel_rfl)
#print axioms holds
end Go.Proofs.YtnmdahkoifeimaaDoor.LOrderWhy
