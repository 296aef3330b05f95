/- The law MachineNobody returns true for every entry and every number, where strings.asciiSpace reads as its initialiser lays it; the row and its tied card. -/
import Derived.Test.YtojfcccobfcomaaGreatDoorLaidD
import Derived.Test.YtojfcccobfcomaaGreatDoorCards
import Derived.Test.YtojfcccobfcomaaGreatDoorRunM
namespace Go.Proofs.YtojfcccobfcomaaGreatDoor.LMachineNobody
open Go Go.RowKit Go.WideShapes Go.ChangeShapes Go.Proofs.YtojfcccobfcomaaGreatDoor.Ex Go.Proofs.YtojfcccobfcomaaGreatDoor.Lw Go.Proofs.YtojfcccobfcomaaGreatDoor.LaidD

theorem mixed : Tryz.prog.follows .mixedOrders = true := by kernel_rfl
def sm : FuncId → Option Sm := fun f => bif Nat.beq f 39 then some (.call (smB true)) else none
theorem smOk : SmOK Tryz.prog sm := by
  intro f
  cases hb : Nat.beq f 39 with
  | false => simp [sm, hb]
  | true =>
    obtain rfl := Nat.eq_of_beq_eq_true hb
    refine ⟨fun g hg => ?_, fun g hg => ?_, fun g hg => ?_⟩
    · simp only [sm, hb, cond_true, Option.some.injEq, Sm.call.injEq] at hg
      subst hg
      exact smBool_ok Tryz.func39 (by kernel_rfl) (by kernel_rfl) fun w hw => callN_calls mixed RunM.up (us := []) rfl w hw
    · simp [sm] at hg
    · simp [sm] at hg
theorem run0 (k a b c d e : Int) (t n : Nat) : isB true (callS Tryz.prog sm 1000 6 [.agg [.i .i64 k, .i .i64 (.ofNat t), .i .i64 a, .i .u64 b, .i .u64 c, .i .u64 d, .i .i64 e], .i .i64 (.ofNat n)]) = true := by kernel_rfl
theorem run1 (k a b c d e : Int) (t n : Nat) : isB true (callS Tryz.prog sm 1000 6 [.agg [.i .i64 k, .i .i64 (.ofNat t), .i .i64 a, .i .u64 b, .i .u64 c, .i .u64 d, .i .i64 e], .i .i64 (.negSucc n)]) = true := by kernel_rfl
theorem run2 (k a b c d e : Int) (t n : Nat) : isB true (callS Tryz.prog sm 1000 6 [.agg [.i .i64 k, .i .i64 (.negSucc t), .i .i64 a, .i .u64 b, .i .u64 c, .i .u64 d, .i .i64 e], .i .i64 (.ofNat n)]) = true := by kernel_rfl
theorem run3 (k a b c d e : Int) (t n : Nat) : isB true (callS Tryz.prog sm 1000 6 [.agg [.i .i64 k, .i .i64 (.negSucc t), .i .i64 a, .i .u64 b, .i .u64 c, .i .u64 d, .i .i64 e], .i .i64 (.negSucc n)]) = true := by kernel_rfl
theorem run (k t a b c d e n : Int) : isB true (callS Tryz.prog sm 1000 6 [.agg [.i .i64 k, .i .i64 (t), .i .i64 a, .i .u64 b, .i .u64 c, .i .u64 d, .i .i64 e], .i .i64 (n)]) = true := by
  match t, n with
  | .ofNat t, .ofNat n => exact run0 k a b c d e t n
  | .ofNat t, .negSucc n => exact run1 k a b c d e t n
  | .negSucc t, .ofNat n => exact run2 k a b c d e t n
  | .negSucc t, .negSucc n => exact run3 k a b c d e t n
theorem calls (k t a b c d e n : Int) (w : World) (hw : GW w) : Calls Tryz.prog 6 #[.agg #[.int .i64 k, .int .i64 t, .int .i64 a, .int .u64 b, .int .u64 c, .int .u64 d, .int .i64 e], .int .i64 n] w fun e w' => e = .returned (.bool true) ∧ Below w.heap.size w w' :=
  callS_calls mixed smOk (run k t a b c d e n) (us := [.agg #[.int .i64 k, .int .i64 t, .int .i64 a, .int .u64 b, .int .u64 c, .int .u64 d, .int .i64 e], .int .i64 n])
    (by simp only [AV.RL, AV.R]; exact ⟨_, _, ⟨[.int .i64 k, .int .i64 t, .int .i64 a, .int .u64 b, .int .u64 c, .int .u64 d, .int .i64 e], by simp, rfl⟩, ⟨_, _, rfl, rfl, rfl⟩, rfl⟩) w hw

set_option maxRecDepth 100000 in
theorem lifted (os : Os) (started : os.Started) (H : Type) (enc : TypeId × Value → H) :
    ReturnsInHanded {} Tryz.checked os 6 .any (fun w args => (Rows.machineNobodySpec.pre enc Tryz.prog Tryz.f6 [] false w args ∧ laidMetH Tryz.prog laid2 w) ∧ sizedMet enc Tryz.prog Tryz.f6 (OpenSpec.ofChange Rows.machineNobodySpec) false w args)
      (Rows.machineNobodySpec.post enc Tryz.prog Tryz.f6 false true false false) := by
  refine returnsInHanded_of_change_and (C := Tryz.checked) (X := fun w _ => laidMetH Tryz.prog laid2 w) (fun _ _ _ hh h => h.of_heap hh) own started (by kernel_rfl) Tryz.func6
    (ChangeSpec.witness_shaped (enc := enc) (C := Tryz.checked) (os := os) (X := fun w _ => laidMetH Tryz.prog laid2 w) false (World.doorLaid Tryz.prog 4000 os) #[.agg #[.int .i64 0, .int .i64 0, .int .i64 0, .int .u64 0, .int .u64 0, .int .u64 0, .int .i64 0], .int .i64 0] 8 rfl (shaped os _) (by kernel_rfl) (by kernel_rfl) (by kernel_rfl) (door_met os _)) ?_
  intro W base args ds gs before hval0 hW _ _ hL _
  have hval : ∀ (j : Nat) t v, Tryz.f6.params[j]? = some t → args[j]? = some v → Value.okWide Tryz.prog W .any base t v := hval0
  have hW' := hW
  obtain ⟨p, q, hA0, hV, rfl, hfz, hnd⟩ := hW
  have hA : DataW.TrodAll enc Tryz.prog W 0 (fun _ => true) true Tryz.f6.params.toList args.toList ds p := hA0
  rw [Tryz.params6] at hA hval
  obtain ⟨v0, v1, d0, d1, p0, p1, rfl, rfl, rfl, h0, h1⟩ := trodAll_two hA
  obtain ⟨rfl, rfl⟩ := trodVars_none hV
  obtain ⟨cs, rfl, hsz, hc⟩ := cells_of (ts := [3, 3, 3, 22, 22, 22, 3]) Tryz.underlying103 (by kernel_rfl) (by kernel_rfl) (hval 0 103 v0 rfl rfl)
  obtain ⟨x0, e0, y0⟩ := hc 0 _ rfl
  obtain ⟨x1, e1, y1⟩ := hc 1 _ rfl
  obtain ⟨x2, e2, y2⟩ := hc 2 _ rfl
  obtain ⟨x3, e3, y3⟩ := hc 3 _ rfl
  obtain ⟨x4, e4, y4⟩ := hc 4 _ rfl
  obtain ⟨x5, e5, y5⟩ := hc 5 _ rfl
  obtain ⟨x6, e6, y6⟩ := hc 6 _ rfl
  obtain ⟨n0, rfl⟩ := cell_int Tryz.underlying3 y0
  obtain ⟨n1, rfl⟩ := cell_int Tryz.underlying3 y1
  obtain ⟨n2, rfl⟩ := cell_int Tryz.underlying3 y2
  obtain ⟨n3, rfl⟩ := cell_int Tryz.underlying22 y3
  obtain ⟨n4, rfl⟩ := cell_int Tryz.underlying22 y4
  obtain ⟨n5, rfl⟩ := cell_int Tryz.underlying22 y5
  obtain ⟨n6, rfl⟩ := cell_int Tryz.underlying3 y6
  have hcs : cs = #[.int .i64 n0, .int .i64 n1, .int .i64 n2, .int .u64 n3, .int .u64 n4, .int .u64 n5, .int .i64 n6] := by
    apply Array.ext_getElem?
    intro i
    match i with
    | 0 => rw [e0]; rfl
    | 1 => rw [e1]; rfl
    | 2 => rw [e2]; rfl
    | 3 => rw [e3]; rfl
    | 4 => rw [e4]; rfl
    | 5 => rw [e5]; rfl
    | 6 => rw [e6]; rfl
    | i + 7 => rw [Array.getElem?_eq_none (by rw [hsz]; simp), Array.getElem?_eq_none (by simp)]
  subst hcs
  obtain ⟨m0, rfl, rfl, rfl, _⟩ := open_int Tryz.underlying3 (hval 1 3 v1 rfl rfl) h1
  refine (calls n0 n1 n2 n3 n4 n5 n6 m0 W (gw hL)).mono fun e W' ⟨he, hb⟩ => ?_
  subst he
  exact ⟨_, rfl, law_post hW' rfl rfl Tryz.underlying4 rfl laidOut (by
    rw [Tryz.params6]
    intro t ht
    simp only [List.mem_cons, List.not_mem_nil, or_false] at ht
    rcases ht with rfl | rfl <;> exact ⟨by kernel_rfl, of_decide_eq_true (by kernel_rfl)⟩) hb⟩

end Go.Proofs.YtojfcccobfcomaaGreatDoor.LMachineNobody
