/- Contracts: gleaningref07.Word is a number's word. And the law ConfigChecks, walked. -/
import Derived.Test.YtbmkcollljlnaaaDoorEf
import Derived.Test.YtbmkcollljlnaaaDoorExQ
namespace Go.Proofs.YtbmkcollljlnaaaDoor.Ex
open Go Go.RowKit

-- OPEN wordL
def wordL (i : Int) : List UInt8 := match i with
  | .ofNat 0 => [115, 108, 111, 116, 115]
  | .ofNat 1 => [116, 104, 114, 101, 97, 100, 115]
  | .ofNat 2 => [102, 97, 110]
  | .ofNat 3 => [108, 105, 109, 98, 111]
  | .ofNat 4 => [112, 97, 116, 105, 101, 110, 99, 101]
  | _ => []
def isS (l : List UInt8) (o : Option (AV × AH)) : Bool := match o with | some (.s l', _) => l == l' | _ => false
theorem callS_str {P : Program} (hm : P.follows .mixedOrders = true) {sm : FuncId → Option Sm} (hs : SmOK P sm) {n f : Nat} {l : List UInt8} {args : List AV} {us : List Value} (h : isS l (callS P sm n f args) = true) (ra : AV.RL noM args us) (w : World) (hw : GW w) :
    Calls P f us.toArray w fun e w' => e = .returned (.string ⟨l.toArray⟩) ∧ Below w.heap.size w w' := by
  unfold callS at h
  cases hc : callA P ⟨exec P sm n, sm⟩ f args ⟨.lf, 0, 0, []⟩ with
  | none => rw [hc] at h; cases h
  | some p =>
    obtain ⟨v, h'⟩ := p
    rw [hc] at h
    obtain ⟨_, c⟩ := callA_ok (exec_good hm hs n) hc
    have hr : Rel noM ⟨.lf, 0, 0, []⟩ w := ⟨fun x o e => by simp [get_lf] at e, fun x y b κ κ' o hx => by simp [get_lf] at hx, fun x hx => absurd (get_lf _ _ _ x) hx, hw, fun x b κ hx => absurd (get_lf _ _ _ x) hx, fun b cs e => (by cases e), fun x b κ o hx => (by simp [get_lf] at hx)⟩
    obtain ⟨_, cc⟩ := c noM us w none (fun e w' => e = .returned (.string ⟨l.toArray⟩) ∧ Below w.heap.size w w') ra hr (fun _ _ _ => rfl) (fun M' u w' rv rh f _ => by
      cases v <;> simp only [isS, Bool.false_eq_true, beq_iff_eq] at h
      subst h
      simp only [AV.R] at rv
      refine ⟨by rw [rv], f.os, f.tape, f.output, f.size, fun k hk => f.keep k hk (fun id κ o hg => by simp [get_lf] at hg)⟩)
    exact CallsIn.calls cc (fun k d hd => by simp [FW] at hd)
/-- A contract that was walked by hand, where the package variables read as they are laid. -/
theorem ctS_byG {P : Program} {f : FuncId} {fn : Func} {gs : List Ag} {F : List Da → Option (Bool × AV)} (hf : P.funcs[f]? = some fn) (hok : okFn fn = true) (hb : fn.body.isSome = true)
    (hc : ∀ ds a us w, F ds = some (true, a) → DaRs w gs ds us → GW w → Calls P f us.toArray w fun e w' => ∃ u, e = .returned u ∧ (∀ M, a.R M u) ∧ Below w.heap.size w w') :
    SmCall P f (fun args h => (ctS gs F args h).sel) := by
  intro args h v h' hg
  obtain ⟨ds, e1, e⟩ := T.sel_bind_some hg
  split at e
  case h_2 => cases e
  rename_i b a hF
  obtain ⟨rfl, e⟩ := T.sel_must e
  have e := T.sel_ret e
  simp only [Prod.mk.injEq] at e
  obtain ⟨rfl, rfl⟩ := e
  refine ⟨⟨Nat.le_refl _, Ab.refl _⟩, fun M us w r R ra rr fr k => ⟨?_, ?_⟩⟩
  · have hnn : ¬ (fn.name = "runtime.NumGoroutine") := by simpa [okFn] using hok
    cases hbb : fn.body with
    | none => rw [hbb] at hb; cases hb
    | some c => simp [callFunc, hf, hnn, hbb]
  · have hd := rdA_ok e1 ra rr
    exact (callsIn_wide (n := 0)).2 ((hc ds a us w hF hd rr.gw).mono fun e w' ⟨u, he, hr, hbl⟩ => by
      subst he
      exact k M u w' (hr M) (rr.below hbl) ⟨hbl.os, hbl.tape, hbl.output, hbl.size, Le.refl M, fun _ e => absurd rfl e, fun q hq _ => hbl.block q hq, fun id b2 κ o q1 q2 => .inr ⟨id, κ, o, q1, q2, fun e => e⟩, fun b cs e => .inl e⟩ (Ab.refl _))
def fWord (ds : List Da) : Option (Bool × AV) :=
  match ds with
  | [.cell (.v (.y .i64 i))] => some (yAnd (yLe 0 i) (yLe i 4), .ys (wordL i))
  | _ => none
theorem w0 : isS (wordL 0) (callS Tryd.prog noSm 1000 9 [.i .i64 (.ofNat 0)]) = true := by kernel_rfl
theorem w1 : isS (wordL 1) (callS Tryd.prog noSm 1000 9 [.i .i64 (.ofNat 1)]) = true := by kernel_rfl
theorem w2 : isS (wordL 2) (callS Tryd.prog noSm 1000 9 [.i .i64 (.ofNat 2)]) = true := by kernel_rfl
theorem w3 : isS (wordL 3) (callS Tryd.prog noSm 1000 9 [.i .i64 (.ofNat 3)]) = true := by kernel_rfl
theorem w4 : isS (wordL 4) (callS Tryd.prog noSm 1000 9 [.i .i64 (.ofNat 4)]) = true := by kernel_rfl
theorem word_at (hm : Tryd.prog.follows .mixedOrders = true) {i : Int} (h0 : 0 ≤ i) (h4 : i ≤ 4) (w : World) (hw : GW w) :
    Calls Tryd.prog 9 #[.int .i64 i] w fun e w' => e = .returned (.string ⟨(wordL i).toArray⟩) ∧ Below w.heap.size w w' := by
  obtain rfl | rfl | rfl | rfl | rfl : i = 0 ∨ i = 1 ∨ i = 2 ∨ i = 3 ∨ i = 4 := by omega
  · exact callS_str hm noSm_ok w0 (us := [.int .i64 0]) ⟨_, _, rfl, rfl, rfl⟩ w hw
  · exact callS_str hm noSm_ok w1 (us := [.int .i64 1]) ⟨_, _, rfl, rfl, rfl⟩ w hw
  · exact callS_str hm noSm_ok w2 (us := [.int .i64 2]) ⟨_, _, rfl, rfl, rfl⟩ w hw
  · exact callS_str hm noSm_ok w3 (us := [.int .i64 3]) ⟨_, _, rfl, rfl, rfl⟩ w hw
  · exact callS_str hm noSm_ok w4 (us := [.int .i64 4]) ⟨_, _, rfl, rfl, rfl⟩ w hw
theorem smWord (hm : Tryd.prog.follows .mixedOrders = true) : SmCall Tryd.prog 9 (fun args h => (ctS [.cell none] fWord args h).sel) :=
  ctS_byG Tryd.func9 (by kernel_rfl) (by kernel_rfl) (fun ds a us w hF hd hw => by
    unfold fWord at hF
    split at hF
    case h_2 => cases hF
    rename_i i
    simp only [Option.some.injEq, Prod.mk.injEq] at hF
    obtain ⟨h1, rfl⟩ := hF
    simp only [yAnd_t, yLe_t] at h1
    obtain ⟨d0, ds1, u0, us1, e1, rfl, hd1, hd⟩ := hd
    simp only [List.cons.injEq] at e1
    obtain ⟨rfl, rfl⟩ := e1
    obtain ⟨_, rfl⟩ := hd
    obtain rfl : u0 = .int .i64 i := hd1
    exact (word_at hm h1.1 h1.2 w hw).mono fun e w' ⟨he, hb⟩ => ⟨_, he, fun M => rfl, hb⟩)
def lEr : List (Nat × Sm) := [(12, .call whyG), (11, .call fldG)]
theorem up07 : isB true (callS Tryd.prog (smL lEr) 1000 8 []) = true := by kernel_rfl
def lChk : List (Nat × Sm) := [(12, .call whyG), (11, .call fldG), (9, .ct (ctS [.cell none] fWord)), (6, .ct (ctS gConf fRight)), (5, .ct (ctS gConf fWrong)), (8, .call (smB true))]
def goalChk : Prop := ∀ (s t f l p : Int), wxF Tryd.prog (smL lChk) (fun _ => none) 1000 3 (canA gConf (dConf s t f l p) []).1 (heapOf (canA gConf (dConf s t f l p) []).2) (fun r _ => cmpC (.yb true) r)
set_option maxRecDepth 100000 in
theorem goalChk_eq : goalChk = (∀ (s t f l p : Int), (yLt s (1 : Int) = true → (true = true → (true = true → (yNot (yIff (rightC s t f l p) (yLt (wrongC s t f l p) (0 : Int))) = true → true = false) ∧ (yNot (yIff (rightC s t f l p) (yLt (wrongC s t f l p) (0 : Int))) = false → (yLt (wrongC s t f l p) (0 : Int) = true → true = false) ∧ (yLt (wrongC s t f l p) (0 : Int) = false → (yAnd (yLe (0 : Int) (wrongC s t f l p)) (yLe (wrongC s t f l p) (4 : Int)) = true → (ySEq (wordL (0 : Int)) (wordL (wrongC s t f l p)) = true → (true = true → (yNot (rightC s t f l p) = true → true = true) ∧ (yNot (rightC s t f l p) = false → (yEq (2 : Int) (0 : Int) = true → False) ∧ (yEq (2 : Int) (0 : Int) = false → (yEq (yQuo IntKind.i64 f (2 : Int)) (0 : Int) = true → true = true) ∧ (yEq (yQuo IntKind.i64 f (2 : Int)) (0 : Int) = false → true = false)))) ∧ (true = false → False)) ∧ (ySEq (wordL (0 : Int)) (wordL (wrongC s t f l p)) = false → true = false)) ∧ (yAnd (yLe (0 : Int) (wrongC s t f l p)) (yLe (wrongC s t f l p) (4 : Int)) = false → False)))) ∧ (true = false → False)) ∧ (true = false → False)) ∧ (yLt s (1 : Int) = false → (yLt (1000 : Int) s = true → (true = true → (true = true → (yNot (yIff (rightC s t f l p) (yLt (wrongC s t f l p) (0 : Int))) = true → true = false) ∧ (yNot (yIff (rightC s t f l p) (yLt (wrongC s t f l p) (0 : Int))) = false → (yLt (wrongC s t f l p) (0 : Int) = true → true = false) ∧ (yLt (wrongC s t f l p) (0 : Int) = false → (yAnd (yLe (0 : Int) (wrongC s t f l p)) (yLe (wrongC s t f l p) (4 : Int)) = true → (ySEq (wordL (0 : Int)) (wordL (wrongC s t f l p)) = true → (true = true → (yNot (rightC s t f l p) = true → true = true) ∧ (yNot (rightC s t f l p) = false → (yEq (2 : Int) (0 : Int) = true → False) ∧ (yEq (2 : Int) (0 : Int) = false → (yEq (yQuo IntKind.i64 f (2 : Int)) (0 : Int) = true → true = true) ∧ (yEq (yQuo IntKind.i64 f (2 : Int)) (0 : Int) = false → true = false)))) ∧ (true = false → False)) ∧ (ySEq (wordL (0 : Int)) (wordL (wrongC s t f l p)) = false → true = false)) ∧ (yAnd (yLe (0 : Int) (wrongC s t f l p)) (yLe (wrongC s t f l p) (4 : Int)) = false → False)))) ∧ (true = false → False)) ∧ (true = false → False)) ∧ (yLt (1000 : Int) s = false → (yLt t (1 : Int) = true → (true = true → (true = true → (yNot (yIff (rightC s t f l p) (yLt (wrongC s t f l p) (0 : Int))) = true → true = false) ∧ (yNot (yIff (rightC s t f l p) (yLt (wrongC s t f l p) (0 : Int))) = false → (yLt (wrongC s t f l p) (0 : Int) = true → true = false) ∧ (yLt (wrongC s t f l p) (0 : Int) = false → (yAnd (yLe (0 : Int) (wrongC s t f l p)) (yLe (wrongC s t f l p) (4 : Int)) = true → (ySEq (wordL (1 : Int)) (wordL (wrongC s t f l p)) = true → (true = true → (yNot (rightC s t f l p) = true → true = true) ∧ (yNot (rightC s t f l p) = false → (yEq (2 : Int) (0 : Int) = true → False) ∧ (yEq (2 : Int) (0 : Int) = false → (yEq (yQuo IntKind.i64 f (2 : Int)) (0 : Int) = true → true = true) ∧ (yEq (yQuo IntKind.i64 f (2 : Int)) (0 : Int) = false → true = false)))) ∧ (true = false → False)) ∧ (ySEq (wordL (1 : Int)) (wordL (wrongC s t f l p)) = false → true = false)) ∧ (yAnd (yLe (0 : Int) (wrongC s t f l p)) (yLe (wrongC s t f l p) (4 : Int)) = false → False)))) ∧ (true = false → False)) ∧ (true = false → False)) ∧ (yLt t (1 : Int) = false → (yLt (64 : Int) t = true → (true = true → (true = true → (yNot (yIff (rightC s t f l p) (yLt (wrongC s t f l p) (0 : Int))) = true → true = false) ∧ (yNot (yIff (rightC s t f l p) (yLt (wrongC s t f l p) (0 : Int))) = false → (yLt (wrongC s t f l p) (0 : Int) = true → true = false) ∧ (yLt (wrongC s t f l p) (0 : Int) = false → (yAnd (yLe (0 : Int) (wrongC s t f l p)) (yLe (wrongC s t f l p) (4 : Int)) = true → (ySEq (wordL (1 : Int)) (wordL (wrongC s t f l p)) = true → (true = true → (yNot (rightC s t f l p) = true → true = true) ∧ (yNot (rightC s t f l p) = false → (yEq (2 : Int) (0 : Int) = true → False) ∧ (yEq (2 : Int) (0 : Int) = false → (yEq (yQuo IntKind.i64 f (2 : Int)) (0 : Int) = true → true = true) ∧ (yEq (yQuo IntKind.i64 f (2 : Int)) (0 : Int) = false → true = false)))) ∧ (true = false → False)) ∧ (ySEq (wordL (1 : Int)) (wordL (wrongC s t f l p)) = false → true = false)) ∧ (yAnd (yLe (0 : Int) (wrongC s t f l p)) (yLe (wrongC s t f l p) (4 : Int)) = false → False)))) ∧ (true = false → False)) ∧ (true = false → False)) ∧ (yLt (64 : Int) t = false → (yLt f (4 : Int) = true → (true = true → (true = true → (yNot (yIff (rightC s t f l p) (yLt (wrongC s t f l p) (0 : Int))) = true → true = false) ∧ (yNot (yIff (rightC s t f l p) (yLt (wrongC s t f l p) (0 : Int))) = false → (yLt (wrongC s t f l p) (0 : Int) = true → true = false) ∧ (yLt (wrongC s t f l p) (0 : Int) = false → (yAnd (yLe (0 : Int) (wrongC s t f l p)) (yLe (wrongC s t f l p) (4 : Int)) = true → (ySEq (wordL (2 : Int)) (wordL (wrongC s t f l p)) = true → (true = true → (yNot (rightC s t f l p) = true → true = true) ∧ (yNot (rightC s t f l p) = false → (yEq (2 : Int) (0 : Int) = true → False) ∧ (yEq (2 : Int) (0 : Int) = false → (yEq (yQuo IntKind.i64 f (2 : Int)) (0 : Int) = true → true = true) ∧ (yEq (yQuo IntKind.i64 f (2 : Int)) (0 : Int) = false → true = false)))) ∧ (true = false → False)) ∧ (ySEq (wordL (2 : Int)) (wordL (wrongC s t f l p)) = false → true = false)) ∧ (yAnd (yLe (0 : Int) (wrongC s t f l p)) (yLe (wrongC s t f l p) (4 : Int)) = false → False)))) ∧ (true = false → False)) ∧ (true = false → False)) ∧ (yLt f (4 : Int) = false → (yLt (64 : Int) f = true → (true = true → (true = true → (yNot (yIff (rightC s t f l p) (yLt (wrongC s t f l p) (0 : Int))) = true → true = false) ∧ (yNot (yIff (rightC s t f l p) (yLt (wrongC s t f l p) (0 : Int))) = false → (yLt (wrongC s t f l p) (0 : Int) = true → true = false) ∧ (yLt (wrongC s t f l p) (0 : Int) = false → (yAnd (yLe (0 : Int) (wrongC s t f l p)) (yLe (wrongC s t f l p) (4 : Int)) = true → (ySEq (wordL (2 : Int)) (wordL (wrongC s t f l p)) = true → (true = true → (yNot (rightC s t f l p) = true → true = true) ∧ (yNot (rightC s t f l p) = false → (yEq (2 : Int) (0 : Int) = true → False) ∧ (yEq (2 : Int) (0 : Int) = false → (yEq (yQuo IntKind.i64 f (2 : Int)) (0 : Int) = true → true = true) ∧ (yEq (yQuo IntKind.i64 f (2 : Int)) (0 : Int) = false → true = false)))) ∧ (true = false → False)) ∧ (ySEq (wordL (2 : Int)) (wordL (wrongC s t f l p)) = false → true = false)) ∧ (yAnd (yLe (0 : Int) (wrongC s t f l p)) (yLe (wrongC s t f l p) (4 : Int)) = false → False)))) ∧ (true = false → False)) ∧ (true = false → False)) ∧ (yLt (64 : Int) f = false → (yLt l (1 : Int) = true → (true = true → (true = true → (yNot (yIff (rightC s t f l p) (yLt (wrongC s t f l p) (0 : Int))) = true → true = false) ∧ (yNot (yIff (rightC s t f l p) (yLt (wrongC s t f l p) (0 : Int))) = false → (yLt (wrongC s t f l p) (0 : Int) = true → true = false) ∧ (yLt (wrongC s t f l p) (0 : Int) = false → (yAnd (yLe (0 : Int) (wrongC s t f l p)) (yLe (wrongC s t f l p) (4 : Int)) = true → (ySEq (wordL (3 : Int)) (wordL (wrongC s t f l p)) = true → (true = true → (yNot (rightC s t f l p) = true → true = true) ∧ (yNot (rightC s t f l p) = false → (yEq (2 : Int) (0 : Int) = true → False) ∧ (yEq (2 : Int) (0 : Int) = false → (yEq (yQuo IntKind.i64 f (2 : Int)) (0 : Int) = true → true = true) ∧ (yEq (yQuo IntKind.i64 f (2 : Int)) (0 : Int) = false → true = false)))) ∧ (true = false → False)) ∧ (ySEq (wordL (3 : Int)) (wordL (wrongC s t f l p)) = false → true = false)) ∧ (yAnd (yLe (0 : Int) (wrongC s t f l p)) (yLe (wrongC s t f l p) (4 : Int)) = false → False)))) ∧ (true = false → False)) ∧ (true = false → False)) ∧ (yLt l (1 : Int) = false → (yLt (64 : Int) l = true → (true = true → (true = true → (yNot (yIff (rightC s t f l p) (yLt (wrongC s t f l p) (0 : Int))) = true → true = false) ∧ (yNot (yIff (rightC s t f l p) (yLt (wrongC s t f l p) (0 : Int))) = false → (yLt (wrongC s t f l p) (0 : Int) = true → true = false) ∧ (yLt (wrongC s t f l p) (0 : Int) = false → (yAnd (yLe (0 : Int) (wrongC s t f l p)) (yLe (wrongC s t f l p) (4 : Int)) = true → (ySEq (wordL (3 : Int)) (wordL (wrongC s t f l p)) = true → (true = true → (yNot (rightC s t f l p) = true → true = true) ∧ (yNot (rightC s t f l p) = false → (yEq (2 : Int) (0 : Int) = true → False) ∧ (yEq (2 : Int) (0 : Int) = false → (yEq (yQuo IntKind.i64 f (2 : Int)) (0 : Int) = true → true = true) ∧ (yEq (yQuo IntKind.i64 f (2 : Int)) (0 : Int) = false → true = false)))) ∧ (true = false → False)) ∧ (ySEq (wordL (3 : Int)) (wordL (wrongC s t f l p)) = false → true = false)) ∧ (yAnd (yLe (0 : Int) (wrongC s t f l p)) (yLe (wrongC s t f l p) (4 : Int)) = false → False)))) ∧ (true = false → False)) ∧ (true = false → False)) ∧ (yLt (64 : Int) l = false → (yLt p (1 : Int) = true → (true = true → (true = true → (yNot (yIff (rightC s t f l p) (yLt (wrongC s t f l p) (0 : Int))) = true → true = false) ∧ (yNot (yIff (rightC s t f l p) (yLt (wrongC s t f l p) (0 : Int))) = false → (yLt (wrongC s t f l p) (0 : Int) = true → true = false) ∧ (yLt (wrongC s t f l p) (0 : Int) = false → (yAnd (yLe (0 : Int) (wrongC s t f l p)) (yLe (wrongC s t f l p) (4 : Int)) = true → (ySEq (wordL (4 : Int)) (wordL (wrongC s t f l p)) = true → (true = true → (yNot (rightC s t f l p) = true → true = true) ∧ (yNot (rightC s t f l p) = false → (yEq (2 : Int) (0 : Int) = true → False) ∧ (yEq (2 : Int) (0 : Int) = false → (yEq (yQuo IntKind.i64 f (2 : Int)) (0 : Int) = true → true = true) ∧ (yEq (yQuo IntKind.i64 f (2 : Int)) (0 : Int) = false → true = false)))) ∧ (true = false → False)) ∧ (ySEq (wordL (4 : Int)) (wordL (wrongC s t f l p)) = false → true = false)) ∧ (yAnd (yLe (0 : Int) (wrongC s t f l p)) (yLe (wrongC s t f l p) (4 : Int)) = false → False)))) ∧ (true = false → False)) ∧ (true = false → False)) ∧ (yLt p (1 : Int) = false → (yLt (1048576 : Int) p = true → (true = true → (true = true → (yNot (yIff (rightC s t f l p) (yLt (wrongC s t f l p) (0 : Int))) = true → true = false) ∧ (yNot (yIff (rightC s t f l p) (yLt (wrongC s t f l p) (0 : Int))) = false → (yLt (wrongC s t f l p) (0 : Int) = true → true = false) ∧ (yLt (wrongC s t f l p) (0 : Int) = false → (yAnd (yLe (0 : Int) (wrongC s t f l p)) (yLe (wrongC s t f l p) (4 : Int)) = true → (ySEq (wordL (4 : Int)) (wordL (wrongC s t f l p)) = true → (true = true → (yNot (rightC s t f l p) = true → true = true) ∧ (yNot (rightC s t f l p) = false → (yEq (2 : Int) (0 : Int) = true → False) ∧ (yEq (2 : Int) (0 : Int) = false → (yEq (yQuo IntKind.i64 f (2 : Int)) (0 : Int) = true → true = true) ∧ (yEq (yQuo IntKind.i64 f (2 : Int)) (0 : Int) = false → true = false)))) ∧ (true = false → False)) ∧ (ySEq (wordL (4 : Int)) (wordL (wrongC s t f l p)) = false → true = false)) ∧ (yAnd (yLe (0 : Int) (wrongC s t f l p)) (yLe (wrongC s t f l p) (4 : Int)) = false → False)))) ∧ (true = false → False)) ∧ (true = false → False)) ∧ (yLt (1048576 : Int) p = false → (true = true → (true = true → (yNot (yIff (rightC s t f l p) (yLt (wrongC s t f l p) (0 : Int))) = true → true = false) ∧ (yNot (yIff (rightC s t f l p) (yLt (wrongC s t f l p) (0 : Int))) = false → (yLt (wrongC s t f l p) (0 : Int) = true → (true = true → (yNot (rightC s t f l p) = true → (yEq (2 : Int) (0 : Int) = true → False) ∧ (yEq (2 : Int) (0 : Int) = false → (yEq (0 : Int) (yQuo IntKind.i64 f (2 : Int)) = true → true = true) ∧ (yEq (0 : Int) (yQuo IntKind.i64 f (2 : Int)) = false → true = false))) ∧ (yNot (rightC s t f l p) = false → (yEq (2 : Int) (0 : Int) = true → False) ∧ (yEq (2 : Int) (0 : Int) = false → (yEq (2 : Int) (0 : Int) = true → False) ∧ (yEq (2 : Int) (0 : Int) = false → (yEq (yQuo IntKind.i64 f (2 : Int)) (yQuo IntKind.i64 f (2 : Int)) = true → true = true) ∧ (yEq (yQuo IntKind.i64 f (2 : Int)) (yQuo IntKind.i64 f (2 : Int)) = false → true = false))))) ∧ (true = false → False)) ∧ (yLt (wrongC s t f l p) (0 : Int) = false → true = false))) ∧ (true = false → False)) ∧ (true = false → False)))))))))))) := by kernel_rfl
theorem ySEq_self (l : List UInt8) : ySEq l l = true := by
  show eqS l l = true
  induction l with
  | nil => rfl
  | cons a l ih => simp [eqS, ih]
theorem conf_cases (s t f l p : Int) :
    (rightC s t f l p = false ∧ ((s < 1 ∨ 1000 < s) ∧ wrongC s t f l p = 0 ∨ ¬ (s < 1 ∨ 1000 < s) ∧ ((t < 1 ∨ 64 < t) ∧ wrongC s t f l p = 1 ∨ ¬ (t < 1 ∨ 64 < t) ∧ ((f < 4 ∨ 64 < f) ∧ wrongC s t f l p = 2 ∨ ¬ (f < 4 ∨ 64 < f) ∧ ((l < 1 ∨ 64 < l) ∧ wrongC s t f l p = 3 ∨ ¬ (l < 1 ∨ 64 < l) ∧ (p < 1 ∨ 1048576 < p) ∧ wrongC s t f l p = 4))))) ∨
    (rightC s t f l p = true ∧ (1 ≤ s ∧ s ≤ 1000 ∧ 1 ≤ t ∧ t ≤ 64 ∧ 4 ≤ f ∧ f ≤ 64 ∧ 1 ≤ l ∧ l ≤ 64 ∧ 1 ≤ p ∧ p ≤ 1048576) ∧ wrongC s t f l p = -1) := by
  by_cases h : (1 ≤ s ∧ s ≤ 1000 ∧ 1 ≤ t ∧ t ≤ 64 ∧ 4 ≤ f ∧ f ≤ 64 ∧ 1 ≤ l ∧ l ≤ 64 ∧ 1 ≤ p ∧ p ≤ 1048576)
  · refine .inr ⟨rightC_iff.2 h, h, ?_⟩
    unfold wrongC
    rw [if_neg (by omega), if_neg (by omega), if_neg (by omega), if_neg (by omega), if_neg (by omega)]
  · refine .inl ⟨rightC_off.2 h, ?_⟩
    unfold wrongC
    by_cases h0 : s < 1 ∨ 1000 < s
    · exact .inl ⟨h0, if_pos h0⟩
    · refine .inr ⟨h0, ?_⟩
      rw [if_neg h0]
      by_cases h1 : t < 1 ∨ 64 < t
      · exact .inl ⟨h1, if_pos h1⟩
      · refine .inr ⟨h1, ?_⟩
        rw [if_neg h1]
        by_cases h2 : f < 4 ∨ 64 < f
        · exact .inl ⟨h2, if_pos h2⟩
        · refine .inr ⟨h2, ?_⟩
          rw [if_neg h2]
          by_cases h3 : l < 1 ∨ 64 < l
          · exact .inl ⟨h3, if_pos h3⟩
          · refine .inr ⟨h3, ?_⟩
            rw [if_neg h3]
            have h4 : p < 1 ∨ 1048576 < p := by omega
            exact ⟨h4, if_pos h4⟩
set_option maxRecDepth 100000 in
theorem goalChk_ok : goalChk := by
  refine kernel_go goalChk_eq ?_
  intro s t f l p
  rcases conf_cases s t f l p with ⟨hr, ⟨h0, hw⟩ | ⟨h0, ⟨h1, hw⟩ | ⟨h1, ⟨h2, hw⟩ | ⟨h2, ⟨h3, hw⟩ | ⟨h3, h4, hw⟩⟩⟩⟩⟩ | ⟨hr, h0, hw⟩
  all_goals simp only [hr, hw, ySEq_self, yNot_t, yNot_f, yEq_t, yEq_f, yAnd_t, yAnd_f, yOr_t, yOr_f, yIff_t, yIff_f, yLt_t, yLt_f, yLe_t, yLe_f, yIn_t, yIn_f, yNlt_t, yNlt_f, yNle_t, yNle_f, yNeq_t, yNeq_f, yGrow_t, yGrow_f, yInt_e, yNat_e, yNadd_e, yNsub_e, yAdd_e, ySub_e, yMul_e, yCol_int, yCol_bool, true_and, and_true, Nat.zero_add, Nat.add_zero, Nat.le_refl, forall_const, true_implies, Bool.true_eq_false, Bool.false_eq_true, false_implies]
  all_goals repeat' (first | apply And.intro | intro _)
  all_goals first | omega | trivial | (trace_state; fail)
end Go.Proofs.YtbmkcollljlnaaaDoor.Ex
