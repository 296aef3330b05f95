/- Contracts: (*script.line).entry reads the words of an entry's line, walked for each kind of line. The walks of (*script.line).entry hold. Contract: script.parsed reads an entry's line (a deferred call that finds nothing to recover). Contract: script.Parse reads lines that entries have. Contract: gleaningref28.Same; and chapter 28's example. The law ScriptBack, walked. -/
import Derived.Test.YtjelhmdkaemiiaaDoorPkSa
import Derived.Test.YtjelhmdkaemiiaaDoorCLines
import Derived.WalkKit
import Derived.BigCall
import Derived.Defers
import Derived.Recover
import Derived.Below
namespace Go.Proofs.YtjelhmdkaemiiaaDoor.Ex
open Go

-- OPEN decI okD dc
abbrev aoLn (k : Nat) : AO := .cells [.sl 1 0 k k false, .i .i64 (.ofNat 0)] 66 none
abbrev aoWs (l : List AV) : AO := .cells l 9 none
def lEn : List (Nat × Sm) := [(46, .ct (ctX [.sc] rRdr fPar)), (36, .call (closG kindsL 0 4 4 false aoKinds)), (33, .ct (ctS gOp fRgT))]
/-- Structs of scalars. -/
def cmpAs : List AV → List AV → Prop
  | [], [] => True
  | a :: l, b :: m => cmpC a b ∧ cmpAs l m
  | _, _ => False
def cmpAg (c a : AV) : Prop :=
  match c, a with
  | .agg l, .agg m => cmpAs l m
  | _, _ => False
theorem cmpAs_R {M M' : Mp} : ∀ {l m : List AV} {vs : List Value}, cmpAs l m → AV.RL M m vs → AV.RL M' l vs
  | [], [], _, _, r => r
  | _ :: _, _ :: _, _, h, ⟨_, _, r1, r2, e⟩ => ⟨_, _, cmpC_R h.1 r1, cmpAs_R h.2 r2, e⟩
  | [], _ :: _, _, h, _ => h.elim
  | _ :: _, [], _, h, _ => h.elim
theorem cmpAg_R {M M' : Mp} {c a : AV} {u : Value} (h : cmpAg c a) (r : a.R M u) : c.R M' u := by
  unfold cmpAg at h
  split at h
  · simp only [AV.R] at r ⊢
    obtain ⟨vs, r, e⟩ := r
    exact ⟨vs, cmpAs_R h r, e⟩
  · exact h.elim
abbrev avE (kd th k key val hi most : Int) : AV := .agg [.y .i64 kd, .y .i64 th, .y .i64 k, .y .u64 key, .y .u64 val, .y .u64 hi, .y .i64 most]
def wxE (ws : List AV) (kd th k key val hi most : Int) : Prop :=
  wxF Tryd.prog (smL lEn) (fun _ => none) 1000 24 [.ptr 0 0] (heapOf [aoLn ws.length, aoWs ws]) (fun r _ => cmpAg (avE kd th k key val hi most) r)
def goalEn1 : Prop := ∀ (n : Nat), n = n → wxE [.s [116, 105, 99, 107]] 1 0 0 0 0 0 0
def goalEn2 : Prop := ∀ (a : List UInt8), okD a = true → yLt 9223372036854775807 (decI a (yLen a)) = false → wxE [.s [112, 105, 99, 107], .ys a] 2 (decI a (yLen a)) 0 0 0 0 0
def goalEnG : Prop := ∀ (a x : List UInt8), okD a = true → okD x = true → yLt 9223372036854775807 (decI a (yLen a)) = false → wxE [.s [115, 117, 98, 109, 105, 116], .ys a, .s [103, 101, 116], .ys x] 3 (decI a (yLen a)) 1 (decI x (yLen x)) 0 0 0
def goalEnP : Prop := ∀ (a x y : List UInt8), okD a = true → okD x = true → okD y = true → yLt 9223372036854775807 (decI a (yLen a)) = false → wxE [.s [115, 117, 98, 109, 105, 116], .ys a, .s [112, 117, 116], .ys x, .ys y] 3 (decI a (yLen a)) 2 (decI x (yLen x)) (decI y (yLen y)) 0 0
def goalEnD : Prop := ∀ (a x : List UInt8), okD a = true → okD x = true → yLt 9223372036854775807 (decI a (yLen a)) = false → wxE [.s [115, 117, 98, 109, 105, 116], .ys a, .s [100, 101, 108, 101, 116, 101], .ys x] 3 (decI a (yLen a)) 3 (decI x (yLen x)) 0 0 0
def goalEnS : Prop := ∀ (a x y z : List UInt8), okD a = true → okD x = true → okD y = true → okD z = true → yLt 9223372036854775807 (decI a (yLen a)) = false → rightO 4 (decI z (yLen z)) = true → wxE [.s [115, 117, 98, 109, 105, 116], .ys a, .s [115, 99, 97, 110], .ys x, .ys y, .ys z] 3 (decI a (yLen a)) 4 (decI x (yLen x)) 0 (decI y (yLen y)) (decI z (yLen z))
end Go.Proofs.YtjelhmdkaemiiaaDoor.Ex
namespace Go.Proofs.YtjelhmdkaemiiaaDoor.Ex
open Go

set_option maxRecDepth 100000 in
theorem goalEn1_eq : goalEn1 = (∀ (n : Nat), n = n → (1 : Int) = (1 : Int) ∧ (0 : Int) = (0 : Int) ∧ (0 : Int) = (0 : Int) ∧ (0 : Int) = (0 : Int) ∧ (0 : Int) = (0 : Int) ∧ (0 : Int) = (0 : Int) ∧ (0 : Int) = (0 : Int) ∧ True) := by kernel_rfl
set_option maxRecDepth 100000 in
theorem goalEn2_eq : goalEn2 = (∀ (a : List UInt8), okD a = true → yLt (9223372036854775807 : Int) (decI a (yLen a)) = false → (okD a = true → (yLt (9223372036854775807 : Int) (decI a (yLen a)) = true → False) ∧ (yLt (9223372036854775807 : Int) (decI a (yLen a)) = false → (2 : Int) = (2 : Int) ∧ decI a (yLen a) = yWrap IntKind.i64 (decI a (yLen a)) ∧ (0 : Int) = (0 : Int) ∧ (0 : Int) = (0 : Int) ∧ (0 : Int) = (0 : Int) ∧ (0 : Int) = (0 : Int) ∧ (0 : Int) = (0 : Int) ∧ True)) ∧ (okD a = false → False)) := by kernel_rfl
set_option maxRecDepth 100000 in
theorem goalEnG_eq : goalEnG = (∀ (a x : List UInt8), okD a = true → okD x = true → yLt (9223372036854775807 : Int) (decI a (yLen a)) = false → (okD a = true → (yLt (9223372036854775807 : Int) (decI a (yLen a)) = true → (okD x = true → (yLt (18446744073709551615 : Int) (decI x (yLen x)) = true → False) ∧ (yLt (18446744073709551615 : Int) (decI x (yLen x)) = false → False)) ∧ (okD x = false → False)) ∧ (yLt (9223372036854775807 : Int) (decI a (yLen a)) = false → (okD x = true → (yLt (18446744073709551615 : Int) (decI x (yLen x)) = true → False) ∧ (yLt (18446744073709551615 : Int) (decI x (yLen x)) = false → (rightO (1 : Int) (0 : Int) = true → (3 : Int) = (3 : Int) ∧ decI a (yLen a) = yWrap IntKind.i64 (decI a (yLen a)) ∧ (1 : Int) = (1 : Int) ∧ decI x (yLen x) = decI x (yLen x) ∧ (0 : Int) = (0 : Int) ∧ (0 : Int) = (0 : Int) ∧ (0 : Int) = (0 : Int) ∧ True) ∧ (rightO (1 : Int) (0 : Int) = false → False))) ∧ (okD x = false → False))) ∧ (okD a = false → False)) := by kernel_rfl
set_option maxRecDepth 100000 in
theorem goalEnP_eq : goalEnP = (∀ (a x y : List UInt8), okD a = true → okD x = true → okD y = true → yLt (9223372036854775807 : Int) (decI a (yLen a)) = false → (okD a = true → (yLt (9223372036854775807 : Int) (decI a (yLen a)) = true → (okD x = true → (yLt (18446744073709551615 : Int) (decI x (yLen x)) = true → (okD y = true → (yLt (18446744073709551615 : Int) (decI y (yLen y)) = true → False) ∧ (yLt (18446744073709551615 : Int) (decI y (yLen y)) = false → False)) ∧ (okD y = false → False)) ∧ (yLt (18446744073709551615 : Int) (decI x (yLen x)) = false → (okD y = true → (yLt (18446744073709551615 : Int) (decI y (yLen y)) = true → False) ∧ (yLt (18446744073709551615 : Int) (decI y (yLen y)) = false → False)) ∧ (okD y = false → False))) ∧ (okD x = false → False)) ∧ (yLt (9223372036854775807 : Int) (decI a (yLen a)) = false → (okD x = true → (yLt (18446744073709551615 : Int) (decI x (yLen x)) = true → (okD y = true → (yLt (18446744073709551615 : Int) (decI y (yLen y)) = true → False) ∧ (yLt (18446744073709551615 : Int) (decI y (yLen y)) = false → False)) ∧ (okD y = false → False)) ∧ (yLt (18446744073709551615 : Int) (decI x (yLen x)) = false → (okD y = true → (yLt (18446744073709551615 : Int) (decI y (yLen y)) = true → False) ∧ (yLt (18446744073709551615 : Int) (decI y (yLen y)) = false → (rightO (2 : Int) (0 : Int) = true → (3 : Int) = (3 : Int) ∧ decI a (yLen a) = yWrap IntKind.i64 (decI a (yLen a)) ∧ (2 : Int) = (2 : Int) ∧ decI x (yLen x) = decI x (yLen x) ∧ decI y (yLen y) = decI y (yLen y) ∧ (0 : Int) = (0 : Int) ∧ (0 : Int) = (0 : Int) ∧ True) ∧ (rightO (2 : Int) (0 : Int) = false → False))) ∧ (okD y = false → False))) ∧ (okD x = false → False))) ∧ (okD a = false → False)) := by kernel_rfl
set_option maxRecDepth 100000 in
theorem goalEnD_eq : goalEnD = (∀ (a x : List UInt8), okD a = true → okD x = true → yLt (9223372036854775807 : Int) (decI a (yLen a)) = false → (okD a = true → (yLt (9223372036854775807 : Int) (decI a (yLen a)) = true → (okD x = true → (yLt (18446744073709551615 : Int) (decI x (yLen x)) = true → False) ∧ (yLt (18446744073709551615 : Int) (decI x (yLen x)) = false → False)) ∧ (okD x = false → False)) ∧ (yLt (9223372036854775807 : Int) (decI a (yLen a)) = false → (okD x = true → (yLt (18446744073709551615 : Int) (decI x (yLen x)) = true → False) ∧ (yLt (18446744073709551615 : Int) (decI x (yLen x)) = false → (rightO (3 : Int) (0 : Int) = true → (3 : Int) = (3 : Int) ∧ decI a (yLen a) = yWrap IntKind.i64 (decI a (yLen a)) ∧ (3 : Int) = (3 : Int) ∧ decI x (yLen x) = decI x (yLen x) ∧ (0 : Int) = (0 : Int) ∧ (0 : Int) = (0 : Int) ∧ (0 : Int) = (0 : Int) ∧ True) ∧ (rightO (3 : Int) (0 : Int) = false → False))) ∧ (okD x = false → False))) ∧ (okD a = false → False)) := by kernel_rfl
set_option maxRecDepth 100000 in
theorem goalEnS_eq : goalEnS = (∀ (a x y z : List UInt8), okD a = true → okD x = true → okD y = true → okD z = true → yLt (9223372036854775807 : Int) (decI a (yLen a)) = false → rightO (4 : Int) (decI z (yLen z)) = true → (okD a = true → (yLt (9223372036854775807 : Int) (decI a (yLen a)) = true → (okD x = true → (yLt (18446744073709551615 : Int) (decI x (yLen x)) = true → (okD y = true → (yLt (18446744073709551615 : Int) (decI y (yLen y)) = true → (okD z = true → (yLt (9223372036854775807 : Int) (decI z (yLen z)) = true → False) ∧ (yLt (9223372036854775807 : Int) (decI z (yLen z)) = false → False)) ∧ (okD z = false → False)) ∧ (yLt (18446744073709551615 : Int) (decI y (yLen y)) = false → (okD z = true → (yLt (9223372036854775807 : Int) (decI z (yLen z)) = true → False) ∧ (yLt (9223372036854775807 : Int) (decI z (yLen z)) = false → False)) ∧ (okD z = false → False))) ∧ (okD y = false → False)) ∧ (yLt (18446744073709551615 : Int) (decI x (yLen x)) = false → (okD y = true → (yLt (18446744073709551615 : Int) (decI y (yLen y)) = true → (okD z = true → (yLt (9223372036854775807 : Int) (decI z (yLen z)) = true → False) ∧ (yLt (9223372036854775807 : Int) (decI z (yLen z)) = false → False)) ∧ (okD z = false → False)) ∧ (yLt (18446744073709551615 : Int) (decI y (yLen y)) = false → (okD z = true → (yLt (9223372036854775807 : Int) (decI z (yLen z)) = true → False) ∧ (yLt (9223372036854775807 : Int) (decI z (yLen z)) = false → False)) ∧ (okD z = false → False))) ∧ (okD y = false → False))) ∧ (okD x = false → False)) ∧ (yLt (9223372036854775807 : Int) (decI a (yLen a)) = false → (okD x = true → (yLt (18446744073709551615 : Int) (decI x (yLen x)) = true → (okD y = true → (yLt (18446744073709551615 : Int) (decI y (yLen y)) = true → (okD z = true → (yLt (9223372036854775807 : Int) (decI z (yLen z)) = true → False) ∧ (yLt (9223372036854775807 : Int) (decI z (yLen z)) = false → False)) ∧ (okD z = false → False)) ∧ (yLt (18446744073709551615 : Int) (decI y (yLen y)) = false → (okD z = true → (yLt (9223372036854775807 : Int) (decI z (yLen z)) = true → False) ∧ (yLt (9223372036854775807 : Int) (decI z (yLen z)) = false → False)) ∧ (okD z = false → False))) ∧ (okD y = false → False)) ∧ (yLt (18446744073709551615 : Int) (decI x (yLen x)) = false → (okD y = true → (yLt (18446744073709551615 : Int) (decI y (yLen y)) = true → (okD z = true → (yLt (9223372036854775807 : Int) (decI z (yLen z)) = true → False) ∧ (yLt (9223372036854775807 : Int) (decI z (yLen z)) = false → False)) ∧ (okD z = false → False)) ∧ (yLt (18446744073709551615 : Int) (decI y (yLen y)) = false → (okD z = true → (yLt (9223372036854775807 : Int) (decI z (yLen z)) = true → False) ∧ (yLt (9223372036854775807 : Int) (decI z (yLen z)) = false → (rightO (4 : Int) (yWrap IntKind.i64 (decI z (yLen z))) = true → (3 : Int) = (3 : Int) ∧ decI a (yLen a) = yWrap IntKind.i64 (decI a (yLen a)) ∧ (4 : Int) = (4 : Int) ∧ decI x (yLen x) = decI x (yLen x) ∧ (0 : Int) = (0 : Int) ∧ decI y (yLen y) = decI y (yLen y) ∧ decI z (yLen z) = yWrap IntKind.i64 (decI z (yLen z)) ∧ True) ∧ (rightO (4 : Int) (yWrap IntKind.i64 (decI z (yLen z))) = false → False))) ∧ (okD z = false → False))) ∧ (okD y = false → False))) ∧ (okD x = false → False))) ∧ (okD a = false → False)) := by kernel_rfl
theorem okD_b {s : List UInt8} (h : okD s = true) : 0 ≤ decI s (yLen s) ∧ yLt 18446744073709551615 (decI s (yLen s)) = false := by
  obtain ⟨_, _, h3, _, h5⟩ := of_decide_eq_true h
  have := decI_bd h3 s.length (Nat.le_refl _)
  refine ⟨this.1, ?_⟩
  rw [yLt_f]
  have h5 : decI s (yLen s) < 18446744073709551616 := h5
  omega
theorem okD_w {s : List UInt8} (h : okD s = true) (h1 : yLt 9223372036854775807 (decI s (yLen s)) = false) : yWrap .i64 (decI s (yLen s)) = decI s (yLen s) := by
  have := okD_b h
  rw [yLt_f] at h1
  exact wrap64 (by omega) (by omega)
set_option maxRecDepth 100000 in
theorem goalEn1_ok : goalEn1 := by
  refine @kernel_go _ _ goalEn1_eq ?_
  intro n _
  simp
set_option maxRecDepth 100000 in
theorem goalEn2_ok : goalEn2 := by
  refine @kernel_go _ _ goalEn2_eq ?_
  intro a ha h1
  have w := okD_w ha h1
  simp [ha, h1, w]
set_option maxRecDepth 100000 in
theorem goalEnG_ok : goalEnG := by
  refine @kernel_go _ _ goalEnG_eq ?_
  intro a x ha hx h1
  have w := okD_w ha h1
  have mx := (okD_b hx).2
  simp [ha, hx, h1, w, mx, show rightO 1 0 = true from rfl]
set_option maxRecDepth 100000 in
theorem goalEnP_ok : goalEnP := by
  refine @kernel_go _ _ goalEnP_eq ?_
  intro a x y ha hx hy h1
  have w := okD_w ha h1
  have mx := (okD_b hx).2
  have my := (okD_b hy).2
  simp [ha, hx, hy, h1, w, mx, my, show rightO 2 0 = true from rfl]
set_option maxRecDepth 100000 in
theorem goalEnD_ok : goalEnD := by
  refine @kernel_go _ _ goalEnD_eq ?_
  intro a x ha hx h1
  have w := okD_w ha h1
  have mx := (okD_b hx).2
  simp [ha, hx, h1, w, mx, show rightO 3 0 = true from rfl]
set_option maxRecDepth 100000 in
theorem goalEnS_ok : goalEnS := by
  refine @kernel_go _ _ goalEnS_eq ?_
  intro a x y z ha hx hy hz h1 hr
  have w := okD_w ha h1
  have mx := (okD_b hx).2
  have my := (okD_b hy).2
  have mz := (okD_b hz).2
  have hz2 : yLt 9223372036854775807 (decI z (yLen z)) = false := by
    have h2 : yAnd (yLe 1 (decI z (yLen z))) (yLe (decI z (yLen z)) 1000) = true := hr
    simp only [yAnd_t, yLe_t] at h2
    rw [yLt_f]; omega
  have w2 := okD_w hz hz2
  simp [ha, hx, hy, hz, h1, w, mx, my, mz, hz2, w2, hr]
end Go.Proofs.YtjelhmdkaemiiaaDoor.Ex
namespace Go.Proofs.YtjelhmdkaemiiaaDoor.Ex
open Go Go.RowKit
set_option maxRecDepth 100000

structure Kept2 (b1 b2 : Nat) (w w' : World) : Prop where
  os : w'.os = w.os
  tape : w'.tape = w.tape
  output : w'.output = w.output
  size : w.heap.size ≤ w'.heap.size
  keep : ∀ k, k < w.heap.size → k ≠ b1 → k ≠ b2 → w'.heap[k]? = w.heap[k]?
theorem lEn_ok (hm : Tryd.prog.follows .mixedOrders = true) : SmOK Tryd.prog (smL lEn) := smL_ok ⟨smPar hm, smFields hm, smRgT hm @goalRg_ok, trivial⟩
def mapEn (b1 b2 n : Nat) : Mp := ⟨fun id => match id with | 0 => some (b1, 2) | 1 => some (b2, n) | _ => none, fun _ => none⟩
theorem en_run (hm : Tryd.prog.follows .mixedOrders = true) {ws : List AV} {vs : List Value} {kd th k key val hi most : Int} (hx : wxE ws kd th k key val hi most) (hr : ∀ M, AV.RL M ws vs)
    {w0 w : World} (g0 : GW w0) (gw : GW w) {b1 b2 : Nat} (l1 : w0.heap.size ≤ b1) (l2 : w0.heap.size ≤ b2) (hne : b1 ≠ b2) (h1 : w.heap[b1]? = some (.cells #[.slice (some ⟨b2, 0, none⟩) vs.length vs.length, .int .i64 0] 66 (0, 0)))
    (h2 : w.heap[b2]? = some (.cells vs.toArray 9 (0, 0))) :
    Calls Tryd.prog 24 #[.pointer (some ⟨b1, 0, none⟩)] w fun e w' => e = .returned (.agg #[.int .i64 kd, .int .i64 th, .int .i64 k, .int .u64 key, .int .u64 val, .int .u64 hi, .int .i64 most]) ∧ Kept2 b1 b2 w w' := by
  have hlen := RL_length (hr noM)
  unfold wxE at hx
  have hget : ∀ id, (heapOf [aoLn ws.length, aoWs ws]).get id = [aoLn ws.length, aoWs ws][id]? := heapOf_get (by show 2 < 4294967296; omega)
  have hGL : ∀ b, w0.heap.size ≤ b → GL b = none := fun b hb => by
    cases hg : GL b with
    | none => rfl
    | some c =>
      obtain ⟨_, _, _, q, _⟩ := g0 b c hg
      exact absurd (heap_lt q) (by omega)
  have hrel : Rel (mapEn b1 b2 vs.length) (heapOf [aoLn ws.length, aoWs ws]) w := by
    refine ⟨fun id o hg => ?_, fun i j b κ κ' o hi hro hj e1 e2 => ?_, fun x hx => ?_, gw, fun x b κ o hx hro e => ?_, fun b cs e => (by cases e), fun i b κ o hi hro e => rfl⟩
    · rw [hget] at hg
      match id, hg with
      | 0, hg =>
        simp only [List.getElem?_cons_zero, Option.some.injEq] at hg
        subst hg
        exact .inr ⟨b1, 2, _, rfl, h1, _, [], ⟨_, _, ⟨b2, vs.length, rfl, rfl⟩, ⟨_, _, rfl, rfl, rfl⟩, rfl⟩, by simp [hlen], rfl⟩
      | 1, hg =>
        simp only [List.getElem?_cons_succ, List.getElem?_cons_zero, Option.some.injEq] at hg
        subst hg
        exact .inr ⟨b2, vs.length, _, rfl, h2, vs, [], hr _, by simp, rfl⟩
      | n + 2, hg => simp at hg
    · match i, j, e1, e2 with
      | 0, 0, _, _ => rfl
      | 1, 1, _, _ => rfl
      | 0, 1, e1, e2 => simp only [mapEn, Option.some.injEq, Prod.mk.injEq] at e1 e2; exact absurd (e1.1.trans e2.1.symm) hne
      | 1, 0, e1, e2 => simp only [mapEn, Option.some.injEq, Prod.mk.injEq] at e1 e2; exact absurd (e2.1.trans e1.1.symm) hne
      | 0, n + 2, _, e2 => cases e2
      | 1, n + 2, _, e2 => cases e2
      | n + 2, _, e1, _ => cases e1
    · rw [hget] at hx
      have : x < [aoLn ws.length, aoWs ws].length := by
        rcases Nat.lt_or_ge x [aoLn ws.length, aoWs ws].length with h | h
        · exact h
        · exact absurd (List.getElem?_eq_none h) hx
      exact this
    · match x, e with
      | 0, e => simp only [mapEn, Option.some.injEq, Prod.mk.injEq] at e; rw [← e.1]; exact hGL b1 l1
      | 1, e => simp only [mapEn, Option.some.injEq, Prod.mk.injEq] at e; rw [← e.1]; exact hGL b2 l2
      | n + 2, e => cases e
  have hfr : FreshA (mapEn b1 b2 vs.length) (heapOf [aoLn ws.length, aoWs ws]).nx := fun id hid => by
    have : 2 ≤ id := hid
    match id with
    | 0 => omega
    | 1 => omega
    | n + 2 => rfl
  have own : ∀ b, OwnP (mapEn b1 b2 vs.length) (heapOf [aoLn ws.length, aoWs ws]) b → b = b1 ∨ b = b2 := fun b ⟨i, κ, o, _, _, e⟩ => by
    match i, e with
    | 0, e => simp only [mapEn, Option.some.injEq, Prod.mk.injEq] at e; exact .inl e.1.symm
    | 1, e => simp only [mapEn, Option.some.injEq, Prod.mk.injEq] at e; exact .inr e.1.symm
    | n + 2, e => cases e
  obtain ⟨_, cc⟩ := wxF_ok hm (lEn_ok hm) hx (mapEn b1 b2 vs.length) [.pointer (some ⟨b1, 0, none⟩)] w none (fun e w' => e = .returned (.agg #[.int .i64 kd, .int .i64 th, .int .i64 k, .int .u64 key, .int .u64 val, .int .u64 hi, .int .i64 most]) ∧ Kept2 b1 b2 w w')
    ⟨_, _, ⟨b1, 2, rfl, rfl⟩, rfl, rfl⟩ hrel hfr (fun v h' M' u w' hk rv _ _ f _ => by
      have hv := cmpAg_R hk (M' := noM) rv
      obtain ⟨_, ⟨_, _, rfl, ⟨_, _, rfl, ⟨_, _, rfl, ⟨_, _, rfl, ⟨_, _, rfl, ⟨_, _, rfl, ⟨_, _, rfl, rfl, rfl⟩, rfl⟩, rfl⟩, rfl⟩, rfl⟩, rfl⟩, rfl⟩, rfl⟩ := hv
      exact ⟨rfl, f.os, f.tape, f.output, f.size, fun k hk h1 h2 => f.keep k hk (fun ho => (own k ho).elim h1 h2)⟩)
  exact CallsIn.calls cc (fun k d hd => by simp [FW] at hd)
theorem lt63 {n : Int} (h : n < 9223372036854775808) : yLt 9223372036854775807 n = false := by rw [yLt_f]; omega
theorem r4 {n : Int} (h : 1 ≤ n) (k : n ≤ 1000) : rightO 4 n = true := by
  show yAnd (yLe 1 n) (yLe n 1000) = true
  simp only [yAnd_t, yLe_t]; exact ⟨h, k⟩
theorem strs_R (M : Mp) (a : List UInt8) : (AV.s a).R M (.string ⟨a.toArray⟩) := rfl
theorem strs_Ry (M : Mp) (a : List UInt8) : (AV.ys a).R M (.string ⟨a.toArray⟩) := rfl
abbrev strV (a : List UInt8) : Value := .string ⟨a.toArray⟩
theorem en_calls (hm : Tryd.prog.follows .mixedOrders = true) {e : Ent} {ws : List (List UInt8)} (hL : Lined e ws)
    {w0 w : World} (g0 : GW w0) (gw : GW w) {b1 b2 : Nat} (l1 : w0.heap.size ≤ b1) (l2 : w0.heap.size ≤ b2) (hne : b1 ≠ b2) (h1 : w.heap[b1]? = some (.cells #[.slice (some ⟨b2, 0, none⟩) (ws.map strV).length (ws.map strV).length, .int .i64 0] 66 (0, 0)))
    (h2 : w.heap[b2]? = some (.cells (ws.map strV).toArray 9 (0, 0))) :
    Calls Tryd.prog 24 #[.pointer (some ⟨b1, 0, none⟩)] w fun en w' => en = .returned (.agg #[.int .i64 e.kd, .int .i64 e.th, .int .i64 e.k, .int .u64 e.key, .int .u64 e.val, .int .u64 e.hi, .int .i64 e.most]) ∧ Kept2 b1 b2 w w' := by
  have tt : ∀ {n : Int}, 0 ≤ n → n < 9223372036854775808 → okD (fm n) = true ∧ decI (fm n) (yLen (fm n)) = n := fun h0 h1 => ⟨okD_fm h0 (by omega), dc_fm h0 (by omega)⟩
  have uu : ∀ {n : Int}, inU n = true → okD (fm n) = true ∧ decI (fm n) (yLen (fm n)) = n := fun h => ⟨okD_fm (inU_b h).1 (inU_b h).2, dc_fm (inU_b h).1 (inU_b h).2⟩
  cases hL with
  | tick => exact en_run hm (ws := [.s [116, 105, 99, 107]]) (vs := [strV wTick]) (@goalEn1_ok 0 rfl) (fun M => ⟨_, _, rfl, rfl, rfl⟩) g0 gw l1 l2 hne h1 h2
  | pick th t1 t2 =>
    obtain ⟨a1, a2⟩ := tt t1 t2
    have hx := @goalEn2_ok (fm th) a1 (by rw [a2]; exact lt63 t2)
    rw [a2] at hx
    exact en_run hm (vs := [strV wPk, strV (fm th)]) hx (fun M => ⟨_, _, rfl, ⟨_, _, rfl, rfl, rfl⟩, rfl⟩) g0 gw l1 l2 hne h1 h2
  | get th key t1 t2 t3 =>
    obtain ⟨a1, a2⟩ := tt t1 t2
    obtain ⟨k1, k2⟩ := uu t3
    have hx := @goalEnG_ok (fm th) (fm key) a1 k1 (by rw [a2]; exact lt63 t2)
    rw [a2, k2] at hx
    exact en_run hm (vs := [strV wSb, strV (fm th), strV wGet, strV (fm key)]) hx (fun M => ⟨_, _, rfl, ⟨_, _, rfl, ⟨_, _, rfl, ⟨_, _, rfl, rfl, rfl⟩, rfl⟩, rfl⟩, rfl⟩) g0 gw l1 l2 hne h1 h2
  | put th key val t1 t2 t3 t4 =>
    obtain ⟨a1, a2⟩ := tt t1 t2
    obtain ⟨k1, k2⟩ := uu t3
    obtain ⟨v1, v2⟩ := uu t4
    have hx := @goalEnP_ok (fm th) (fm key) (fm val) a1 k1 v1 (by rw [a2]; exact lt63 t2)
    rw [a2, k2, v2] at hx
    exact en_run hm (vs := [strV wSb, strV (fm th), strV wPut, strV (fm key), strV (fm val)]) hx (fun M => ⟨_, _, rfl, ⟨_, _, rfl, ⟨_, _, rfl, ⟨_, _, rfl, ⟨_, _, rfl, rfl, rfl⟩, rfl⟩, rfl⟩, rfl⟩, rfl⟩) g0 gw l1 l2 hne h1 h2
  | delete th key t1 t2 t3 =>
    obtain ⟨a1, a2⟩ := tt t1 t2
    obtain ⟨k1, k2⟩ := uu t3
    have hx := @goalEnD_ok (fm th) (fm key) a1 k1 (by rw [a2]; exact lt63 t2)
    rw [a2, k2] at hx
    exact en_run hm (vs := [strV wSb, strV (fm th), strV wDelete, strV (fm key)]) hx (fun M => ⟨_, _, rfl, ⟨_, _, rfl, ⟨_, _, rfl, ⟨_, _, rfl, rfl, rfl⟩, rfl⟩, rfl⟩, rfl⟩) g0 gw l1 l2 hne h1 h2
  | scan th key hi most t1 t2 t3 t4 t5 t6 =>
    obtain ⟨a1, a2⟩ := tt t1 t2
    obtain ⟨k1, k2⟩ := uu t3
    obtain ⟨v1, v2⟩ := uu t4
    obtain ⟨m1, m2⟩ := tt (n := most) (by omega) (by omega)
    have hx := @goalEnS_ok (fm th) (fm key) (fm hi) (fm most) a1 k1 v1 m1 (by rw [a2]; exact lt63 t2) (by rw [m2]; exact r4 t5 t6)
    rw [a2, k2, v2, m2] at hx
    exact en_run hm (vs := [strV wSb, strV (fm th), strV wScan, strV (fm key), strV (fm hi), strV (fm most)]) hx (fun M => ⟨_, _, rfl, ⟨_, _, rfl, ⟨_, _, rfl, ⟨_, _, rfl, ⟨_, _, rfl, ⟨_, _, rfl, rfl, rfl⟩, rfl⟩, rfl⟩, rfl⟩, rfl⟩, rfl⟩) g0 gw l1 l2 hne h1 h2
theorem idle (p q : Addr) (w : World) :
    CallsD Tryd.prog 22 #[.pointer (some p), .pointer (some q)] .returning w fun e u' w' => e = .returned (.tuple #[]) ∧ u' = .returning ∧ w' = w := by
  refine callsD_of_wpS Tryd.func22 rfl fun c₀ cs hu => ?_
  apply wpS_seq
  apply wpS_region
  simp [wpOpsS, go_sem, recoverD, hu, Tryd.ntmps22, Exit.thenS]
  apply wpS_seq
  apply wpS_region
  simp [wpOpsS, go_sem, Exit.thenS]
  refine wpS_cond (t := false) (by simp [Act.eval, Array.replicate]) ?_
  simp only [Bool.false_eq_true, if_false]
  refine wpS_of_wp (wp_skip ?_)
  cases c₀
  simp_all [bodyPostS, results, Tryd.results22]
theorem jn_len {e : Ent} {ws : List (List UInt8)} (hL : Lined e ws) : (jn 32 ws).length ≤ 130 := by
  rw [← hL.line]; exact lineC_len _ _ _ _ _ _ _
theorem split_calls {e : Ent} {ws : List (List UInt8)} (hL : Lined e ws) {s : List UInt8} (hs : s = jn 32 ws) (w : World) :
    Calls Tryd.prog 23 #[.string ⟨s.toArray⟩, .string ⟨#[32]⟩] w fun e w' => e = .returned (.slice (some ⟨w.heap.size, 0, none⟩) (ws.map strV).length (ws.map strV).length) ∧ w' = w.alloc (.cells (ws.map strV).toArray 9) := by
  have hlen := jn_len hL
  have hsp := hL.sp
  rw [hL.line, ← hs] at hsp
  rw [← hs] at hlen
  have hcB : Lib.countB ⟨s.toArray⟩ ⟨[32].toArray⟩ = s.count 32 := by show Lib.count s [32] = _; exact Lib.count_one 32 s
  have hd := Lib.splitB_data ⟨[32].toArray⟩ 0 (s.count 32) ⟨s.toArray⟩
  have hsS : ws = (Lib.splitB ⟨[32].toArray⟩ 0 (s.count 32) ⟨s.toArray⟩).map (·.data.toList) := by
    rw [hd, ← hsp.1]; unfold spS; rw [Lib.count_one]
  have hmap : ws.map strV = (Lib.splitB ⟨[32].toArray⟩ 0 (s.count 32) ⟨s.toArray⟩).map Value.string := by
    rw [hsS, List.map_map]
    apply List.map_congr_left
    intro p _
    simp [strV]
  refine (splitOne ⟨s.toArray⟩ 32 w (by show s.length < _; omega)).mono fun e w' ⟨he, hw⟩ => ⟨?_, ?_⟩
  · rw [he, hcB, List.length_map, ← hsp.2]
  · rw [hw, hcB, hmap]
theorem gw_below' {w w' : World} (h : GW w) (hb : ∀ k, k < w.heap.size → w'.heap[k]? = w.heap[k]?) : GW w' := fun g c hg => by
  obtain ⟨vs, e, fr, h1, h2⟩ := h g c hg
  exact ⟨vs, e, fr, by rw [hb g (heap_lt h1)]; exact h1, h2⟩
theorem heap4 (w : World) (A B C D : Obj) : ((((w.alloc A).alloc B).alloc C).alloc D).heap = (((w.heap.push A).push B).push C).push D := rfl
theorem push_lt {α : Type} (h : Array α) (D : α) {k : Nat} (hk : k ≠ h.size) : (h.push D)[k]? = h[k]? := by rw [Array.getElem?_push, if_neg hk]
theorem push4 {α : Type} (h : Array α) (A B C D : α) : ((((h.push A).push B).push C).push D)[h.size]? = some A ∧ ((((h.push A).push B).push C).push D)[h.size + 1]? = some B ∧ ((((h.push A).push B).push C).push D)[h.size + 1 + 1]? = some C ∧
    ((((h.push A).push B).push C).push D)[h.size + 1 + 1 + 1]? = some D ∧ ((((h.push A).push B).push C).push D).size = h.size + 4 := by
  have s1 : ((h.push A).push B).size = h.size + 1 + 1 := by simp
  have s2 : (((h.push A).push B).push C).size = h.size + 1 + 1 + 1 := by simp
  have s0 : (h.push A).size = h.size + 1 := by simp
  refine ⟨?_, ?_, ?_, ?_, by simp⟩
  · rw [push_lt _ _ (by omega), push_lt _ _ (by omega), push_lt _ _ (by omega)]; simp
  · rw [push_lt _ _ (by omega), push_lt _ _ (by omega), ← s0]; exact Array.getElem?_push_size
  · rw [push_lt _ _ (by omega), ← s1]; exact Array.getElem?_push_size
  · rw [← s2]; exact Array.getElem?_push_size
theorem entry_at (hm : Tryd.prog.follows .mixedOrders = true) {e : Ent} {ws : List (List UInt8)} (hL : Lined e ws) (w : World) (gw : GW w) (A B : Obj) :
    Calls Tryd.prog 24 #[.pointer (some ⟨w.heap.size + 1 + 1 + 1, 0, none⟩)] ((((w.alloc A).alloc B).alloc (.cells (ws.map strV).toArray 9)).alloc (.cells #[.slice (some ⟨w.heap.size + 1 + 1, 0, none⟩) ws.length ws.length, .int .i64 0] 66)) fun en w' =>
      en = .returned (.agg #[.int .i64 e.kd, .int .i64 e.th, .int .i64 e.k, .int .u64 e.key, .int .u64 e.val, .int .u64 e.hi, .int .i64 e.most]) ∧ (w'.heap[w.heap.size]? = some A ∧ w'.heap[w.heap.size + 1]? = some B ∧ Below w.heap.size w w') := by
  have b0 : Below w.heap.size w ((((w.alloc A).alloc B).alloc (.cells (ws.map strV).toArray 9)).alloc (.cells #[.slice (some ⟨w.heap.size + 1 + 1, 0, none⟩) ws.length ws.length, .int .i64 0] 66)) :=
    ((((Below.refl _ w).alloc (Nat.le_refl _) _).alloc (by simp) _).alloc (by simp; omega) _).alloc (by simp; omega) _
  have hh := heap4 w A B (.cells (ws.map strV).toArray 9) (.cells #[.slice (some ⟨w.heap.size + 1 + 1, 0, none⟩) ws.length ws.length, .int .i64 0] 66)
  generalize ((((w.alloc A).alloc B).alloc (.cells (ws.map strV).toArray 9)).alloc (.cells #[.slice (some ⟨w.heap.size + 1 + 1, 0, none⟩) ws.length ws.length, .int .i64 0] 66)) = W at b0 hh ⊢
  obtain ⟨p0, p1, p2, p3, p4⟩ := push4 w.heap A B (.cells (ws.map strV).toArray 9) (.cells #[.slice (some ⟨w.heap.size + 1 + 1, 0, none⟩) ws.length ws.length, .int .i64 0] 66)
  rw [← hh] at p0 p1 p2 p3 p4
  refine (en_calls hm hL (w0 := w) gw (gw_below' gw b0.block) (b1 := w.heap.size + 1 + 1 + 1) (b2 := w.heap.size + 1 + 1) (by omega) (by omega) (by omega) ?_ p2).mono ?_
  · rw [p3, List.length_map]
  · rintro en w' ⟨he, hk⟩
    refine ⟨he, ?_, ?_, ?_⟩
    · rw [hk.keep _ (by omega) (by omega) (by omega)]
      exact p0
    · rw [hk.keep _ (by omega) (by omega) (by omega)]
      exact p1
    · refine ⟨hk.os.trans b0.os, hk.tape.trans b0.tape, hk.output.trans b0.output, Nat.le_trans b0.size hk.size, fun k hlt => ?_⟩
      rw [hk.keep k (Nat.lt_of_lt_of_le hlt b0.size) (by omega) (by omega)]
      exact b0.block k hlt
theorem parsed_walk (hm : Tryd.prog.follows .mixedOrders = true) {s : List UInt8} (h : okLn s = true) (w : World) (gw : GW w) :
    Calls Tryd.prog 13 #[.string ⟨s.toArray⟩] w fun e w' => e = .returned (.tuple #[.agg #[.int .i64 (entI s).kd, .int .i64 (entI s).th, .int .i64 (entI s).k, .int .u64 (entI s).key, .int .u64 (entI s).val, .int .u64 (entI s).hi, .int .i64 (entI s).most], .int .i64 0]) ∧ Below w.heap.size w w' := by
  obtain ⟨ws, hL, hs⟩ := okLn_t h
  have hmf : ∀ (fn : Fn) (first cap : Array Value) (w : World), (Instr.makeFunc fn first cap).run Tryd.prog w = .ok (.func fn first cap) w := fun _ _ _ _ => rfl
  have HM := Lib.hid hm
  have HG := Lib.hid gw
  have HL := Lib.hid hL
  have HS := Lib.hid hs
  clear hm gw hL hs
  go_enter_defers Tryd.func13, Tryd.ntmps13
  go_wp2_with (go_at_call 23; refine Calls.mono (split_calls HL.out HS.out _) ?_)
  rintro e w1 ⟨rfl, rfl⟩
  go_wp2_with (go_at_call 24; refine Calls.mono (entry_at HM.out HL.out w HG.out _ _) ?_)
  rintro e w1 ⟨rfl, hA, hB, hb⟩
  have c0 : w1.cell? ⟨w.heap.size, 0, none⟩ = some (.int .i64 0) := by simp only [World.cell?, hA]; rfl
  have c1 : w1.cell? ⟨w.heap.size, 1, none⟩ = some (.int .i64 0) := by simp only [World.cell?, hA]; rfl
  have c2 : w1.cell? ⟨w.heap.size, 2, none⟩ = some (.int .i64 0) := by simp only [World.cell?, hA]; rfl
  have c3 : w1.cell? ⟨w.heap.size, 3, none⟩ = some (.int .u64 0) := by simp only [World.cell?, hA]; rfl
  have c4 : w1.cell? ⟨w.heap.size, 4, none⟩ = some (.int .u64 0) := by simp only [World.cell?, hA]; rfl
  have c5 : w1.cell? ⟨w.heap.size, 5, none⟩ = some (.int .u64 0) := by simp only [World.cell?, hA]; rfl
  have c6 : w1.cell? ⟨w.heap.size, 6, none⟩ = some (.int .i64 0) := by simp only [World.cell?, hA]; rfl
  have c7 : w1.cell? ⟨w.heap.size + 1, 0, none⟩ = some (.int .i64 0) := by simp only [World.cell?, hB]; rfl
  have z0 : ∀ i, w1.frozen? ⟨w.heap.size, i, none⟩ = false := fun i => by simp [World.frozen?, hA]
  have z1 : ∀ i, w1.frozen? ⟨w.heap.size + 1, i, none⟩ = false := fun i => by simp [World.frozen?, hB]
  go_wp2_with (fail)
  refine leaves_cons (f := 22) (args := #[.pointer (some ⟨w.heap.size, 0, none⟩), .pointer (some ⟨w.heap.size + 1, 0, none⟩)]) (by simp) (by simp [go_sem]) ?_
  refine (idle _ _ _).mono ?_
  rintro e u' w'' ⟨rfl, rfl, rfl⟩
  simp [Leaves, settle, results, Tryd.results13, go_sem, c0, c1, c2, c3, c4, c5, c6, c7]
  exact (((((((hb.setCell (Nat.le_refl _) _).setCell (Nat.le_refl _) _).setCell (Nat.le_refl _) _).setCell (Nat.le_refl _) _).setCell (Nat.le_refl _) _).setCell (Nat.le_refl _) _).setCell (Nat.le_refl _) _).setCell (Nat.le_succ _) _
def fParsed (ds : List Da) : Option (Bool × AV) :=
  match ds with
  | [.cell (.v (.ys s))] => some (okLn s, .tup [avE (fKd s) (fTh s) (fOk s) (fKey s) (fVal s) (fHi s) (fMost s), .i .i64 (.ofNat 0)])
  | _ => none
theorem smParsed (hm : Tryd.prog.follows .mixedOrders = true) : SmCall Tryd.prog 13 (fun args h => (ctS [.cell none] fParsed args h).sel) :=
  ctS_hand Tryd.func13 (by kernel_rfl) (by kernel_rfl) (fun ds a us w hF hd hw => by
    unfold fParsed at hF
    split at hF
    case h_2 => cases hF
    rename_i s
    simp only [Option.some.injEq, Prod.mk.injEq] at hF
    obtain ⟨h1, rfl⟩ := hF
    obtain ⟨d0, ds1, u0, us1, e1, rfl, hd1, hd⟩ := hd
    simp only [List.cons.injEq] at e1
    obtain ⟨rfl, rfl⟩ := e1
    obtain ⟨_, rfl⟩ := hd
    obtain rfl : u0 = .string ⟨s.toArray⟩ := hd1
    exact (parsed_walk hm h1 w hw).mono fun e w' ⟨he, hb⟩ => ⟨_, he, fun M => ⟨_, ⟨_, _, ⟨_, ⟨_, _, rfl, ⟨_, _, rfl, ⟨_, _, rfl, ⟨_, _, rfl, ⟨_, _, rfl, ⟨_, _, rfl, ⟨_, _, rfl, rfl, rfl⟩, rfl⟩, rfl⟩, rfl⟩, rfl⟩, rfl⟩, rfl⟩, rfl⟩, ⟨_, _, rfl, rfl, rfl⟩, rfl⟩, rfl⟩, hb⟩)
end Go.Proofs.YtjelhmdkaemiiaaDoor.Ex
namespace Go.Proofs.YtjelhmdkaemiiaaDoor.Ex
open Go Go.RowKit

-- OPEN prPs mPs
def lCut : List (Nat × Sm) := [(28, .ct (ctS gS2 fIdx))]
abbrev rCut : Sx := .tup [.sc, .sc, .sc]
abbrev dCut (s : List UInt8) : Dx := .l [.v (.ys (cutA s 10)), .v (.ys (cutB s 10)), .v (.b true)]
def goalCut : Prop := ∀ (s : List UInt8), hasN s = true → wxS Tryd.prog (smL lCut) (fun _ => none) 12 [.sc, .sc] [.v (.ys s), .v (.ys [10])] rCut (dCut s) []
/-- strings.Cut at a line's end that is there. -/
def fCut (ds : List Dx) : Option (Bool × Dx × List (List Dx)) :=
  match ds with
  | [.v (.ys s), .v (.ys [c])] => some (yAnd (decide (c = 10)) (hasN s), dCut s, [])
  | _ => none
def lPs : List (Nat × Sm) := [(12, .ct (ctX [.sc, .sc] rCut fCut)), (13, .ct (ctS [.cell none] fParsed))]
abbrev kE : List CK := [.int .i64, .int .i64, .int .i64, .int .u64, .int .u64, .int .u64, .int .i64]
abbrev colsP (s : List UInt8) : List Col := [.int .i64 (fun j => fKd (lnAt s j)), .int .i64 (fun j => fTh (lnAt s j)), .int .i64 (fun j => fOk (lnAt s j)), .int .u64 (fun j => fKey (lnAt s j)), .int .u64 (fun j => fVal (lnAt s j)), .int .u64 (fun j => fHi (lnAt s j)), .int .i64 (fun j => fMost (lnAt s j))]
abbrev slE (id k : Nat) : AV := .ysl false (yNeq k 0) id 7 0 k
abbrev arP (s : List UInt8) (k : Nat) : AO := .arr false 29 7 k (colF (colsP s))
def prPs (s : List UInt8) (j : Nat) : Prop := j ≤ nL s
def mPs (s : List UInt8) (j : Nat) : Nat := nL s - j
def annPs (s : List UInt8) (b : Nat) : Option (St → LoopA) :=
  match b with
  | 0 => some fun _ => { ι := Nat, tms := [0, 5, 6], tmU := fun j => [.ys (restL s j), slE 0 j, .y .i64 (yInt (yNadd j 1))], ids := [0], hpU := fun j => [arP s j], del := [], ex := 1, pre := prPs s, ms := mPs s }
  | _ => none
abbrev rPs : Sx := .tup [.own 29 kE, .sc, .sc]
abbrev dPs (s : List UInt8) : Dx := .l [.rows (yNeq (nL s) 0) (nL s) (colsP s), .v (.i .i64 (.ofNat 0)), .v (.i .i64 (.ofNat 0))]
def fPs (ds : List Dx) : Option (Bool × Dx × List (List Dx)) :=
  match ds with
  | [.v (.ys s)] => some (okPar s, dPs s, [])
  | _ => none
def goalPs : Prop := ∀ (s : List UInt8), okPar s = true → wxS Tryd.prog (smL lPs) (annPs s) 6 [.sc] [.v (.ys s)] rPs (dPs s) []
set_option maxRecDepth 100000 in
theorem goalCut_eq : goalCut = (∀ (s : List UInt8), hasN s = true → (true = true → (yLe (0 : Int) (idxB s (10 : UInt8)) = true → (yIn (idxB s (10 : UInt8)) (Nat.succ (yLen s)) = true → (yIn (yWrap IntKind.i64 (yAdd (idxB s (10 : UInt8)) (yInt (yLen [(10 : UInt8)])))) (Nat.succ (yLen s)) = true → cutA s (10 : UInt8) = ySlice s (nat_lit 0) (yNat (idxB s (10 : UInt8))) ∧ cutB s (10 : UInt8) = ySlice s (yNat (yWrap IntKind.i64 (yAdd (idxB s (10 : UInt8)) (yInt (yLen [(10 : UInt8)]))))) (yLen s) ∧ true = true ∧ true = true) ∧ (yIn (yWrap IntKind.i64 (yAdd (idxB s (10 : UInt8)) (yInt (yLen [(10 : UInt8)])))) (Nat.succ (yLen s)) = false → False)) ∧ (yIn (idxB s (10 : UInt8)) (Nat.succ (yLen s)) = false → False)) ∧ (yLe (0 : Int) (idxB s (10 : UInt8)) = false → cutA s (10 : UInt8) = s ∧ cutB s (10 : UInt8) = [] ∧ true = false ∧ true = true)) ∧ (true = false → False)) := by kernel_rfl
set_option maxRecDepth 100000 in
theorem goalPs_eq : goalPs = (∀ (s : List UInt8), okPar s = true → true = true ∧ (∃ (i0 : Nat), prPs s i0 ∧ true = true ∧ restL s i0 = s ∧ yNeq i0 (nat_lit 0) = true ∧ i0 = nat_lit 0 ∧ yInt (yNadd i0 (nat_lit 1)) = (1 : Int) ∧ i0 = nat_lit 0 ∧ true = true ∧ true = true) ∧ ∀ (g : Nat → AV) (i : Nat), prPs s i → (yNot (ySEq (restL s i) []) = true → (yAnd true (hasN (restL s i)) = true → (okLn (cutA (restL s i) (10 : UInt8)) = true → (yNeq i i = true → (yGrow (yNadd i (nat_lit 1)) (nat_lit 56) = true → true = true ∧ ∃ (i' : Nat), prPs s i' ∧ Nat.succ (mPs s i') ≤ mPs s i ∧ true = true ∧ restL s i' = cutB (restL s i) (10 : UInt8) ∧ yNeq i' (nat_lit 0) = yAnd (yNeq i (nat_lit 0)) (yNeq (nat_lit 1) (nat_lit 0)) ∧ nat_lit 0 = nat_lit 0 ∧ i' = yNadd i (nat_lit 1) ∧ yInt (yNadd i' (nat_lit 1)) = yWrap IntKind.i64 (yAdd (yInt (yNadd i (nat_lit 1))) (1 : Int)) ∧ i' = yNadd i (nat_lit 1) ∧ (∀ (i_1 : Nat), Nat.succ i_1 ≤ i' → fKd (lnAt s i_1) = ySel (yNlt i_1 i) (fKd (lnAt s i_1)) (fKd (cutA (restL s i) (10 : UInt8))) ∧ fTh (lnAt s i_1) = ySel (yNlt i_1 i) (fTh (lnAt s i_1)) (fTh (cutA (restL s i) (10 : UInt8))) ∧ fOk (lnAt s i_1) = ySel (yNlt i_1 i) (fOk (lnAt s i_1)) (fOk (cutA (restL s i) (10 : UInt8))) ∧ fKey (lnAt s i_1) = ySel (yNlt i_1 i) (fKey (lnAt s i_1)) (fKey (cutA (restL s i) (10 : UInt8))) ∧ fVal (lnAt s i_1) = ySel (yNlt i_1 i) (fVal (lnAt s i_1)) (fVal (cutA (restL s i) (10 : UInt8))) ∧ fHi (lnAt s i_1) = ySel (yNlt i_1 i) (fHi (lnAt s i_1)) (fHi (cutA (restL s i) (10 : UInt8))) ∧ fMost (lnAt s i_1) = ySel (yNlt i_1 i) (fMost (lnAt s i_1)) (fMost (cutA (restL s i) (10 : UInt8))) ∧ True) ∧ true = true) ∧ (yGrow (yNadd i (nat_lit 1)) (nat_lit 56) = false → False)) ∧ (yNeq i i = false → False)) ∧ (okLn (cutA (restL s i) (10 : UInt8)) = false → False)) ∧ (yAnd true (hasN (restL s i)) = false → False)) ∧ (yNot (ySEq (restL s i) []) = false → yNeq (nL s) (nat_lit 0) = yNeq i (nat_lit 0) ∧ nat_lit 0 = nat_lit 0 ∧ nL s = i ∧ (0 : Int) = (0 : Int) ∧ (0 : Int) = (0 : Int) ∧ nL s = i ∧ (∀ (i : Nat), Nat.succ i ≤ nL s → fKd (lnAt s i) = fKd (lnAt s i) ∧ fTh (lnAt s i) = fTh (lnAt s i) ∧ fOk (lnAt s i) = fOk (lnAt s i) ∧ fKey (lnAt s i) = fKey (lnAt s i) ∧ fVal (lnAt s i) = fVal (lnAt s i) ∧ fHi (lnAt s i) = fHi (lnAt s i) ∧ fMost (lnAt s i) = fMost (lnAt s i) ∧ True) ∧ true = true)) := by kernel_rfl
theorem smSix : SmCall Tryd.prog 28 (fun args h => (ctS gS2 fIdx args h).sel) :=
  ctS_hand Tryd.func28 (by kernel_rfl) (by kernel_rfl) (fun ds a us w hF hd _ => by
    unfold fIdx at hF
    split at hF
    case h_2 => cases hF
    rename_i s c
    simp only [Option.some.injEq, Prod.mk.injEq, true_and] at hF
    subst hF
    obtain ⟨u, v, rfl, h1, h2⟩ := two_open hd
    obtain rfl : u = .string ⟨s.toArray⟩ := h1
    obtain rfl : v = .string ⟨[c].toArray⟩ := h2
    exact (Any.stringslite_Index_one Tryd.lays219 ⟨s.toArray⟩ c w).mono fun e w' ⟨he, hw⟩ => ⟨_, he, fun M => rfl, hw ▸ Below.refl _ _⟩)
set_option maxRecDepth 100000 in
theorem goalCut_ok : goalCut := by
  refine @kernel_go _ _ goalCut_eq ?_
  simp only [true_implies, true_and, and_true, reduceCtorEq, false_implies]
  intro s h
  obtain ⟨e, hn⟩ := cut_of h
  have hlen : s.length < 4000000000 := (of_decide_eq_true h).1
  have hi : idxB s 10 = (cutA s 10).length := by
    show Lib.indexByte s 10 = _
    have := idx_app 10 (cutB s 10) (cutA s 10) hn
    rw [← e] at this
    exact this
  have hl : s.length = (cutA s 10).length + ((cutB s 10).length + 1) := by
    have := congrArg List.length e
    rw [List.length_append, List.length_cons] at this
    exact this
  have hw : yWrap .i64 (yAdd (idxB s 10) (yInt (yLen [10]))) = ((cutA s 10).length + 1 : Nat) := by
    rw [hi]
    show yWrap .i64 (((cutA s 10).length : Int) + 1) = _
    rw [wrap64 (by omega) (by omega)]; omega
  rw [hw, hi]
  have hs1 : ySlice s 0 (yNat ((cutA s 10).length : Int)) = cutA s 10 := by
    show (s.drop 0).take ((cutA s 10).length - 0) = _
    rw [List.drop_zero, Nat.sub_zero]
    generalize cutA s 10 = A at *
    generalize cutB s 10 = B at *
    subst e
    simp
  have hs2 : ySlice s (yNat (((cutA s 10).length + 1 : Nat) : Int)) (yLen s) = cutB s 10 := by
    show (s.drop ((cutA s 10).length + 1)).take (s.length - ((cutA s 10).length + 1)) = _
    generalize cutA s 10 = A at *
    generalize cutB s 10 = B at *
    subst e
    simp
    exact List.take_of_length_le (by omega)
  rw [hs1, hs2]
  refine ⟨fun _ => ⟨fun _ => ⟨fun _ => ⟨rfl, rfl⟩, fun hh => ?_⟩, fun hh => ?_⟩, fun hh => ?_⟩
  · exfalso
    simp only [yIn_f, yLen] at hh; omega
  · exfalso
    simp only [yIn_f, yLen] at hh; omega
  · exfalso
    simp only [yLe_f] at hh; omega
theorem okPar_t {s : List UInt8} (h : okPar s = true) : nL s ≤ 3000 ∧ (∀ j, j < nL s → restL s j ≠ [] ∧ hasN (restL s j) = true ∧ okLn (lnAt s j) = true) ∧ restL s (nL s) = [] := of_decide_eq_true h
theorem ySEq_nil (l : List UInt8) : ySEq l [] = true ↔ l = [] := by
  show eqS l [] = true ↔ _
  rw [eqS_eq]; simp
set_option maxRecDepth 100000 in
theorem goalPs_ok : goalPs := by
  refine @kernel_go _ _ goalPs_eq ?_
  simp only [true_implies, true_and, and_true, reduceCtorEq, false_implies]
  intro s h
  obtain ⟨h1, h2, h3⟩ := okPar_t h
  refine ⟨⟨0, Nat.zero_le _, rfl, rfl, rfl, rfl, rfl⟩, fun _ i hi => ⟨fun hne => ?_, fun he => ?_⟩⟩
  all_goals have hi : i ≤ nL s := hi
  · have hnn : restL s i ≠ [] := fun e => by
      rw [e] at hne; cases hne
    have hlt : i < nL s := by
      rcases Nat.lt_or_ge i (nL s) with h | h
      · exact h
      · obtain rfl : i = nL s := by omega
        exact absurd h3 hnn
    obtain ⟨_, a2, a3⟩ := h2 i hlt
    have a3' : okLn (cutA (restL s i) 10) = true := a3
    refine ⟨fun _ => ⟨fun _ => ⟨fun _ => ⟨fun _ => ⟨i + 1, hlt, ?_, rfl, ?_, rfl, ?_, rfl, fun q hq => ?_⟩, fun hg => ?_⟩, fun hg => ?_⟩, fun hg => ?_⟩, fun hg => ?_⟩
    · show nL s - (i + 1) + 1 ≤ nL s - i; omega
    · cases i with
      | zero => rfl
      | succ i => rfl
    · show ((i + 1 + 1 : Nat) : Int) = yWrap .i64 (((i + 1 : Nat) : Int) + 1)
      rw [wrap64 (by omega) (by omega)]; omega
    · have hsel : ∀ (f : List UInt8 → Int), f (lnAt s q) = ySel (yNlt q i) (f (lnAt s q)) (f (cutA (restL s i) 10)) := fun f => by
        rcases Nat.lt_or_ge q i with h | h
        · rw [show yNlt q i = true from decide_eq_true h]; rfl
        · obtain rfl : q = i := by omega
          rw [show yNlt q q = false from decide_eq_false (by omega)]; rfl
      exact ⟨hsel fKd, hsel fTh, hsel fOk, hsel fKey, hsel fVal, hsel fHi, hsel fMost⟩
    · exfalso
      simp only [yGrow_f, yNadd] at hg; omega
    · exfalso
      simp only [yNeq_f] at hg; exact hg rfl
    · rw [a3'] at hg; cases hg
    · rw [a2] at hg; cases hg
  · have hnil : restL s i = [] := by
      have : ySEq (restL s i) [] = true := by
        cases e : ySEq (restL s i) [] with
        | true => rfl
        | false => rw [e] at he; cases he
      exact (ySEq_nil _).1 this
    have e : nL s = i := by
      rcases Nat.lt_or_ge i (nL s) with h | h
      · exact absurd hnil (h2 i h).1
      · omega
    exact ⟨by rw [e], e, e, fun _ _ => trivial⟩
set_option maxRecDepth 100000 in
theorem smCutL (hm : Tryd.prog.follows .mixedOrders = true) : SmCall Tryd.prog 12 (fun args h => (ctX [.sc, .sc] rCut fCut args h).sel) :=
  ctX_ok hm (smL_ok (l := lCut) ⟨smSix, trivial⟩) (fun ds r post h => by
    unfold fCut at h
    split at h
    · rename_i s c
      simp only [Option.some.injEq, Prod.mk.injEq, yAnd_t, decide_eq_true_eq] at h
      obtain ⟨⟨rfl, h1⟩, rfl, rfl⟩ := h
      refine ⟨fun _ => none, 1000, ?_⟩
      have h2 := @goalCut_ok
      unfold goalCut at h2
      with_reducible exact @h2 s h1
    · cases h)
set_option maxRecDepth 100000 in
theorem smPs (hm : Tryd.prog.follows .mixedOrders = true) : SmCall Tryd.prog 6 (fun args h => (ctX [.sc] rPs fPs args h).sel) :=
  ctX_ok hm (smL_ok (l := lPs) ⟨smCutL hm, smParsed hm, trivial⟩) (fun ds r post h => by
    unfold fPs at h
    split at h
    · rename_i s
      simp only [Option.some.injEq, Prod.mk.injEq] at h
      obtain ⟨h1, rfl, rfl⟩ := h
      refine ⟨annPs s, 1000, ?_⟩
      have h2 := @goalPs_ok
      unfold goalPs at h2
      with_reducible exact @h2 s h1
    · cases h)
end Go.Proofs.YtjelhmdkaemiiaaDoor.Ex
namespace Go.Proofs.YtjelhmdkaemiiaaDoor.Ex
open Go

-- OPEN sameTo sameAt prSa mSa colsOk
def sameAt (akd ath ak akey aval ahi amost bkd bth bk bkey bval bhi bmost : Nat → Int) (j : Nat) : Bool := yAnd (yEq (akd j) (bkd j)) ( yAnd (yEq (ath j) (bth j)) ( yAnd (yEq (ak j) (bk j)) ( yAnd (yEq (akey j) (bkey j)) ( yAnd (yEq (aval j) (bval j)) ( yAnd (yEq (ahi j) (bhi j)) (yEq (amost j) (bmost j)))))))
def sameTo (akd ath ak akey aval ahi amost bkd bth bk bkey bval bhi bmost : Nat → Int) (i : Nat) : Bool := (List.range i).all fun j => sameAt akd ath ak akey aval ahi amost bkd bth bk bkey bval bhi bmost j
def prSa (n m : Nat) (akd ath ak akey aval ahi amost bkd bth bk bkey bval bhi bmost : Nat → Int) (i : Nat) : Prop := i ≤ n ∧ n = m ∧ sameTo akd ath ak akey aval ahi amost bkd bth bk bkey bval bhi bmost i = true
def mSa (n i : Nat) : Nat := n - i
abbrev gSa : List Ag := [.cell cEnt, .cell cEnt]
abbrev dSa (nilA : Bool) (n : Nat) (nilB : Bool) (m : Nat) (akd ath ak akey aval ahi amost bkd bth bk bkey bval bhi bmost : Nat → Int) : List Da := [.cell (.rows nilA n [.int .i64 akd, .int .i64 ath, .int .i64 ak, .int .u64 akey, .int .u64 aval, .int .u64 ahi, .int .i64 amost]), .cell (.rows nilB m [.int .i64 bkd, .int .i64 bth, .int .i64 bk, .int .u64 bkey, .int .u64 bval, .int .u64 bhi, .int .i64 bmost])]
def fSa (ds : List Da) : Option (Bool × AV) :=
  match ds with
  | [.cell (.rows _ n [.int .i64 akd, .int .i64 ath, .int .i64 ak, .int .u64 akey, .int .u64 aval, .int .u64 ahi, .int .i64 amost]), .cell (.rows _ m [.int .i64 bkd, .int .i64 bth, .int .i64 bk, .int .u64 bkey, .int .u64 bval, .int .u64 bhi, .int .i64 bmost])] => some (yNle n 100000, .yb (yAnd (yNeq n m) (sameTo akd ath ak akey aval ahi amost bkd bth bk bkey bval bhi bmost n)))
  | _ => none
def annSa (n m : Nat) (akd ath ak akey aval ahi amost bkd bth bk bkey bval bhi bmost : Nat → Int) (b : Nat) : Option (St → LoopA) :=
  match b with
  | 0 => some fun _ => { ι := Nat, tms := [5], tmU := fun i => [.y .i64 (yInt i)], ids := [], hpU := fun _ => [], del := [], ex := 0, pre := prSa n m akd ath ak akey aval ahi amost bkd bth bk bkey bval bhi bmost, ms := mSa n }
  | _ => none
def goalSa : Prop := ∀ (nilA : Bool) (n : Nat) (nilB : Bool) (m : Nat) (akd ath ak akey aval ahi amost bkd bth bk bkey bval bhi bmost : Nat → Int), yNle n 100000 = true →
  wxF Tryd.prog noSm (annSa n m akd ath ak akey aval ahi amost bkd bth bk bkey bval bhi bmost) 1000 8 (canA gSa (dSa nilA n nilB m akd ath ak akey aval ahi amost bkd bth bk bkey bval bhi bmost) []).1 (heapOf (canA gSa (dSa nilA n nilB m akd ath ak akey aval ahi amost bkd bth bk bkey bval bhi bmost) []).2) (fun v _ => cmpC (.yb (yAnd (yNeq n m) (sameTo akd ath ak akey aval ahi amost bkd bth bk bkey bval bhi bmost n))) v)
set_option maxRecDepth 100000 in
theorem goalSa_eq : goalSa = (∀ (nilA : Bool) (n : Nat) (nilB : Bool) (m : Nat) (akd ath ak akey aval ahi amost bkd bth bk bkey bval bhi bmost : Nat → Int), yNle n (nat_lit 100000) = true → (yNot (yEq (yInt n) (yInt m)) = true → yAnd (yNeq n m) (sameTo akd ath ak akey aval ahi amost bkd bth bk bkey bval bhi bmost n) = false) ∧ (yNot (yEq (yInt n) (yInt m)) = false → true = true ∧ (∃ (i0 : Nat), prSa n m akd ath ak akey aval ahi amost bkd bth bk bkey bval bhi bmost i0 ∧ true = true ∧ yInt i0 = (0 : Int) ∧ true = true) ∧ ∀ (_ : Nat → AV) (i : Nat), prSa n m akd ath ak akey aval ahi amost bkd bth bk bkey bval bhi bmost i → (yLt (yInt i) (yInt n) = true → (yIn (yInt i) n = true → (yNlt (yNadd (nat_lit 0) (yNat (yInt i))) n = true → (yIn (yInt i) m = true → (yNlt (yNadd (nat_lit 0) (yNat (yInt i))) m = true → (yNot (yAnd (yEq (akd (yNadd (nat_lit 0) (yNat (yInt i)))) (bkd (yNadd (nat_lit 0) (yNat (yInt i))))) (yAnd (yEq (ath (yNadd (nat_lit 0) (yNat (yInt i)))) (bth (yNadd (nat_lit 0) (yNat (yInt i))))) (yAnd (yAnd (yEq (ak (yNadd (nat_lit 0) (yNat (yInt i)))) (bk (yNadd (nat_lit 0) (yNat (yInt i))))) (yAnd (yEq (akey (yNadd (nat_lit 0) (yNat (yInt i)))) (bkey (yNadd (nat_lit 0) (yNat (yInt i))))) (yAnd (yEq (aval (yNadd (nat_lit 0) (yNat (yInt i)))) (bval (yNadd (nat_lit 0) (yNat (yInt i))))) (yAnd (yEq (ahi (yNadd (nat_lit 0) (yNat (yInt i)))) (bhi (yNadd (nat_lit 0) (yNat (yInt i))))) (yAnd (yEq (amost (yNadd (nat_lit 0) (yNat (yInt i)))) (bmost (yNadd (nat_lit 0) (yNat (yInt i))))) true))))) true))) = true → yAnd (yNeq n m) (sameTo akd ath ak akey aval ahi amost bkd bth bk bkey bval bhi bmost n) = false) ∧ (yNot (yAnd (yEq (akd (yNadd (nat_lit 0) (yNat (yInt i)))) (bkd (yNadd (nat_lit 0) (yNat (yInt i))))) (yAnd (yEq (ath (yNadd (nat_lit 0) (yNat (yInt i)))) (bth (yNadd (nat_lit 0) (yNat (yInt i))))) (yAnd (yAnd (yEq (ak (yNadd (nat_lit 0) (yNat (yInt i)))) (bk (yNadd (nat_lit 0) (yNat (yInt i))))) (yAnd (yEq (akey (yNadd (nat_lit 0) (yNat (yInt i)))) (bkey (yNadd (nat_lit 0) (yNat (yInt i))))) (yAnd (yEq (aval (yNadd (nat_lit 0) (yNat (yInt i)))) (bval (yNadd (nat_lit 0) (yNat (yInt i))))) (yAnd (yEq (ahi (yNadd (nat_lit 0) (yNat (yInt i)))) (bhi (yNadd (nat_lit 0) (yNat (yInt i))))) (yAnd (yEq (amost (yNadd (nat_lit 0) (yNat (yInt i)))) (bmost (yNadd (nat_lit 0) (yNat (yInt i))))) true))))) true))) = false → true = true ∧ ∃ (i' : Nat), prSa n m akd ath ak akey aval ahi amost bkd bth bk bkey bval bhi bmost i' ∧ Nat.succ (mSa n i') ≤ mSa n i ∧ true = true ∧ yInt i' = yWrap IntKind.i64 (yAdd (yInt i) (1 : Int)) ∧ true = true)) ∧ (yNlt (yNadd (nat_lit 0) (yNat (yInt i))) m = false → False)) ∧ (yIn (yInt i) m = false → False)) ∧ (yNlt (yNadd (nat_lit 0) (yNat (yInt i))) n = false → False)) ∧ (yIn (yInt i) n = false → False)) ∧ (yLt (yInt i) (yInt n) = false → yAnd (yNeq n m) (sameTo akd ath ak akey aval ahi amost bkd bth bk bkey bval bhi bmost n) = true))) := by kernel_rfl
theorem sameAt_t {akd ath ak akey aval ahi amost bkd bth bk bkey bval bhi bmost : Nat → Int} {j : Nat} : (sameAt akd ath ak akey aval ahi amost bkd bth bk bkey bval bhi bmost j = true) = (akd j = bkd j ∧ ath j = bth j ∧ ak j = bk j ∧ akey j = bkey j ∧ aval j = bval j ∧ ahi j = bhi j ∧ amost j = bmost j) := by
  simp only [sameAt, yAnd_t, yEq_t]
theorem sameTo_succ {akd ath ak akey aval ahi amost bkd bth bk bkey bval bhi bmost : Nat → Int} {i : Nat} : sameTo akd ath ak akey aval ahi amost bkd bth bk bkey bval bhi bmost (i + 1) = (sameTo akd ath ak akey aval ahi amost bkd bth bk bkey bval bhi bmost i && sameAt akd ath ak akey aval ahi amost bkd bth bk bkey bval bhi bmost i) := by
  simp [sameTo, List.range_succ]
theorem sameTo_f {akd ath ak akey aval ahi amost bkd bth bk bkey bval bhi bmost : Nat → Int} {i n : Nat} (hi : i < n) (h : ¬ sameAt akd ath ak akey aval ahi amost bkd bth bk bkey bval bhi bmost i = true) : sameTo akd ath ak akey aval ahi amost bkd bth bk bkey bval bhi bmost n = false := by
  cases e : sameTo akd ath ak akey aval ahi amost bkd bth bk bkey bval bhi bmost n with
  | false => rfl
  | true => exact absurd (List.all_eq_true.1 e i (List.mem_range.2 hi)) h
set_option maxRecDepth 100000 in
theorem goalSa_ok : goalSa := by
  refine kernel_go goalSa_eq ?_
  intro nilA n nilB m akd ath ak akey aval ahi amost bkd bth bk bkey bval bhi bmost hn
  simp only [yNot_t, yNot_f, yEq_t, yEq_f, yAnd_t, yAnd_f, yOr_t, yOr_f, yIff_t, yIff_f, yLt_t, yLt_f, yLe_t, yLe_f, yIn_t, yIn_f, yNlt_t, yNlt_f, yNle_t, yNle_f, yNeq_t, yNeq_f, yGrow_t, yGrow_f, yInt_e, yNat_e, yNadd_e, yNsub_e, yAdd_e, ySub_e, yMul_e, yCol_int, yCol_bool, true_and, and_true, Nat.zero_add, Nat.add_zero, Nat.le_refl, forall_const, true_implies, Bool.true_eq_false, Bool.false_eq_true, false_implies] at hn ⊢
  refine ⟨fun h => ?_, fun h => ⟨⟨0, ⟨Nat.zero_le _, by omega, rfl⟩, rfl⟩, fun _ i hi => ⟨fun hlt => ?_, fun hge => ?_⟩⟩⟩
  · exact .inl (by omega)
  · obtain ⟨hi1, hi2, hi3⟩ := hi
    have w1 : yWrap .i64 ((i : Int) + 1) = ((i + 1 : Nat) : Int) := by rw [wrap64 (by omega) (by omega)]; omega
    have hst := sameAt_t (j := i) (akd := akd) (ath := ath) (ak := ak) (akey := akey) (aval := aval) (ahi := ahi) (amost := amost) (bkd := bkd) (bth := bth) (bk := bk) (bkey := bkey) (bval := bval) (bhi := bhi) (bmost := bmost)
    rw [w1]
    refine ⟨fun _ => ⟨fun _ => ⟨fun _ => ⟨fun _ => ⟨fun hd => ?_, fun hs => ?_⟩, by omega⟩, by omega⟩, by omega⟩, by omega⟩
    · refine .inr (sameTo_f (show i < n by omega) (fun e => ?_))
      rw [hst] at e
      obtain ⟨e1, e2, e3, e4, e5, e6, e7⟩ := e
      simp [e1, e2, e3, e4, e5, e6, e7] at hd
    · refine ⟨i + 1, ⟨by omega, hi2, ?_⟩, by unfold mSa; omega, rfl⟩
      rw [sameTo_succ, hi3, hst.mpr hs]; rfl
  · obtain ⟨hi1, hi2, hi3⟩ := hi
    have e : i = n := by omega
    subst e
    exact ⟨hi2, hi3⟩
set_option maxRecDepth 100000 in
theorem smSa (hm : Tryd.prog.follows .mixedOrders = true) : SmCall Tryd.prog 8 (fun args h => (ctS gSa fSa args h).sel) :=
  ctS_ok hm noSm_ok (by decide) (fun ds a e => by
    unfold fSa at e
    split at e
    · rename_i nilA n akd ath ak akey aval ahi amost nilB m bkd bth bk bkey bval bhi bmost
      simp only [Option.some.injEq, Prod.mk.injEq] at e
      obtain ⟨h1, rfl⟩ := e
      exact ⟨_, 1000, @goalSa_ok nilA n nilB m akd ath ak akey aval ahi amost bkd bth bk bkey bval bhi bmost h1⟩
    · cases e)
theorem same_self (akd ath ak akey aval ahi amost : Nat → Int) (n : Nat) : sameTo akd ath ak akey aval ahi amost akd ath ak akey aval ahi amost n = true := by
  unfold sameTo
  rw [List.all_eq_true]
  intro j _
  rw [sameAt_t]
  exact ⟨rfl, rfl, rfl, rfl, rfl, rfl, rfl⟩
theorem ne_cons {l : List UInt8} (h : l ≠ []) : ySEq l [] = false := by
  show eqS l [] = false
  rw [eqS_eq]
  cases l with
  | nil => exact absurd rfl h
  | cons x l => rfl
def colsOk (n : Nat) (th key val hi : Nat → Int) : Bool := (List.range n).all fun i => inE (th i) (key i) (val i) (hi i)
def l28 : List (Nat × Sm) := [(7, .ct (ctS [.cell cEnt] fLines))]
set_option maxRecDepth 100000 in
theorem up28 : isY true (callS Tryd.prog (smL l28) 1000 4 []) = true := by kernel_rfl
theorem colsOk_t {n : Nat} {th key val hi : Nat → Int} (h : colsOk n th key val hi = true) {i : Nat} (hi2 : i < n) : inI (th i) = true ∧ inO (key i) (val i) (hi i) = true := by
  have := List.all_eq_true.1 h i (List.mem_range.2 hi2)
  simpa only [inE, yAnd_t] using this
theorem ySEq_self (l : List UInt8) : ySEq l l = true := by
  show eqS l l = true
  rw [eqS_eq]; simp
theorem l28_ok (hm : Tryd.prog.follows .mixedOrders = true) : SmOK Tryd.prog (smL l28) := smL_ok ⟨smLines hm, trivial⟩
theorem awake28 (hm : Tryd.prog.follows .mixedOrders = true) : SmCall Tryd.prog 4 (smB true) :=
  smBool_ok Tryd.func4 (by kernel_rfl) (by kernel_rfl) fun w hw => callY_calls hm (l28_ok hm) up28 (us := []) rfl w hw
end Go.Proofs.YtjelhmdkaemiiaaDoor.Ex
namespace Go.Proofs.YtjelhmdkaemiiaaDoor.Ex
open Go

-- OPEN keptB cntW selW prSk mSk
def keptB (kd th k key val hi most : Nat → Int) (i : Nat) : Bool := yNot (ySEq (lineC (kd i) (th i) (k i) (key i) (val i) (hi i) (most i)) [])
/-- How many of the first so many have a line; which they are. -/
def cntW (kd th k key val hi most : Nat → Int) (i : Nat) : Nat := ((List.range i).filter (keptB kd th k key val hi most)).length
def selW (kd th k key val hi most : Nat → Int) (n j : Nat) : Nat := ((List.range n).filter (keptB kd th k key val hi most))[j]?.getD 0
def lSk : List (Nat × Sm) := [(7, .ct (ctS [.cell cEnt] fLines)), (5, .ct (ctS gLine fLine)), (6, .ct (ctX [.sc] rPs fPs)), (8, .ct (ctS gSa fSa)), (4, .call (smB true))]
abbrev gSk : List Ag := [.cell cEnt]
abbrev dSk (nil : Bool) (n : Nat) (kd th k key val hi most : Nat → Int) : List Da := [.cell (.rows nil n [.int .i64 kd, .int .i64 th, .int .i64 k, .int .u64 key, .int .u64 val, .int .u64 hi, .int .i64 most])]
abbrev colsK (n : Nat) (kd th k key val hi most : Nat → Int) : List Col := [.int .i64 (fun j => kd (selW kd th k key val hi most n j)), .int .i64 (fun j => th (selW kd th k key val hi most n j)), .int .i64 (fun j => k (selW kd th k key val hi most n j)), .int .u64 (fun j => key (selW kd th k key val hi most n j)), .int .u64 (fun j => val (selW kd th k key val hi most n j)), .int .u64 (fun j => hi (selW kd th k key val hi most n j)), .int .i64 (fun j => most (selW kd th k key val hi most n j))]
def prSk (n i : Nat) : Prop := i ≤ n
def mSk (n i : Nat) : Nat := n - i
def annSk (n : Nat) (kd th k key val hi most : Nat → Int) (b : Nat) : Option (St → LoopA) :=
  match b with
  | 0 => some fun _ => { ι := Nat, tms := [3, 4], tmU := fun i => [slE 1 (cntW kd th k key val hi most i), .y .i64 (yInt i)], ids := [1], hpU := fun i => [.arr false 29 7 (cntW kd th k key val hi most i) (colF (colsK n kd th k key val hi most))], del := [], ex := 1, pre := prSk n, ms := mSk n }
  | _ => none
def goalSk : Prop := ∀ (nil : Bool) (n : Nat) (kd th k key val hi most : Nat → Int), colsOk n th key val hi = true →
  wxF Tryd.prog (smL lSk) (annSk n kd th k key val hi most) 1000 3 (canA gSk (dSk nil n kd th k key val hi most) []).1 (heapOf (canA gSk (dSk nil n kd th k key val hi most) []).2) (fun r _ => cmpC (.yb true) r)
theorem range_filter (q : Nat → Bool) (i : Nat) : (List.range (i + 1)).filter q = (List.range i).filter q ++ bif q i then [i] else [] := by
  rw [List.range_succ, List.filter_append]
  cases h : q i <;> simp [h]
theorem cntQ_t {q : Nat → Bool} {i : Nat} (h : q i = true) : ((List.range (i + 1)).filter q).length = ((List.range i).filter q).length + 1 := by
  rw [range_filter, h, List.length_append]; rfl
theorem cntQ_f {q : Nat → Bool} {i : Nat} (h : q i = false) : ((List.range (i + 1)).filter q).length = ((List.range i).filter q).length := by
  rw [range_filter, h, List.length_append]; rfl
theorem cntQ_le (q : Nat → Bool) (i : Nat) : ((List.range i).filter q).length ≤ i := by
  have := List.length_filter_le q (List.range i)
  simpa using this
theorem selQ_at {q : Nat → Bool} : ∀ (n : Nat) {i : Nat}, i < n → q i = true → ((List.range n).filter q)[((List.range i).filter q).length]? = some i
  | 0, _, h, _ => by omega
  | n + 1, i, h, hq => by
    rw [range_filter]
    rcases Nat.lt_or_ge i n with hlt | hge
    · have ih := selQ_at n hlt hq
      rw [List.getElem?_append_left]
      · exact ih
      · rcases Nat.lt_or_ge ((List.range i).filter q).length ((List.range n).filter q).length with h | h
        · exact h
        · rw [List.getElem?_eq_none h] at ih; cases ih
    · obtain rfl : i = n := by omega
      rw [List.getElem?_append_right (Nat.le_refl _), Nat.sub_self, hq]; rfl
section
variable {kd th k key val hi most : Nat → Int}
theorem keptB_t {i : Nat} : keptB kd th k key val hi most i = true ↔ lineC (kd i) (th i) (k i) (key i) (val i) (hi i) (most i) ≠ [] := by
  unfold keptB
  rw [yNot_t]
  constructor
  · intro h e
    rw [e] at h; cases h
  · intro h
    exact ne_cons h
abbrev lnsW (kd th k key val hi most : Nat → Int) (n : Nat) : List (List UInt8) := ((List.range n).filter (keptB kd th k key val hi most)).map fun i => lineC (kd i) (th i) (k i) (key i) (val i) (hi i) (most i)
theorem lines_unl : ∀ n, linesC kd th k key val hi most n = unl (lnsW kd th k key val hi most n)
  | 0 => rfl
  | n + 1 => by
    rw [linesC, lines_unl n]
    unfold lnsW
    rw [range_filter, List.map_append, unl_app]
    cases h : keptB kd th k key val hi most n with
    | true =>
      have := keptB_t.1 h
      rw [ne_cons this]; rfl
    | false =>
      have e : lineC (kd n) (th n) (k n) (key n) (val n) (hi n) (most n) = [] := by
        cases e : lineC (kd n) (th n) (k n) (key n) (val n) (hi n) (most n) with
        | nil => rfl
        | cons a l =>
          have : keptB kd th k key val hi most n = true := keptB_t.2 (by rw [e]; simp)
          rw [this] at h; cases h
      rw [e]; rfl
theorem lns_mem {n : Nat} (hc : ∀ i, i < n → inI (th i) = true ∧ inO (key i) (val i) (hi i) = true) {l : List UInt8} (h : l ∈ lnsW kd th k key val hi most n) : (10 : UInt8) ∉ l ∧ okLn l = true := by
  obtain ⟨i, him, rfl⟩ := List.mem_map.1 h
  obtain ⟨h1, h2⟩ := List.mem_filter.1 him
  obtain ⟨a, b⟩ := hc i (List.mem_range.1 h1)
  have hE : inE (th i) (key i) (val i) (hi i) = true := by rw [inE, yAnd_t]; exact ⟨a, b⟩
  exact ⟨noNl hE, (okLn_of hE (keptB_t.1 h2)).1⟩
/-- What the lines are read as. -/
theorem sk_all {n : Nat} (hn : n ≤ 100) (hc : ∀ i, i < n → inI (th i) = true ∧ inO (key i) (val i) (hi i) = true) :
    okPar (linesC kd th k key val hi most n) = true ∧ nL (linesC kd th k key val hi most n) = cntW kd th k key val hi most n ∧ ∀ j, j < cntW kd th k key val hi most n →
      entI (lnAt (linesC kd th k key val hi most n) j) = ⟨kd (selW kd th k key val hi most n j), th (selW kd th k key val hi most n j), k (selW kd th k key val hi most n j), key (selW kd th k key val hi most n j), val (selW kd th k key val hi most n j), hi (selW kd th k key val hi most n j), most (selW kd th k key val hi most n j)⟩ := by
  have hlen := linesC_len kd th k key val hi most n
  have hcnt := cntQ_le (keptB kd th k key val hi most) n
  rw [lines_unl] at hlen ⊢
  have h10 : ∀ l ∈ lnsW kd th k key val hi most n, (10 : UInt8) ∉ l := fun l hl => (lns_mem hc hl).1
  have hL : (lnsW kd th k key val hi most n).length = cntW kd th k key val hi most n := by unfold lnsW cntW; rw [List.length_map]
  refine ⟨unl_ok h10 (by rw [hL]; unfold cntW; omega) (by omega) (fun l hl => (lns_mem hc hl).2), by rw [unl_n h10, hL], fun j hj => ?_⟩
  have hjL : j < (lnsW kd th k key val hi most n).length := by rw [hL]; exact hj
  have hjF : j < ((List.range n).filter (keptB kd th k key val hi most)).length := hj
  have hsel : selW kd th k key val hi most n j = ((List.range n).filter (keptB kd th k key val hi most))[j] := by
    unfold selW; rw [List.getElem?_eq_getElem hjF]; rfl
  have hmem := List.getElem_mem hjF
  rw [← hsel] at hmem
  obtain ⟨m1, m2⟩ := List.mem_filter.1 hmem
  obtain ⟨a, b⟩ := hc _ (List.mem_range.1 m1)
  have hE : inE (th (selW kd th k key val hi most n j)) (key (selW kd th k key val hi most n j)) (val (selW kd th k key val hi most n j)) (hi (selW kd th k key val hi most n j)) = true := by rw [inE, yAnd_t]; exact ⟨a, b⟩
  rw [unl_at h10 hjL]
  have e : (lnsW kd th k key val hi most n)[j] = lineC (kd (selW kd th k key val hi most n j)) (th (selW kd th k key val hi most n j)) (k (selW kd th k key val hi most n j)) (key (selW kd th k key val hi most n j)) (val (selW kd th k key val hi most n j)) (hi (selW kd th k key val hi most n j)) (most (selW kd th k key val hi most n j)) := by
    rw [hsel]; unfold lnsW; rw [List.getElem_map]
  rw [e]
  exact (okLn_of hE (keptB_t.1 m2)).2
end
set_option maxRecDepth 100000 in
theorem goalSk_eq : goalSk = (∀ (nil : Bool) (n : Nat) (kd th k key val hi most : Nat → Int), colsOk n th key val hi = true → (yLt (100 : Int) (yInt n) = true → true = true) ∧ (yLt (100 : Int) (yInt n) = false → true = true ∧ (∃ (i0 : Nat), prSk n i0 ∧ true = true ∧ yNeq (cntW kd th k key val hi most i0) (nat_lit 0) = true ∧ cntW kd th k key val hi most i0 = nat_lit 0 ∧ yInt i0 = (0 : Int) ∧ cntW kd th k key val hi most i0 = nat_lit 0 ∧ true = true ∧ true = true) ∧ ∀ (g : Nat → AV) (i : Nat), prSk n i → (yLt (yInt i) (yInt n) = true → (yIn (yInt i) n = true → (yNlt (yNadd (nat_lit 0) (yNat (yInt i))) n = true → (yAnd (inI (th (yNadd (nat_lit 0) (yNat (yInt i))))) (inO (key (yNadd (nat_lit 0) (yNat (yInt i)))) (val (yNadd (nat_lit 0) (yNat (yInt i)))) (hi (yNadd (nat_lit 0) (yNat (yInt i))))) = true → (yNot (ySEq (lineC (kd (yNadd (nat_lit 0) (yNat (yInt i)))) (th (yNadd (nat_lit 0) (yNat (yInt i)))) (k (yNadd (nat_lit 0) (yNat (yInt i)))) (key (yNadd (nat_lit 0) (yNat (yInt i)))) (val (yNadd (nat_lit 0) (yNat (yInt i)))) (hi (yNadd (nat_lit 0) (yNat (yInt i)))) (most (yNadd (nat_lit 0) (yNat (yInt i))))) []) = true → (yIn (yInt i) n = true → (yNlt (yNadd (nat_lit 0) (yNat (yInt i))) n = true → (yNeq (cntW kd th k key val hi most i) (cntW kd th k key val hi most i) = true → (yGrow (yNadd (cntW kd th k key val hi most i) (nat_lit 1)) (nat_lit 56) = true → true = true ∧ ∃ (i' : Nat), prSk n i' ∧ Nat.succ (mSk n i') ≤ mSk n i ∧ true = true ∧ yNeq (cntW kd th k key val hi most i') (nat_lit 0) = yAnd (yNeq (cntW kd th k key val hi most i) (nat_lit 0)) (yNeq (nat_lit 1) (nat_lit 0)) ∧ nat_lit 0 = nat_lit 0 ∧ cntW kd th k key val hi most i' = yNadd (cntW kd th k key val hi most i) (nat_lit 1) ∧ yInt i' = yWrap IntKind.i64 (yAdd (yInt i) (1 : Int)) ∧ cntW kd th k key val hi most i' = yNadd (cntW kd th k key val hi most i) (nat_lit 1) ∧ (∀ (i_1 : Nat), Nat.succ i_1 ≤ cntW kd th k key val hi most i' → kd (selW kd th k key val hi most n i_1) = ySel (yNlt i_1 (cntW kd th k key val hi most i)) (kd (selW kd th k key val hi most n i_1)) (kd (yNadd (nat_lit 0) (yNat (yInt i)))) ∧ th (selW kd th k key val hi most n i_1) = ySel (yNlt i_1 (cntW kd th k key val hi most i)) (th (selW kd th k key val hi most n i_1)) (th (yNadd (nat_lit 0) (yNat (yInt i)))) ∧ k (selW kd th k key val hi most n i_1) = ySel (yNlt i_1 (cntW kd th k key val hi most i)) (k (selW kd th k key val hi most n i_1)) (k (yNadd (nat_lit 0) (yNat (yInt i)))) ∧ key (selW kd th k key val hi most n i_1) = ySel (yNlt i_1 (cntW kd th k key val hi most i)) (key (selW kd th k key val hi most n i_1)) (key (yNadd (nat_lit 0) (yNat (yInt i)))) ∧ val (selW kd th k key val hi most n i_1) = ySel (yNlt i_1 (cntW kd th k key val hi most i)) (val (selW kd th k key val hi most n i_1)) (val (yNadd (nat_lit 0) (yNat (yInt i)))) ∧ hi (selW kd th k key val hi most n i_1) = ySel (yNlt i_1 (cntW kd th k key val hi most i)) (hi (selW kd th k key val hi most n i_1)) (hi (yNadd (nat_lit 0) (yNat (yInt i)))) ∧ most (selW kd th k key val hi most n i_1) = ySel (yNlt i_1 (cntW kd th k key val hi most i)) (most (selW kd th k key val hi most n i_1)) (most (yNadd (nat_lit 0) (yNat (yInt i)))) ∧ True) ∧ true = true) ∧ (yGrow (yNadd (cntW kd th k key val hi most i) (nat_lit 1)) (nat_lit 56) = false → False)) ∧ (yNeq (cntW kd th k key val hi most i) (cntW kd th k key val hi most i) = false → False)) ∧ (yNlt (yNadd (nat_lit 0) (yNat (yInt i))) n = false → False)) ∧ (yIn (yInt i) n = false → False)) ∧ (yNot (ySEq (lineC (kd (yNadd (nat_lit 0) (yNat (yInt i)))) (th (yNadd (nat_lit 0) (yNat (yInt i)))) (k (yNadd (nat_lit 0) (yNat (yInt i)))) (key (yNadd (nat_lit 0) (yNat (yInt i)))) (val (yNadd (nat_lit 0) (yNat (yInt i)))) (hi (yNadd (nat_lit 0) (yNat (yInt i)))) (most (yNadd (nat_lit 0) (yNat (yInt i))))) []) = false → true = true ∧ ∃ (i' : Nat), prSk n i' ∧ Nat.succ (mSk n i') ≤ mSk n i ∧ true = true ∧ yNeq (cntW kd th k key val hi most i') (nat_lit 0) = yNeq (cntW kd th k key val hi most i) (nat_lit 0) ∧ nat_lit 0 = nat_lit 0 ∧ cntW kd th k key val hi most i' = cntW kd th k key val hi most i ∧ yInt i' = yWrap IntKind.i64 (yAdd (yInt i) (1 : Int)) ∧ cntW kd th k key val hi most i' = cntW kd th k key val hi most i ∧ (∀ (i : Nat), Nat.succ i ≤ cntW kd th k key val hi most i' → kd (selW kd th k key val hi most n i) = kd (selW kd th k key val hi most n i) ∧ th (selW kd th k key val hi most n i) = th (selW kd th k key val hi most n i) ∧ k (selW kd th k key val hi most n i) = k (selW kd th k key val hi most n i) ∧ key (selW kd th k key val hi most n i) = key (selW kd th k key val hi most n i) ∧ val (selW kd th k key val hi most n i) = val (selW kd th k key val hi most n i) ∧ hi (selW kd th k key val hi most n i) = hi (selW kd th k key val hi most n i) ∧ most (selW kd th k key val hi most n i) = most (selW kd th k key val hi most n i) ∧ True) ∧ true = true)) ∧ (yAnd (inI (th (yNadd (nat_lit 0) (yNat (yInt i))))) (inO (key (yNadd (nat_lit 0) (yNat (yInt i)))) (val (yNadd (nat_lit 0) (yNat (yInt i)))) (hi (yNadd (nat_lit 0) (yNat (yInt i))))) = false → False)) ∧ (yNlt (yNadd (nat_lit 0) (yNat (yInt i))) n = false → False)) ∧ (yIn (yInt i) n = false → False)) ∧ (yLt (yInt i) (yInt n) = false → (yNle (yNadd (nat_lit 0) n) n = true → ((yCol (CK.int IntKind.i64) n fun (i : Nat) => AV.y IntKind.i64 (kd i)) = true → ((yCol (CK.int IntKind.i64) n fun (i : Nat) => AV.y IntKind.i64 (th i)) = true → ((yCol (CK.int IntKind.i64) n fun (i : Nat) => AV.y IntKind.i64 (k i)) = true → ((yCol (CK.int IntKind.u64) n fun (i : Nat) => AV.y IntKind.u64 (key i)) = true → ((yCol (CK.int IntKind.u64) n fun (i : Nat) => AV.y IntKind.u64 (val i)) = true → ((yCol (CK.int IntKind.u64) n fun (i : Nat) => AV.y IntKind.u64 (hi i)) = true → ((yCol (CK.int IntKind.i64) n fun (i : Nat) => AV.y IntKind.i64 (most i)) = true → ((linesOk n (fun (i : Nat) => th i) (fun (i : Nat) => key i) (fun (i : Nat) => val i) fun (i : Nat) => hi i) = true → (okPar (linesC (fun (i : Nat) => kd i) (fun (i : Nat) => th i) (fun (i : Nat) => k i) (fun (i : Nat) => key i) (fun (i : Nat) => val i) (fun (i : Nat) => hi i) (fun (i : Nat) => most i) n) = true → (yNle (yNadd (nat_lit 0) (nL (linesC (fun (i : Nat) => kd i) (fun (i : Nat) => th i) (fun (i : Nat) => k i) (fun (i : Nat) => key i) (fun (i : Nat) => val i) (fun (i : Nat) => hi i) (fun (i : Nat) => most i) n))) (nL (linesC (fun (i : Nat) => kd i) (fun (i : Nat) => th i) (fun (i : Nat) => k i) (fun (i : Nat) => key i) (fun (i : Nat) => val i) (fun (i : Nat) => hi i) (fun (i : Nat) => most i) n)) = true → ((yCol (CK.int IntKind.i64) (nL (linesC (fun (i : Nat) => kd i) (fun (i : Nat) => th i) (fun (i : Nat) => k i) (fun (i : Nat) => key i) (fun (i : Nat) => val i) (fun (i : Nat) => hi i) (fun (i : Nat) => most i) n)) fun (i : Nat) => AV.y IntKind.i64 (fKd (lnAt (linesC (fun (i : Nat) => kd i) (fun (i : Nat) => th i) (fun (i : Nat) => k i) (fun (i : Nat) => key i) (fun (i : Nat) => val i) (fun (i : Nat) => hi i) (fun (i : Nat) => most i) n) i))) = true → ((yCol (CK.int IntKind.i64) (nL (linesC (fun (i : Nat) => kd i) (fun (i : Nat) => th i) (fun (i : Nat) => k i) (fun (i : Nat) => key i) (fun (i : Nat) => val i) (fun (i : Nat) => hi i) (fun (i : Nat) => most i) n)) fun (i : Nat) => AV.y IntKind.i64 (fTh (lnAt (linesC (fun (i : Nat) => kd i) (fun (i : Nat) => th i) (fun (i : Nat) => k i) (fun (i : Nat) => key i) (fun (i : Nat) => val i) (fun (i : Nat) => hi i) (fun (i : Nat) => most i) n) i))) = true → ((yCol (CK.int IntKind.i64) (nL (linesC (fun (i : Nat) => kd i) (fun (i : Nat) => th i) (fun (i : Nat) => k i) (fun (i : Nat) => key i) (fun (i : Nat) => val i) (fun (i : Nat) => hi i) (fun (i : Nat) => most i) n)) fun (i : Nat) => AV.y IntKind.i64 (fOk (lnAt (linesC (fun (i : Nat) => kd i) (fun (i : Nat) => th i) (fun (i : Nat) => k i) (fun (i : Nat) => key i) (fun (i : Nat) => val i) (fun (i : Nat) => hi i) (fun (i : Nat) => most i) n) i))) = true → ((yCol (CK.int IntKind.u64) (nL (linesC (fun (i : Nat) => kd i) (fun (i : Nat) => th i) (fun (i : Nat) => k i) (fun (i : Nat) => key i) (fun (i : Nat) => val i) (fun (i : Nat) => hi i) (fun (i : Nat) => most i) n)) fun (i : Nat) => AV.y IntKind.u64 (fKey (lnAt (linesC (fun (i : Nat) => kd i) (fun (i : Nat) => th i) (fun (i : Nat) => k i) (fun (i : Nat) => key i) (fun (i : Nat) => val i) (fun (i : Nat) => hi i) (fun (i : Nat) => most i) n) i))) = true → ((yCol (CK.int IntKind.u64) (nL (linesC (fun (i : Nat) => kd i) (fun (i : Nat) => th i) (fun (i : Nat) => k i) (fun (i : Nat) => key i) (fun (i : Nat) => val i) (fun (i : Nat) => hi i) (fun (i : Nat) => most i) n)) fun (i : Nat) => AV.y IntKind.u64 (fVal (lnAt (linesC (fun (i : Nat) => kd i) (fun (i : Nat) => th i) (fun (i : Nat) => k i) (fun (i : Nat) => key i) (fun (i : Nat) => val i) (fun (i : Nat) => hi i) (fun (i : Nat) => most i) n) i))) = true → ((yCol (CK.int IntKind.u64) (nL (linesC (fun (i : Nat) => kd i) (fun (i : Nat) => th i) (fun (i : Nat) => k i) (fun (i : Nat) => key i) (fun (i : Nat) => val i) (fun (i : Nat) => hi i) (fun (i : Nat) => most i) n)) fun (i : Nat) => AV.y IntKind.u64 (fHi (lnAt (linesC (fun (i : Nat) => kd i) (fun (i : Nat) => th i) (fun (i : Nat) => k i) (fun (i : Nat) => key i) (fun (i : Nat) => val i) (fun (i : Nat) => hi i) (fun (i : Nat) => most i) n) i))) = true → ((yCol (CK.int IntKind.i64) (nL (linesC (fun (i : Nat) => kd i) (fun (i : Nat) => th i) (fun (i : Nat) => k i) (fun (i : Nat) => key i) (fun (i : Nat) => val i) (fun (i : Nat) => hi i) (fun (i : Nat) => most i) n)) fun (i : Nat) => AV.y IntKind.i64 (fMost (lnAt (linesC (fun (i : Nat) => kd i) (fun (i : Nat) => th i) (fun (i : Nat) => k i) (fun (i : Nat) => key i) (fun (i : Nat) => val i) (fun (i : Nat) => hi i) (fun (i : Nat) => most i) n) i))) = true → (yNle (yNadd (nat_lit 0) (cntW kd th k key val hi most i)) (cntW kd th k key val hi most i) = true → ((yCol (CK.int IntKind.i64) (cntW kd th k key val hi most i) fun (i : Nat) => AV.y IntKind.i64 (kd (selW kd th k key val hi most n i))) = true → ((yCol (CK.int IntKind.i64) (cntW kd th k key val hi most i) fun (i : Nat) => AV.y IntKind.i64 (th (selW kd th k key val hi most n i))) = true → ((yCol (CK.int IntKind.i64) (cntW kd th k key val hi most i) fun (i : Nat) => AV.y IntKind.i64 (k (selW kd th k key val hi most n i))) = true → ((yCol (CK.int IntKind.u64) (cntW kd th k key val hi most i) fun (i : Nat) => AV.y IntKind.u64 (key (selW kd th k key val hi most n i))) = true → ((yCol (CK.int IntKind.u64) (cntW kd th k key val hi most i) fun (i : Nat) => AV.y IntKind.u64 (val (selW kd th k key val hi most n i))) = true → ((yCol (CK.int IntKind.u64) (cntW kd th k key val hi most i) fun (i : Nat) => AV.y IntKind.u64 (hi (selW kd th k key val hi most n i))) = true → ((yCol (CK.int IntKind.i64) (cntW kd th k key val hi most i) fun (i : Nat) => AV.y IntKind.i64 (most (selW kd th k key val hi most n i))) = true → (yNle (nL (linesC (fun (i : Nat) => kd i) (fun (i : Nat) => th i) (fun (i : Nat) => k i) (fun (i : Nat) => key i) (fun (i : Nat) => val i) (fun (i : Nat) => hi i) (fun (i : Nat) => most i) n)) (nat_lit 100000) = true → (yAnd (yNeq (nL (linesC (fun (i : Nat) => kd i) (fun (i : Nat) => th i) (fun (i : Nat) => k i) (fun (i : Nat) => key i) (fun (i : Nat) => val i) (fun (i : Nat) => hi i) (fun (i : Nat) => most i) n)) (cntW kd th k key val hi most i)) (sameTo (fun (i : Nat) => fKd (lnAt (linesC (fun (i : Nat) => kd i) (fun (i : Nat) => th i) (fun (i : Nat) => k i) (fun (i : Nat) => key i) (fun (i : Nat) => val i) (fun (i : Nat) => hi i) (fun (i : Nat) => most i) n) i)) (fun (i : Nat) => fTh (lnAt (linesC (fun (i : Nat) => kd i) (fun (i : Nat) => th i) (fun (i : Nat) => k i) (fun (i : Nat) => key i) (fun (i : Nat) => val i) (fun (i : Nat) => hi i) (fun (i : Nat) => most i) n) i)) (fun (i : Nat) => fOk (lnAt (linesC (fun (i : Nat) => kd i) (fun (i : Nat) => th i) (fun (i : Nat) => k i) (fun (i : Nat) => key i) (fun (i : Nat) => val i) (fun (i : Nat) => hi i) (fun (i : Nat) => most i) n) i)) (fun (i : Nat) => fKey (lnAt (linesC (fun (i : Nat) => kd i) (fun (i : Nat) => th i) (fun (i : Nat) => k i) (fun (i : Nat) => key i) (fun (i : Nat) => val i) (fun (i : Nat) => hi i) (fun (i : Nat) => most i) n) i)) (fun (i : Nat) => fVal (lnAt (linesC (fun (i : Nat) => kd i) (fun (i : Nat) => th i) (fun (i : Nat) => k i) (fun (i : Nat) => key i) (fun (i : Nat) => val i) (fun (i : Nat) => hi i) (fun (i : Nat) => most i) n) i)) (fun (i : Nat) => fHi (lnAt (linesC (fun (i : Nat) => kd i) (fun (i : Nat) => th i) (fun (i : Nat) => k i) (fun (i : Nat) => key i) (fun (i : Nat) => val i) (fun (i : Nat) => hi i) (fun (i : Nat) => most i) n) i)) (fun (i : Nat) => fMost (lnAt (linesC (fun (i : Nat) => kd i) (fun (i : Nat) => th i) (fun (i : Nat) => k i) (fun (i : Nat) => key i) (fun (i : Nat) => val i) (fun (i : Nat) => hi i) (fun (i : Nat) => most i) n) i)) (fun (i : Nat) => kd (selW kd th k key val hi most n i)) (fun (i : Nat) => th (selW kd th k key val hi most n i)) (fun (i : Nat) => k (selW kd th k key val hi most n i)) (fun (i : Nat) => key (selW kd th k key val hi most n i)) (fun (i : Nat) => val (selW kd th k key val hi most n i)) (fun (i : Nat) => hi (selW kd th k key val hi most n i)) (fun (i : Nat) => most (selW kd th k key val hi most n i)) (nL (linesC (fun (i : Nat) => kd i) (fun (i : Nat) => th i) (fun (i : Nat) => k i) (fun (i : Nat) => key i) (fun (i : Nat) => val i) (fun (i : Nat) => hi i) (fun (i : Nat) => most i) n))) = true → true = true) ∧ (yAnd (yNeq (nL (linesC (fun (i : Nat) => kd i) (fun (i : Nat) => th i) (fun (i : Nat) => k i) (fun (i : Nat) => key i) (fun (i : Nat) => val i) (fun (i : Nat) => hi i) (fun (i : Nat) => most i) n)) (cntW kd th k key val hi most i)) (sameTo (fun (i : Nat) => fKd (lnAt (linesC (fun (i : Nat) => kd i) (fun (i : Nat) => th i) (fun (i : Nat) => k i) (fun (i : Nat) => key i) (fun (i : Nat) => val i) (fun (i : Nat) => hi i) (fun (i : Nat) => most i) n) i)) (fun (i : Nat) => fTh (lnAt (linesC (fun (i : Nat) => kd i) (fun (i : Nat) => th i) (fun (i : Nat) => k i) (fun (i : Nat) => key i) (fun (i : Nat) => val i) (fun (i : Nat) => hi i) (fun (i : Nat) => most i) n) i)) (fun (i : Nat) => fOk (lnAt (linesC (fun (i : Nat) => kd i) (fun (i : Nat) => th i) (fun (i : Nat) => k i) (fun (i : Nat) => key i) (fun (i : Nat) => val i) (fun (i : Nat) => hi i) (fun (i : Nat) => most i) n) i)) (fun (i : Nat) => fKey (lnAt (linesC (fun (i : Nat) => kd i) (fun (i : Nat) => th i) (fun (i : Nat) => k i) (fun (i : Nat) => key i) (fun (i : Nat) => val i) (fun (i : Nat) => hi i) (fun (i : Nat) => most i) n) i)) (fun (i : Nat) => fVal (lnAt (linesC (fun (i : Nat) => kd i) (fun (i : Nat) => th i) (fun (i : Nat) => k i) (fun (i : Nat) => key i) (fun (i : Nat) => val i) (fun (i : Nat) => hi i) (fun (i : Nat) => most i) n) i)) (fun (i : Nat) => fHi (lnAt (linesC (fun (i : Nat) => kd i) (fun (i : Nat) => th i) (fun (i : Nat) => k i) (fun (i : Nat) => key i) (fun (i : Nat) => val i) (fun (i : Nat) => hi i) (fun (i : Nat) => most i) n) i)) (fun (i : Nat) => fMost (lnAt (linesC (fun (i : Nat) => kd i) (fun (i : Nat) => th i) (fun (i : Nat) => k i) (fun (i : Nat) => key i) (fun (i : Nat) => val i) (fun (i : Nat) => hi i) (fun (i : Nat) => most i) n) i)) (fun (i : Nat) => kd (selW kd th k key val hi most n i)) (fun (i : Nat) => th (selW kd th k key val hi most n i)) (fun (i : Nat) => k (selW kd th k key val hi most n i)) (fun (i : Nat) => key (selW kd th k key val hi most n i)) (fun (i : Nat) => val (selW kd th k key val hi most n i)) (fun (i : Nat) => hi (selW kd th k key val hi most n i)) (fun (i : Nat) => most (selW kd th k key val hi most n i)) (nL (linesC (fun (i : Nat) => kd i) (fun (i : Nat) => th i) (fun (i : Nat) => k i) (fun (i : Nat) => key i) (fun (i : Nat) => val i) (fun (i : Nat) => hi i) (fun (i : Nat) => most i) n))) = false → true = false)) ∧ (yNle (nL (linesC (fun (i : Nat) => kd i) (fun (i : Nat) => th i) (fun (i : Nat) => k i) (fun (i : Nat) => key i) (fun (i : Nat) => val i) (fun (i : Nat) => hi i) (fun (i : Nat) => most i) n)) (nat_lit 100000) = false → False)) ∧ ((yCol (CK.int IntKind.i64) (cntW kd th k key val hi most i) fun (i : Nat) => AV.y IntKind.i64 (most (selW kd th k key val hi most n i))) = false → False)) ∧ ((yCol (CK.int IntKind.u64) (cntW kd th k key val hi most i) fun (i : Nat) => AV.y IntKind.u64 (hi (selW kd th k key val hi most n i))) = false → False)) ∧ ((yCol (CK.int IntKind.u64) (cntW kd th k key val hi most i) fun (i : Nat) => AV.y IntKind.u64 (val (selW kd th k key val hi most n i))) = false → False)) ∧ ((yCol (CK.int IntKind.u64) (cntW kd th k key val hi most i) fun (i : Nat) => AV.y IntKind.u64 (key (selW kd th k key val hi most n i))) = false → False)) ∧ ((yCol (CK.int IntKind.i64) (cntW kd th k key val hi most i) fun (i : Nat) => AV.y IntKind.i64 (k (selW kd th k key val hi most n i))) = false → False)) ∧ ((yCol (CK.int IntKind.i64) (cntW kd th k key val hi most i) fun (i : Nat) => AV.y IntKind.i64 (th (selW kd th k key val hi most n i))) = false → False)) ∧ ((yCol (CK.int IntKind.i64) (cntW kd th k key val hi most i) fun (i : Nat) => AV.y IntKind.i64 (kd (selW kd th k key val hi most n i))) = false → False)) ∧ (yNle (yNadd (nat_lit 0) (cntW kd th k key val hi most i)) (cntW kd th k key val hi most i) = false → False)) ∧ ((yCol (CK.int IntKind.i64) (nL (linesC (fun (i : Nat) => kd i) (fun (i : Nat) => th i) (fun (i : Nat) => k i) (fun (i : Nat) => key i) (fun (i : Nat) => val i) (fun (i : Nat) => hi i) (fun (i : Nat) => most i) n)) fun (i : Nat) => AV.y IntKind.i64 (fMost (lnAt (linesC (fun (i : Nat) => kd i) (fun (i : Nat) => th i) (fun (i : Nat) => k i) (fun (i : Nat) => key i) (fun (i : Nat) => val i) (fun (i : Nat) => hi i) (fun (i : Nat) => most i) n) i))) = false → False)) ∧ ((yCol (CK.int IntKind.u64) (nL (linesC (fun (i : Nat) => kd i) (fun (i : Nat) => th i) (fun (i : Nat) => k i) (fun (i : Nat) => key i) (fun (i : Nat) => val i) (fun (i : Nat) => hi i) (fun (i : Nat) => most i) n)) fun (i : Nat) => AV.y IntKind.u64 (fHi (lnAt (linesC (fun (i : Nat) => kd i) (fun (i : Nat) => th i) (fun (i : Nat) => k i) (fun (i : Nat) => key i) (fun (i : Nat) => val i) (fun (i : Nat) => hi i) (fun (i : Nat) => most i) n) i))) = false → False)) ∧ ((yCol (CK.int IntKind.u64) (nL (linesC (fun (i : Nat) => kd i) (fun (i : Nat) => th i) (fun (i : Nat) => k i) (fun (i : Nat) => key i) (fun (i : Nat) => val i) (fun (i : Nat) => hi i) (fun (i : Nat) => most i) n)) fun (i : Nat) => AV.y IntKind.u64 (fVal (lnAt (linesC (fun (i : Nat) => kd i) (fun (i : Nat) => th i) (fun (i : Nat) => k i) (fun (i : Nat) => key i) (fun (i : Nat) => val i) (fun (i : Nat) => hi i) (fun (i : Nat) => most i) n) i))) = false → False)) ∧ ((yCol (CK.int IntKind.u64) (nL (linesC (fun (i : Nat) => kd i) (fun (i : Nat) => th i) (fun (i : Nat) => k i) (fun (i : Nat) => key i) (fun (i : Nat) => val i) (fun (i : Nat) => hi i) (fun (i : Nat) => most i) n)) fun (i : Nat) => AV.y IntKind.u64 (fKey (lnAt (linesC (fun (i : Nat) => kd i) (fun (i : Nat) => th i) (fun (i : Nat) => k i) (fun (i : Nat) => key i) (fun (i : Nat) => val i) (fun (i : Nat) => hi i) (fun (i : Nat) => most i) n) i))) = false → False)) ∧ ((yCol (CK.int IntKind.i64) (nL (linesC (fun (i : Nat) => kd i) (fun (i : Nat) => th i) (fun (i : Nat) => k i) (fun (i : Nat) => key i) (fun (i : Nat) => val i) (fun (i : Nat) => hi i) (fun (i : Nat) => most i) n)) fun (i : Nat) => AV.y IntKind.i64 (fOk (lnAt (linesC (fun (i : Nat) => kd i) (fun (i : Nat) => th i) (fun (i : Nat) => k i) (fun (i : Nat) => key i) (fun (i : Nat) => val i) (fun (i : Nat) => hi i) (fun (i : Nat) => most i) n) i))) = false → False)) ∧ ((yCol (CK.int IntKind.i64) (nL (linesC (fun (i : Nat) => kd i) (fun (i : Nat) => th i) (fun (i : Nat) => k i) (fun (i : Nat) => key i) (fun (i : Nat) => val i) (fun (i : Nat) => hi i) (fun (i : Nat) => most i) n)) fun (i : Nat) => AV.y IntKind.i64 (fTh (lnAt (linesC (fun (i : Nat) => kd i) (fun (i : Nat) => th i) (fun (i : Nat) => k i) (fun (i : Nat) => key i) (fun (i : Nat) => val i) (fun (i : Nat) => hi i) (fun (i : Nat) => most i) n) i))) = false → False)) ∧ ((yCol (CK.int IntKind.i64) (nL (linesC (fun (i : Nat) => kd i) (fun (i : Nat) => th i) (fun (i : Nat) => k i) (fun (i : Nat) => key i) (fun (i : Nat) => val i) (fun (i : Nat) => hi i) (fun (i : Nat) => most i) n)) fun (i : Nat) => AV.y IntKind.i64 (fKd (lnAt (linesC (fun (i : Nat) => kd i) (fun (i : Nat) => th i) (fun (i : Nat) => k i) (fun (i : Nat) => key i) (fun (i : Nat) => val i) (fun (i : Nat) => hi i) (fun (i : Nat) => most i) n) i))) = false → False)) ∧ (yNle (yNadd (nat_lit 0) (nL (linesC (fun (i : Nat) => kd i) (fun (i : Nat) => th i) (fun (i : Nat) => k i) (fun (i : Nat) => key i) (fun (i : Nat) => val i) (fun (i : Nat) => hi i) (fun (i : Nat) => most i) n))) (nL (linesC (fun (i : Nat) => kd i) (fun (i : Nat) => th i) (fun (i : Nat) => k i) (fun (i : Nat) => key i) (fun (i : Nat) => val i) (fun (i : Nat) => hi i) (fun (i : Nat) => most i) n)) = false → False)) ∧ (okPar (linesC (fun (i : Nat) => kd i) (fun (i : Nat) => th i) (fun (i : Nat) => k i) (fun (i : Nat) => key i) (fun (i : Nat) => val i) (fun (i : Nat) => hi i) (fun (i : Nat) => most i) n) = false → False)) ∧ ((linesOk n (fun (i : Nat) => th i) (fun (i : Nat) => key i) (fun (i : Nat) => val i) fun (i : Nat) => hi i) = false → False)) ∧ ((yCol (CK.int IntKind.i64) n fun (i : Nat) => AV.y IntKind.i64 (most i)) = false → False)) ∧ ((yCol (CK.int IntKind.u64) n fun (i : Nat) => AV.y IntKind.u64 (hi i)) = false → False)) ∧ ((yCol (CK.int IntKind.u64) n fun (i : Nat) => AV.y IntKind.u64 (val i)) = false → False)) ∧ ((yCol (CK.int IntKind.u64) n fun (i : Nat) => AV.y IntKind.u64 (key i)) = false → False)) ∧ ((yCol (CK.int IntKind.i64) n fun (i : Nat) => AV.y IntKind.i64 (k i)) = false → False)) ∧ ((yCol (CK.int IntKind.i64) n fun (i : Nat) => AV.y IntKind.i64 (th i)) = false → False)) ∧ ((yCol (CK.int IntKind.i64) n fun (i : Nat) => AV.y IntKind.i64 (kd i)) = false → False)) ∧ (yNle (yNadd (nat_lit 0) n) n = false → False)))) := by kernel_rfl
set_option maxRecDepth 100000 in
theorem goalSk_ok : goalSk := by
  refine @kernel_go _ _ goalSk_eq ?_
  intro nil n kd th k key val hi most hc
  have hall := fun i (h : i < n) => colsOk_t hc h
  simp only [yNot_t, yNot_f, yEq_t, yEq_f, yAnd_t, yAnd_f, yOr_t, yOr_f, yIff_t, yIff_f, yLt_t, yLt_f, yLe_t, yLe_f, yIn_t, yIn_f, yNlt_t, yNlt_f, yNle_t, yNle_f, yNeq_t, yNeq_f, yGrow_t, yGrow_f, yInt_e, yNat_e, yNadd_e, yNsub_e, yAdd_e, ySub_e, yMul_e, yCol_int, yCol_bool, true_and, and_true, Nat.zero_add, Nat.add_zero, Nat.le_refl, forall_const, true_implies, Bool.true_eq_false, Bool.false_eq_true, false_implies]
  refine ⟨fun _ => trivial, fun hn => ⟨⟨0, Nat.zero_le _, rfl, rfl, rfl, rfl⟩, fun _ i hi0 => ⟨fun hlt => ?_, fun hge => ?_⟩⟩⟩
  · have hin : i < n := by omega
    obtain ⟨a1, a2⟩ := hall i hin
    have w1 : yWrap .i64 ((i : Int) + 1) = ((i + 1 : Nat) : Int) := by rw [wrap64 (by omega) (by omega)]; omega
    have hp : prSk n (i + 1) := by unfold prSk; omega
    have hm2 : (mSk n (i + 1)).succ ≤ mSk n i := by unfold mSk; omega
    have hcl := cntQ_le (keptB kd th k key val hi most) i
    have hcl : cntW kd th k key val hi most i ≤ i := hcl
    simp only [a1, a2, w1]
    cases hk : ySEq (lineC (kd i) (th i) (k i) (key i) (val i) (hi i) (most i)) [] with
    | false =>
      have kq : keptB kd th k key val hi most i = true := by unfold keptB; rw [hk]; rfl
      have hc1 : cntW kd th k key val hi most (i + 1) = cntW kd th k key val hi most i + 1 := cntQ_t kq
      have hs1 : selW kd th k key val hi most n (cntW kd th k key val hi most i) = i := by
        unfold selW cntW; rw [selQ_at n hin kq]; rfl
      have hsel : ∀ (f : Nat → Int) (q : Nat), q + 1 ≤ cntW kd th k key val hi most (i + 1) → f (selW kd th k key val hi most n q) = ySel (yNlt q (cntW kd th k key val hi most i)) (f (selW kd th k key val hi most n q)) (f i) := fun f q hq => by
        rcases Nat.lt_or_ge q (cntW kd th k key val hi most i) with h | h
        · rw [show yNlt q (cntW kd th k key val hi most i) = true from decide_eq_true h]; rfl
        · obtain rfl : q = cntW kd th k key val hi most i := by omega
          rw [show yNlt (cntW kd th k key val hi most i) (cntW kd th k key val hi most i) = false from decide_eq_false (by omega), hs1]; rfl
      have hnz : yNeq (cntW kd th k key val hi most (i + 1)) 0 = yAnd (yNeq (cntW kd th k key val hi most i) 0) (yNeq 1 0) := by
        rw [hc1]
        have e1 : yNeq (cntW kd th k key val hi most i + 1) 0 = false := by simp only [yNeq_f]; omega
        have e2 : yNeq 1 0 = false := rfl
        rw [e1, e2]
        cases yNeq (cntW kd th k key val hi most i) 0 <;> rfl
      repeat' (first | apply And.intro | intro _)
      all_goals first | omega | exact ⟨i + 1, hp, hm2, hnz, hc1, rfl, hc1, fun q hq => ⟨hsel kd q hq, hsel th q hq, hsel k q hq, hsel key q hq, hsel val q hq, hsel hi q hq, hsel most q hq⟩⟩ | (simp_all; done) | (trace_state; fail)
    | true =>
      have kq : keptB kd th k key val hi most i = false := by unfold keptB; rw [hk]; rfl
      have hc1 : cntW kd th k key val hi most (i + 1) = cntW kd th k key val hi most i := cntQ_f kq
      repeat' (first | apply And.intro | intro _)
      all_goals first | omega | exact ⟨i + 1, hp, hm2, by rw [hc1], hc1, rfl, hc1, fun _ _ => trivial⟩ | (simp_all; done) | (trace_state; fail)
  · have e : i = n := by unfold prSk at hi0; omega
    subst e
    have hn2 : i ≤ 100 := by omega
    obtain ⟨p1, p2, p3⟩ := sk_all (k := k) (kd := kd) (most := most) hn2 hall
    have hl : linesOk i th key val hi = true := by
      unfold linesOk
      simp only [yAnd_t, yNle_t]
      exact ⟨by omega, hc⟩
    have hcl := cntQ_le (keptB kd th k key val hi most) i
    have hcl : cntW kd th k key val hi most i ≤ i := hcl
    have hsame : sameTo (fun j => fKd (lnAt (linesC kd th k key val hi most i) j)) (fun j => fTh (lnAt (linesC kd th k key val hi most i) j)) (fun j => fOk (lnAt (linesC kd th k key val hi most i) j)) (fun j => fKey (lnAt (linesC kd th k key val hi most i) j)) (fun j => fVal (lnAt (linesC kd th k key val hi most i) j)) (fun j => fHi (lnAt (linesC kd th k key val hi most i) j)) (fun j => fMost (lnAt (linesC kd th k key val hi most i) j))
        (fun j => kd (selW kd th k key val hi most i j)) (fun j => th (selW kd th k key val hi most i j)) (fun j => k (selW kd th k key val hi most i j)) (fun j => key (selW kd th k key val hi most i j)) (fun j => val (selW kd th k key val hi most i j)) (fun j => hi (selW kd th k key val hi most i j)) (fun j => most (selW kd th k key val hi most i j)) (nL (linesC kd th k key val hi most i)) = true := by
      unfold sameTo
      rw [List.all_eq_true, p2]
      intro j hj
      have := p3 j (List.mem_range.1 hj)
      rw [sameAt_t]
      simp only [fKd, fTh, fOk, fKey, fVal, fHi, fMost, this, and_self]
    exact ⟨⟨fun _ => ⟨fun _ => ⟨⟨⟨fun _ => ⟨fun _ => trivial, fun h => h.elim (fun h => h p2) (fun h => Bool.noConfusion (hsame.symm.trans h))⟩, fun h => by
      have h2 : 100000 < nL (linesC kd th k key val hi most i) := h
      omega⟩, fun h => absurd h (Nat.lt_irrefl _)⟩, fun h => absurd h (Nat.lt_irrefl _)⟩, fun h => Bool.noConfusion (p1.symm.trans h)⟩, fun h => Bool.noConfusion (hl.symm.trans h)⟩, fun h => absurd h (Nat.lt_irrefl _)⟩
theorem lSk_ok (hm : Tryd.prog.follows .mixedOrders = true) : SmOK Tryd.prog (smL lSk) := smL_ok ⟨smLines hm, smLineR hm, smPs hm, smSa hm, awake28 hm, trivial⟩
end Go.Proofs.YtjelhmdkaemiiaaDoor.Ex
