/- Contract: census.Told.Right, for the abstract machine. -/
import Derived.Test.YtppcjdhohohcfaaGreatDoorCen
import Derived.Test.YtppcjdhohohcfaaGreatDoorSl
import Derived.Test.YtppcjdhohohcfaaGreatDoorWl
import Derived.Below
namespace Go.Proofs.YtppcjdhohohcfaaGreatDoor.Ex
open Go Go.RowKit

/-- A contract that was walked by hand. -/
theorem ctS_by {P : Program} {f : FuncId} {fn : Func} {gs : List Ag} {F : List Da → Option (Bool × AV)} (hf : P.funcs[f]? = some fn) (hok : okFn fn = true) (hb : fn.body.isSome = true)
    (hc : ∀ ds a us w, F ds = some (true, a) → DaRs w gs ds us → Calls P f us.toArray w fun e w' => ∃ u, e = .returned u ∧ (∀ M, a.R M u) ∧ Below w.heap.size w w') :
    SmCall P f (fun args h => (ctS gs F args h).sel) := by
  intro args h v h' hg
  obtain ⟨ds, e1, e⟩ := T.sel_bind_some hg
  split at e
  case h_2 => cases e
  rename_i b a hF
  obtain ⟨rfl, e⟩ := T.sel_must e
  have e := T.sel_ret e
  simp only [Prod.mk.injEq] at e
  obtain ⟨rfl, rfl⟩ := e
  refine ⟨⟨Nat.le_refl _, Ab.refl _⟩, fun M us w r R ra rr fr k => ⟨?_, ?_⟩⟩
  · have hnn : ¬ (fn.name = "runtime.NumGoroutine") := by simpa [okFn] using hok
    cases hbb : fn.body with
    | none => rw [hbb] at hb; cases hb
    | some c => simp [callFunc, hf, hnn, hbb]
  · have hd := rdA_ok e1 ra rr
    exact (callsIn_wide (n := 0)).2 ((hc ds a us w hF hd).mono fun e w' ⟨u, he, hr, hbl⟩ => by
      subst he
      exact k M u w' (hr M) (rr.below hbl) ⟨hbl.os, hbl.tape, hbl.output, hbl.size, Le.refl M, fun _ e => absurd rfl e, fun q hq _ => hbl.block q hq, fun id b2 κ o q1 q2 => .inr ⟨id, κ, o, q1, q2, fun e => e⟩, fun b cs e => .inl e⟩ (Ab.refl _))

-- OPEN cenC wfI
abbrev cI : Cs := some (3, [.int .i64])
def lisI (n : Nat) (f : Nat → Int) : List Int := (List.range n).map f
def wfI (n : Nat) (f : Nat → Int) : Bool := (List.range n).all fun i => (Lit.int .i64 (f i)).wf
def cenC (n0 : Nat) (f0 : Nat → Int) (n1 : Nat) (f1 : Nat → Int) (n2 : Nat) (f2 : Nat → Int) (n3 : Nat) (f3 : Nat → Int) (n4 : Nat) (f4 : Nat → Int) (sd : Bool) (slots : Int) : Bool :=
  cenR (lisI n0 f0 ++ (lisI n1 f1 ++ (lisI n2 f2 ++ (lisI n3 f3 ++ lisI n4 f4)))) sd slots
def fCen (ds : List Da) : Option (Bool × AV) :=
  match ds with
  | [.agg [.rows _ n0 [.int .i64 f0], .rows _ n1 [.int .i64 f1], .rows _ n2 [.int .i64 f2], .rows _ n3 [.int .i64 f3], .rows _ n4 [.int .i64 f4], .v (.yb sd)], .cell (.v (.y .i64 slots))] =>
    some (yAnd (yAnd (yNle n0 100000000) (wfI n0 f0)) (yAnd (yAnd (yNle n1 100000000) (wfI n1 f1)) (yAnd (yAnd (yNle n2 100000000) (wfI n2 f2)) (yAnd (yAnd (yNle n3 100000000) (wfI n3 f3)) (yAnd (yNle n4 100000000) (wfI n4 f4))))),
      .yb (cenC n0 f0 n1 f1 n2 f2 n3 f3 n4 f4 sd slots))
  | _ => none
theorem lisI_len (n : Nat) (f : Nat → Int) : (lisI n f).length = n := by simp [lisI]
theorem wfI_ok {n : Nat} {f : Nat → Int} (h : wfI n f = true) : ∀ x ∈ lisI n f, (Lit.int .i64 x).wf = true := by
  intro x hx
  obtain ⟨i, hi, rfl⟩ := List.mem_map.1 hx
  exact List.all_eq_true.1 h i hi
theorem arrI_of {w : World} {nil : Bool} {n : Nat} {f : Nat → Int} {u : Value} (h : DcR w cI (.rows nil n [.int .i64 f]) u) : ∃ a c, u = .slice a n c ∧ ArrI w (.slice a n c) (lisI n f) := by
  rcases h with ⟨_, rfl, rfl⟩ | ⟨_, p, k, rfl, hnk, h⟩
  · exact ⟨none, 0, rfl, none, 0, by rw [lisI_len], fun i x hx => by simp [lisI] at hx⟩
  · refine ⟨some p, k, rfl, some p, k, by rw [lisI_len], fun i x hx => ?_⟩
    have hi : i < n := by have := (List.getElem?_eq_some_iff.1 hx).1; rwa [lisI_len] at this
    have hxe : x = f i := by
      simp only [lisI, List.getElem?_map, List.getElem?_range hi, Option.map_some, Option.some.injEq] at hx
      exact hx.symm
    rcases h with rfl | ⟨b, off, rfl, _, cs, e, fr, hh, hc⟩
    · omega
    · obtain ⟨v, q1, _, q3⟩ := hc i hi 0 (by simp)
      refine ⟨b, off, rfl, heap_lt hh, ?_⟩
      have hv : v = .int .i64 x := by rw [hxe]; exact q3
      subst hv
      simp only [List.length_cons, List.length_nil, Nat.zero_add, Nat.mul_one, Nat.add_zero] at q1
      simp [World.cell?, hh, q1]
set_option maxRecDepth 100000 in
theorem smCen : SmCall Tryz.prog 7 (fun args h => (ctS [.agg [cI, cI, cI, cI, cI, none], .cell none] fCen args h).sel) :=
  ctS_by Tryz.func7 (by kernel_rfl) (by kernel_rfl) (fun ds a us w hF hd => by
    unfold fCen at hF
    split at hF
    case h_2 => cases hF
    rename_i nl0 n0 f0 nl1 n1 f1 nl2 n2 f2 nl3 n3 f3 nl4 n4 f4 sd slots
    simp only [Option.some.injEq, Prod.mk.injEq] at hF
    obtain ⟨h1, rfl⟩ := hF
    simp only [yAnd_t, yNle_t] at h1
    obtain ⟨⟨q0, p0⟩, ⟨q1, p1⟩, ⟨q2, p2⟩, ⟨q3, p3⟩, q4, p4⟩ := h1
    obtain ⟨d0, ds1, u0, us1, e1, rfl, hd1, hd⟩ := hd
    simp only [List.cons.injEq] at e1
    obtain ⟨rfl, rfl⟩ := e1
    obtain ⟨d0, ds1, u1, us1, e1, rfl, hd2, hd⟩ := hd
    simp only [List.cons.injEq] at e1
    obtain ⟨rfl, rfl⟩ := e1
    obtain ⟨_, rfl⟩ := hd
    obtain ⟨us0, rfl, hd1⟩ := hd1
    obtain ⟨d0, ds1, v0, us1, e1, rfl, g0, hd1⟩ := hd1
    simp only [List.cons.injEq] at e1
    obtain ⟨rfl, rfl⟩ := e1
    obtain ⟨d0, ds1, v1, us1, e1, rfl, g1, hd1⟩ := hd1
    simp only [List.cons.injEq] at e1
    obtain ⟨rfl, rfl⟩ := e1
    obtain ⟨d0, ds1, v2, us1, e1, rfl, g2, hd1⟩ := hd1
    simp only [List.cons.injEq] at e1
    obtain ⟨rfl, rfl⟩ := e1
    obtain ⟨d0, ds1, v3, us1, e1, rfl, g3, hd1⟩ := hd1
    simp only [List.cons.injEq] at e1
    obtain ⟨rfl, rfl⟩ := e1
    obtain ⟨d0, ds1, v4, us1, e1, rfl, g4, hd1⟩ := hd1
    simp only [List.cons.injEq] at e1
    obtain ⟨rfl, rfl⟩ := e1
    obtain ⟨d0, ds1, v5, us1, e1, rfl, g5, hd1⟩ := hd1
    simp only [List.cons.injEq] at e1
    obtain ⟨rfl, rfl⟩ := e1
    obtain ⟨_, rfl⟩ := hd1
    obtain ⟨a0, c0, rfl, r0⟩ := arrI_of g0
    obtain ⟨a1, c1, rfl, r1⟩ := arrI_of g1
    obtain ⟨a2, c2, rfl, r2⟩ := arrI_of g2
    obtain ⟨a3, c3, rfl, r3⟩ := arrI_of g3
    obtain ⟨a4, c4, rfl, r4⟩ := arrI_of g4
    obtain rfl : v5 = .bool _ := g5
    obtain rfl : u1 = .int .i64 _ := hd2
    have hL : ∀ n (f : Nat → Int) (a : Option Addr) (c : Nat), Value.slice a (lisI n f).length c = .slice a n c := fun n f a c => by rw [lisI_len]
    have := right_any (H := Unit) a0 a1 a2 a3 a4 (lisI n0 f0) (lisI n1 f1) (lisI n2 f2) (lisI n3 f3) (lisI n4 f4) c0 c1 c2 c3 c4 sd slots w ⟨rfl, by
        simp only [hL, List.mem_cons, List.not_mem_nil, or_false]
        rintro p (rfl | rfl | rfl | rfl | rfl)
        · exact r0
        · exact r1
        · exact r2
        · exact r3
        · exact r4, by
        simp only [List.mem_cons, List.not_mem_nil, or_false]
        rintro p (rfl | rfl | rfl | rfl | rfl)
        · exact wfI_ok p0
        · exact wfI_ok p1
        · exact wfI_ok p2
        · exact wfI_ok p3
        · exact wfI_ok p4, by
        simp only [List.mem_cons, List.not_mem_nil, or_false]
        rintro p (rfl | rfl | rfl | rfl | rfl) <;> (dsimp only; rw [lisI_len]; assumption)⟩
    simp only [hL] at this
    exact this.mono fun e w' ⟨he, hbl⟩ => ⟨_, he, fun M => rfl, hbl⟩)
end Go.Proofs.YtppcjdhohohcfaaGreatDoor.Ex
