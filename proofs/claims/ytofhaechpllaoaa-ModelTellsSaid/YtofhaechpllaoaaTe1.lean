/- ModelTells: a loop over the pairs that a map tells, counted in one cell; plain law. -/
import Derived.Test.YtofhaechpllaoaaPl1
namespace Go.Proofs.Ytofhaechpllaoaa
open Go Go.RowKit Go.Shelf

/-- Between two rounds: only the counter has turned. -/
def TInv (W0 : World) (b : Nat) (pre : List PairD) (W : World) : Prop := Kp (fun g => g = b) W0 W ∧ Lies W b #[.int .i64 pre.length] 3
theorem tInv_own (W0 : World) (b B : Nat) (hb : b < B) (hB : W0.heap.size ≤ B) : OwnFrom B (TInv W0 b) := by
  rintro pre X Y row ⟨h1, h2⟩ hg hr
  refine ⟨⟨hg.os.trans h1.os, hg.tape.trans h1.tape, hg.output.trans h1.output, Nat.le_trans h1.size hg.size, fun k hk hS => (hg.block k (Nat.lt_of_lt_of_le hk h1.size) (fun e => by have := (hr k e.symm).1; omega)).trans (h1.block k hk hS)⟩, h2.kept (hg.block b h2.lt (fun e => by have := (hr b e.symm).1; omega))⟩

theorem func_nil (f : Fn) (g c : Array Value) (W : World) : (binOp .eql 63 (.func f g c) .nilFunc).run Try.prog W = .ok (.bool false) W := by kernel_rfl

section
variable {P : Program} {ops : Array Oper} {Q : Exit → Act → World → Prop} {md : Region.Mode}
theorem wpOpIn_of {l n i : Nat} {K K' : Act → World → Prop} {a : Act} {w : World} (hq : ¬ LetsOut Q) (hk : ∀ a w, K a w → K' a w) (hd : ∀ (o : Oper) c, ops[i]? = some o → o.op ≠ .defer c) (h : wpOp P ops Q i K a w) : wpOpIn (Fence.wide.inRound l) n P ops Q i K' a w := by
  unfold wpOp at h
  unfold wpOpIn
  cases ho : ops[i]? with
  | none => rw [ho] at h; exact hk _ _ h
  | some o =>
    rw [ho] at h
    simp only at h ⊢
    split at h
    · rename_i hw
      rw [if_pos hw]
      rcases h with h | ⟨_, h⟩
      · refine ⟨fun _ _ => trivial, ?_⟩
        rw [Oper.semAt_eq _ _ _ (fun c => hd o c ho)]
        unfold Oper.wp at h
        generalize (execOp a.eval o).run P w = r at h ⊢
        cases r with
        | ok nx w' =>
          cases nx with
          | value v => exact hk _ _ h
          | skip => exact hk _ _ h
          | defer d => exact hk _ _ h
          | enter f args =>
            refine ⟨(fun e => by cases e), CallsIn.mono ((callsIn_wide.2 h).inRound l) (fun e w'' hr => ?_)⟩
            cases e with
            | returned v => exact hk _ _ hr
            | panicked c => exact hr
            | outgrown => exact hr
          | row row args =>
            refine ⟨(fun e => by cases e), fun c cs _ => ?_⟩
            obtain ⟨v, w1, r, s⟩ := h c cs
            exact ⟨v, w1, hk _ _ r, stepsIn_wide.2 s⟩
          | _ => exact h.elim
        | halt x w' => cases x <;> first | exact h | exact h.elim
      · exact absurd h hq
    · rename_i hw
      rw [if_neg hw]
      exact ⟨fun _ _ => trivial, hk _ _ h⟩
theorem wpAnyIn_of {l n : Nat} (hq : ¬ LetsOut Q) (hd : ∀ (i : Nat) (o : Oper) c, ops[i]? = some o → o.op ≠ .defer c) : ∀ (fuel : Nat) (listed : Array Bool) (a : Act) (w : World), wpAny P md ops Q fuel listed a w → wpAnyIn (Fence.wide.inRound l) n P md ops Q fuel listed a w
  | 0, _, _, _, h => h
  | fuel + 1, listed, a, w, h => ⟨h.1, fun i hi => wpOpIn_of hq (fun a w h => wpAnyIn_of hq hd fuel _ a w h) (hd i) (h.2 i hi)⟩
def noDefer (o : Oper) : Bool := match o.op with | .defer _ => false | _ => true
/-- A region that draws its order, in a round. -/
theorem wpIn_region_S {id l n : Nat} {a : Act} {w : World} (H : List (Nat × (World → Prop))) (hm : P.follows .mixedOrders = true) (hd : ops.all noDefer = true) (hq : ¬ LetsOut Q)
    (h : wpAnyS P .any ops Q H ops.size (Array.replicate ops.size false) a w.drew) : (Code.region id ops true).wpIn (Fence.wide.inRound l) n P Q a w :=
  wpIn_region_any hm (wpAnyIn_of hq (fun i o c ho e => by
    obtain ⟨hlt, rfl⟩ := Array.getElem?_eq_some_iff.1 ho
    have := Array.all_eq_true.1 hd i hlt
    simp [noDefer, e] at this) _ _ _ _ (wpAny_of_S _ _ _ _ h))
end
def noPan (Q : Exit → Act → World → Prop) : Exit → Act → World → Prop
  | .panic _, _, _ => False
  | e, a, w => Q e a w
theorem noPan_le {Q : Exit → Act → World → Prop} : ∀ (e : Exit) (a : Act) (w : World), noPan Q e a w → Q e a w := fun e a w h => by cases e <;> first | exact h | exact h.elim
def DrawnOf (W W' : World) : Prop := ∃ n, W' = { W with drawn := n }

/-- **A loop that counts what a map tells.** -/
theorem tell_range {Q : Exit → Act → World → Prop} {g0 : Operand} {pt : Tmp} {assign body : Code} {a : Act} {W0 : World} {lo g b : Nat} {ps : List PairD} {ga : Option Addr} {gc : Nat} (pb : Tmp) (act : PairD → Nat → Act) (hact : act = fun x Bx => { tmps := (a.tmps.setIfInBounds pt (.agg #[.int .u64 x.key, .int .u64 x.val])).setIfInBounds pb (.pointer (some ⟨Bx, 0, none⟩)), defers := [] })
    (hg0 : a.eval g0 = .func (.func 55) #[] #[.pointer (some ⟨g, 0, none⟩)]) (h1 : lo ≤ g) (h2 : g < W0.heap.size) (h3 : W0.cell? ⟨g, 0, none⟩ = some (.slice ga ps.length gc)) (h4 : Arr W0 2 PairD.cells (.slice ga ps.length gc) ps)
    (h5 : ∀ k, (Value.slice ga ps.length gc).ownBlock = some k → lo ≤ k ∧ k < W0.heap.size) (h6 : ps.length ≤ 1000000000) (hb : b < lo) (h0 : Lies W0 b #[.int .i64 0] 3)
    (hassign : ∀ (l : Nat) (x : PairD) (W : World) (K : Act → World → Prop), K (act x W.heap.size) (W.alloc (.cells #[.int .u64 x.key, .int .u64 x.val] 47 (0, 0))) →
      assign.wpIn (Fence.wide.inRound l) 3 Try.prog (Exit.then K (fun _ _ _ => False)) { tmps := a.tmps.setIfInBounds pt (.agg #[.int .u64 x.key, .int .u64 x.val]), defers := [] } W)
    (hbody : ∀ (l : Nat) (pre : List PairD) (x : PairD) (Bx : Nat) (W : World), pre.length < ps.length → Kp (fun g => g = b) W0 W → Lies W b #[.int .i64 pre.length] 3 → W0.heap.size ≤ Bx → Lies W Bx #[.int .u64 x.key, .int .u64 x.val] 47 →
      body.wpIn (Fence.wide.inRound l) 3 Try.prog (fun e _ W' => ∃ V, DrawnOf W V ∧ match e with
        | .normal => ps[pre.length]? = some x ∧ W' = V.setCell ⟨b, 0, none⟩ (.int .i64 (pre.length + 1))
        | .ret => ps[pre.length]? ≠ some x ∧ ∃ c v, W' = V.setCell ⟨c, 0, none⟩ v
        | _ => False) (act x Bx) W)
    (hdone : ∀ (D : Nat) (W : World), W0.heap.size ≤ D → Kp (fun g => g = b) W0 W → Lies W b #[.int .i64 ps.length] 3 → W.heap[D]? = some (.deferred (some [])) → Q .normal { a with defers := { target := .collected D, args := #[] } :: a.defers } W) :
    (Code.rangeFunc g0 #[pt] assign body).wpIn Fence.wide 5 Try.prog Q a W0 := by
  clear hact
  have keep : ∀ (W V : World) (c : Nat) (v : Value), DrawnOf W V → KeepsOthers W (V.setCell ⟨c, 0, none⟩ v) := fun W V c v ⟨n, hn⟩ => by
    subst hn
    exact KeepsOthers.trans (B := { W with drawn := n }) ⟨Nat.le_refl _, fun _ _ h _ => h⟩ (KeepsOthers.setCell { W with drawn := n } _ _)
  refine wpIn_rangeFunc_ownH rfl (by omega) (gf := 55) (lb := #[.pointer (some ⟨g, 0, none⟩)]) hg0 trivial (enters_of Try.func55 (by kernel_rfl) rfl)
    (tellsP_stops (lo := lo) (n₀ := W0.heap.size) (w := W0) (g := g) h1 h2 (Nat.le_refl _) h3 h4 h5 h6 4 (by omega)) Mid.trans (Mid.put (Nat.le_refl _)) (Below.refl _ _) (fun _ => rfl)
    (TInv W0 b) (fun c pre W => c = .ret ∧ ∃ (ini : List PairD) (x : PairD), pre = ini ++ [x] ∧ ps[ini.length]? ≠ some x)
    (tInv_own W0 b W0.heap.size (by omega) (Nat.le_refl _)) (fun c s X Y row hs _ _ => by obtain ⟨k1, ini, x, k2, k3⟩ := hs; exact ⟨k1, ini, x, k2, k3⟩) ⟨⟨rfl, rfl, rfl, Nat.le_refl _, fun _ _ _ => rfl⟩, h0⟩
    (fun x a' W => ∃ Bx, W0.heap.size ≤ Bx ∧ Lies W Bx #[.int .u64 x.key, .int .u64 x.val] 47 ∧ a' = act x Bx)
    (fun x a' _ X Y row hs hg hr => by
      obtain ⟨Bx, k1, k2, k3⟩ := hs
      exact ⟨Bx, k1, k2.kept (hg.block Bx k2.lt (fun e => by obtain ⟨_, o, ho, hc⟩ := hr Bx e.symm; rw [show X.heap[Bx]? = _ from k2] at ho; cases ho; cases hc)), k3⟩)
    ?assign ?body ?done ?stop
  case assign =>
    rintro l pre x W K hS hK
    have q := hassign l x W K (hK _ _ ((KeepsOthers.alloc _ _).from _) (Mid.alloc _ _ _ _) ⟨hS.1.trans (Kp.of_below (Joins.below_alloc1 W _)) (fun _ _ h => h), heap_lt_alloc hS.2⟩ ⟨W.heap.size, hS.1.size, World.alloc_heap_new W _, rfl⟩)
    simpa [encP] using q
  case body =>
    rintro l pre x a' W hl - hS ⟨Bx, k1, k2, rfl⟩ hlt
    refine wpIn_mono (hbody l pre x Bx W hlt hS.1 hS.2 k1 k2) ?_
    rintro e a2 W' ⟨V, hV, hq⟩
    cases e with
    | normal =>
      obtain ⟨hp, rfl⟩ := hq
      refine ⟨(keep W V b _ hV).from _, ?_, ?_, ?_⟩
      · obtain ⟨n, rfl⟩ := hV
        refine ⟨by simp [World.setCell], fun k q1 q2 q3 => ?_⟩
        exact Below.heap_setCell _ ⟨b, 0, none⟩ _ k (by show k ≠ b; omega)
      · obtain ⟨n, rfl⟩ := hV
        exact hS.1.trans (b := W) ⟨rfl, rfl, rfl, by simp [World.setCell], fun k q1 q2 => Below.heap_setCell _ ⟨b, 0, none⟩ _ k q2⟩ (fun _ _ h => h)
      · obtain ⟨n, rfl⟩ := hV
        obtain ⟨hlt2, hk⟩ := Array.getElem?_eq_some_iff.1 (show W.heap[b]? = _ from hS.2)
        show (W.heap.modify b _)[b]? = _
        rw [Array.getElem?_eq_getElem (by rw [Array.size_modify]; exact hlt2), Array.getElem_modify_self, hk]
        simp
    | ret =>
      obtain ⟨hp, c, v, rfl⟩ := hq
      exact ⟨(keep W V c v hV).from _, rfl, pre, x, rfl, hp⟩
    | exit id => exact hq.elim
    | goto l => exact hq.elim
    | panic ch => exact hq.elim
    | outgrown => exact hq.elim
  case done =>
    rintro D xs W hD rfl hS hK
    exact hdone D W hD hS.1 hS.2 hK
  case stop =>
    rintro D c pre W hD hpre ⟨rfl, ini, x, rfl, hne⟩ hK
    exfalso
    obtain ⟨r, rfl⟩ := hpre
    exact hne (by simp)
end Go.Proofs.Ytofhaechpllaoaa
