/- Laws on lists: what came in lies in blocks that nobody writes; any plain data, lists in lists too. -/
import Derived.Test.YtiikiphkhfmlcaaGreatDoorWl
import Derived.Test.YtiikiphkhfmlcaaGreatDoorWb
noncomputable section
namespace Go.Proofs.YtiikiphkhfmlcaaGreatDoor.Ex
open Go Go.RowKit Go.ChangeShapes Go.WideShapes

def K1.ck : K1 → CK
  | .int k => .int k
  | .bool => .bool
  | .str => .str
/-- Plain data: a scalar, or a list of rows. -/
inductive KT where
  | sc (k : K1)
  | ls (l : List KT)
def nilOf : Value → Bool | .slice none _ _ => true | _ => false
def lenOf : Value → Nat | .slice _ n _ => n | _ => 0
def cellAt (w : World) (v : Value) (q : Nat) : Value :=
  match v with
  | .slice (some a) _ _ => (match w.heap[a.block]? with | some (.cells cs _ _) => (cs[a.off + q]?).getD .nilFunc | _ => .nilFunc)
  | _ => .nilFunc
mutual
def OkT (w : World) : KT → Value → Prop
  | .sc k, v => kV k.ck v
  | .ls l, v => v = .slice none 0 0 ∨ ∃ a n c, v = .slice (some a) n c ∧ n ≤ c ∧ n ≤ maxLen ∧
      (n = 0 ∨ ∃ b off, a = ⟨b, off, none⟩ ∧ GL b = none ∧ ∃ cs e fr, w.heap[b]? = some (.cells cs e fr) ∧ ∀ p, p < n → OkTs w l (fun j => cs[off + p * l.length + j]?) 0)
def OkTs (w : World) : List KT → (Nat → Option Value) → Nat → Prop
  | [], _, _ => True
  | k :: ks, V, j => (∃ v, V j = some v ∧ OkT w k v) ∧ OkTs w ks V (j + 1)
end
mutual
def avT (w : World) : KT → Value → AV
  | .sc k, v => scalV k.ck v
  | .ls l, v => .lst false (nilOf v) l.length (lenOf v) (fun p j => avTs w l j (fun q => cellAt w v (p * l.length + q)) 0)
def avTs (w : World) : List KT → Nat → (Nat → Value) → Nat → AV
  | [], _, _, _ => .np
  | k :: ks, j, V, q => match j with | 0 => avT w k (V q) | Nat.succ j => avTs w ks j V (q + 1)
end
/-- Nothing is one's own: all is frozen. -/
def Mw (w : World) : Mp := ⟨fun _ => none, fun b => match GL b with | none => cellsW w b | some _ => none⟩
mutual
theorem okT_R {w : World} : ∀ (k : KT) (v : Value), OkT w k v → (avT w k v).R (Mw w) v ∧ v.oneCell' = true
  | .sc k, v, h => by
    simp only [OkT] at h
    simp only [avT]
    exact ⟨AV.R.mono (Le_noM _) _ _ (kV_R h).1, (kV_R h).2⟩
  | .ls l, v, h => by
    simp only [OkT] at h
    simp only [avT]
    rcases h with rfl | ⟨a, n, c, rfl, hnc, _, h⟩
    · exact ⟨by simp only [AV.R]; exact .inl ⟨rfl, rfl, trivial⟩, rfl⟩
    · refine ⟨?_, rfl⟩
      simp only [AV.R]
      rcases h with h0 | ⟨b, off, rfl, hgl, cs, e, fr, hb, h⟩
      · exact .inr (.inl ⟨rfl, h0, a, c, by rw [h0], fun e => by cases e⟩)
      · by_cases h0 : n = 0
        · exact .inr (.inl ⟨rfl, h0, _, c, by rw [h0], fun e => by cases e⟩)
        · refine .inr (.inr ⟨rfl, Nat.pos_of_ne_zero h0, b, off, c, cs, rfl, hnc, (fun e => by cases e), by simp only [Mw, hgl, cellsW, hb], fun i hi j hj => ?_⟩)
          have h1 := okTs_R l _ (fun q => cellAt w (.slice (some ⟨b, off, none⟩) n c) (i * l.length + q)) 0 (h i hi) (fun q v hv => by
            simp only [cellAt, hb]
            rw [← Nat.add_assoc, hv]; rfl) j hj
          obtain ⟨v, q1, q2, q3⟩ := h1
          rw [Nat.zero_add] at q1
          exact ⟨v, q1, q3, q2⟩
theorem okTs_R {w : World} : ∀ (ks : List KT) (V : Nat → Option Value) (V' : Nat → Value) (q : Nat), OkTs w ks V q → (∀ q v, V q = some v → V' q = v) → ∀ j, j < ks.length → ∃ v, V (q + j) = some v ∧ (avTs w ks j V' q).R (Mw w) v ∧ v.oneCell' = true
  | [], V, V', q, h, hV, j, hj => by simp at hj
  | k :: ks, V, V', q, h, hV, j, hj => by
    simp only [OkTs] at h
    obtain ⟨⟨v, h1, h2⟩, h3⟩ := h
    cases j with
    | zero =>
      have := okT_R k v h2
      refine ⟨v, h1, ?_, this.2⟩
      simp only [avTs]
      rw [hV q v h1]; exact this.1
    | succ j =>
      obtain ⟨v, q1, q2, q3⟩ := okTs_R ks V V' (q + 1) h3 hV j (by simpa using hj)
      exact ⟨v, by rw [← q1]; congr 1; omega, by simpa only [avTs] using q2, q3⟩
end
theorem okTs_at {w : World} : ∀ {ks : List KT} {V : Nat → Option Value} {q j : Nat} {k : KT}, OkTs w ks V q → ks[j]? = some k → ∃ v, V (q + j) = some v ∧ OkT w k v
  | [], _, _, j, k, _, hj => by simp at hj
  | c :: ks, V, q, 0, k, h, hj => by
    simp at hj; subst hj
    simp only [OkTs] at h
    exact h.1
  | c :: ks, V, q, j + 1, k, h, hj => by
    simp only [OkTs] at h
    obtain ⟨v, q1, q2⟩ := okTs_at (q := q + 1) h.2 (by simpa using hj)
    exact ⟨v, by rw [← q1]; congr 1; omega, q2⟩
theorem okTs_app {w : World} : ∀ {a b : List KT} {V : Nat → Option Value} {q : Nat}, OkTs w a V q → OkTs w b V (q + a.length) → OkTs w (a ++ b) V q
  | [], b, V, q, _, h => by simpa using h
  | c :: a, b, V, q, h, h2 => by
    simp only [OkTs, List.cons_append] at h ⊢
    exact ⟨h.1, okTs_app h.2 (by rw [show q + 1 + a.length = q + (c :: a).length by simp; omega]; exact h2)⟩
theorem okTs_ext {w : World} : ∀ {a : List KT} {V V' : Nat → Option Value} {q q' : Nat}, OkTs w a V q → (∀ j, j < a.length → V (q + j) = V' (q' + j)) → OkTs w a V' q'
  | [], _, _, _, _, _, _ => by simp only [OkTs]
  | c :: a, V, V', q, q', h, e => by
    simp only [OkTs] at h ⊢
    obtain ⟨⟨v, h1, h2⟩, h3⟩ := h
    refine ⟨⟨v, ?_, h2⟩, okTs_ext h3 fun j hj => ?_⟩
    · have := e 0 (by simp); simp only [Nat.add_zero] at this; rw [← this]; exact h1
    · have := e (j + 1) (by simpa using hj)
      rw [show q + 1 + j = q + (j + 1) by omega, show q' + 1 + j = q' + (j + 1) by omega]; exact this
/-- What lies in the laid package variables is not of this kind. -/
def GLT (k : KT) : Prop := ∀ g c, GL g = some c → ∀ (j : Nat) (a : AV), c[j]? = some a → ∀ v, a.R noM v → ∀ w, ¬ OkT w k v
mutual
def GLo : KT → Prop
  | .sc _ => True
  | .ls l => (∀ k, l[0]? = some k → GLT k) ∧ GLos l
def GLos : List KT → Prop
  | [] => True
  | k :: l => GLo k ∧ GLos l
end
theorem GLos_app : ∀ {a b : List KT}, GLos (a ++ b) → GLos a ∧ GLos b
  | [], b, h => ⟨trivial, h⟩
  | c :: a, b, h => by
    simp only [List.cons_append, GLos] at h ⊢
    obtain ⟨h1, h2⟩ := GLos_app h.2
    exact ⟨⟨h.1, h1⟩, h2⟩
def ktsFs (g : TypeId → Option (List KT)) (P : Program) : List Field → Nat → Option (List KT)
  | [], _ => some []
  | f :: fs, j => match g f.type with
    | some l => bif Nat.beq f.offset j && Nat.beq (P.cellsOf f.type) l.length then match ktsFs g P fs (j + l.length) with | some r => some (l ++ r) | none => none else none
    | none => none
def ktsOf (P : Program) : Nat → TypeId → Option (List KT)
  | 0, _ => none
  | n + 1, t => match P.underlying t with
    | some (.int k) => some [.sc (.int k)]
    | some .bool => some [.sc .bool]
    | some .string => some [.sc .str]
    | some (.slice e) => match ktsOf P n e with
      | some l => bif Nat.beq (P.cellsOf e) l.length && Nat.blt 0 l.length then some [.ls l] else none
      | none => none
    | some (.struct fs) => match ktsFs (ktsOf P n) P fs.toList 0 with
      | some l => bif Nat.beq (P.cellsOf t) l.length then some l else none
      | none => none
    | _ => none
section
variable {H : Type} {enc : TypeId × Value → H} {P : Program} {w : World} {base : Nat} {spare : Nat → Bool} {held : Bool}
theorem trod_lst {t e : TypeId} {l : List KT} {v : Value} {fuel : Nat} {x : DataW H × List MemPlace} (gw : GW w) (gl : ∀ k, l[0]? = some k → GLT k) (hu : P.underlying t = some (.slice e)) (hz : P.cellsOf e = l.length) (hp : 0 < l.length)
    (he : ∀ (n : Nat) (cs : List Value) (y : DataW H × List MemPlace), cs.length = P.cellsOf e → DataW.trod enc P w base spare held n e cs = some y → OkTs w l (fun j => cs[j]?) 0)
    (h : DataW.trod enc P w base spare held fuel t [v] = some x) : OkT w (.ls l) v := by
  simp only [OkT]
  rcases Go.Deep.open_slice hu h with ⟨e1, _⟩ | ⟨a, len, cap, m, n, D, Pl, e1, _, hlc, hcm, hm, _, hx⟩
  · simp at e1; exact .inl e1
  · simp at e1; subst e1
    have hlm : len ≤ m := by rw [hm]; split <;> omega
    refine .inr ⟨a, len, cap, rfl, hlc, by omega, ?_⟩
    by_cases h0 : len = 0
    · exact .inl h0
    · right
      have key : ∀ i, i < len → ∃ cs' : List Value, OkTs w l (fun j => cs'[j]?) 0 ∧ ∀ j, j < l.length → w.cell? (a.add (i * l.length + j)) = cs'[j]? := fun i hi => by
        obtain ⟨cs', h1, h2⟩ := hx i (by omega)
        obtain ⟨_, hlen, hcell⟩ := World.cells?_some h1
        refine ⟨cs', he _ _ _ hlen h2, fun j hj => ?_⟩
        have := hcell j (by rw [hz]; exact hj)
        rw [hz, Go.Deep.add_add] at this
        exact this
      obtain ⟨k0, hk0⟩ : ∃ k, l[0]? = some k := ⟨l[0], by simp [hp]⟩
      obtain ⟨cs0, hok0, hc0⟩ := key 0 (by omega)
      obtain ⟨v0, hv0, hkv0⟩ := okTs_at hok0 hk0
      have hc00 := hc0 0 hp
      have hv0 : cs0[0]? = some v0 := hv0
      rw [hv0] at hc00
      have hsp := World.cell?_spot hc00
      have ha : a = ⟨a.block, a.off, none⟩ := by
        cases a with | mk b o s => simp [Addr.add] at hsp; subst hsp; rfl
      have cell : ∀ k v, w.cell? (a.add k) = some v → ∃ cs e fr, w.heap[a.block]? = some (.cells cs e fr) ∧ cs[a.off + k]? = some v := fun k v hc => by
        rw [ha, addr_add] at hc
        simp only [World.cell?] at hc
        split at hc
        · rename_i cs e fr hb
          exact ⟨cs, e, fr, hb, by simpa using hc⟩
        · cases hc
      obtain ⟨cs, e', fr, hb, _⟩ := cell _ _ hc00
      have hgl : GL a.block = none := by
        cases hg : GL a.block with
        | none => rfl
        | some c =>
          exfalso
          obtain ⟨vs, e2, fr2, q1, q2⟩ := gw _ _ hg
          obtain ⟨cs3, e3, fr3, q3, q4⟩ := cell _ _ hc00
          rw [q1] at q3
          simp only [Option.some.injEq, Obj.cells.injEq] at q3
          obtain ⟨rfl, _⟩ := q3
          have q4 : vs[a.off + (0 * l.length + 0)]? = some v0 := by simpa using q4
          have hl2 := RL_length q2
          have hlt := (List.getElem?_eq_some_iff.1 q4).1
          obtain ⟨v9, r1, r2⟩ := RL_get (a.off + (0 * l.length + 0)) (c[a.off + (0 * l.length + 0)]'(by omega)) q2 (by simp)
          rw [q4] at r1
          simp only [Option.some.injEq] at r1
          subst r1
          exact gl k0 hk0 _ _ hg _ _ (List.getElem?_eq_getElem (by omega)) _ r2 w hkv0
      refine ⟨a.block, a.off, ha, hgl, cs, e', fr, hb, fun i hi => ?_⟩
      obtain ⟨cs', hok, hc⟩ := key i hi
      refine okTs_ext hok fun j hj => ?_
      simp only [Nat.zero_add]
      obtain ⟨v, hv, _⟩ := okTs_at hok (List.getElem?_eq_getElem hj)
      have hv : cs'[0 + j]? = some v := hv
      rw [Nat.zero_add] at hv
      have h1 := hc j hj
      rw [hv] at h1
      obtain ⟨cs2, e2, fr2, hb2, hv2⟩ := cell _ _ h1
      rw [hb] at hb2
      simp only [Option.some.injEq, Obj.cells.injEq] at hb2
      obtain ⟨rfl, rfl, rfl⟩ := hb2
      rw [hv, Nat.add_assoc, hv2]
/-- What such a type's cells are. -/
theorem trod_kts (gw : GW w) : ∀ {n : Nat} {t : TypeId} {kts : List KT} {cs : List Value} {fuel : Nat} {x : DataW H × List MemPlace}, GLos kts → ktsOf P n t = some kts → cs.length = kts.length → DataW.trod enc P w base spare held fuel t cs = some x →
    OkTs w kts (fun j => cs[j]?) 0
  | 0, t, kts, cs, fuel, x, _, h, _, _ => by cases h
  | n + 1, t, kts, cs, fuel, x, gl, h, hl, ht => by
    have scal : ∀ k : K1, kts = [.sc k] → ckOk P t k.ck = true → OkTs w kts (fun j => cs[j]?) 0 := fun k e hk => by
      subst e
      match cs, hl with
      | [v], _ =>
        have := trod_ck hk ht
        simp only [OkTs, OkT, and_true]
        exact ⟨v, rfl, this⟩
    unfold ktsOf at h
    split at h
    · rename_i k hu
      simp only [Option.some.injEq] at h; exact scal (.int k) h.symm (by simp only [ckOk, K1.ck, hu]; cases k <;> rfl)
    · rename_i hu
      simp only [Option.some.injEq] at h; exact scal .bool h.symm (by simp [ckOk, K1.ck, hu])
    · rename_i hu
      simp only [Option.some.injEq] at h; exact scal .str h.symm (by simp [ckOk, K1.ck, hu])
    · rename_i e hu
      split at h
      case h_2 => cases h
      rename_i l hle
      simp only [Bool.cond_eq_ite] at h
      split at h
      case isFalse => cases h
      rename_i hc
      simp only [Option.some.injEq] at h; subst h
      simp only [Bool.and_eq_true, nbeq, nblt, decide_eq_true_eq] at hc
      match cs, hl with
      | [v], _ =>
        simp only [GLos, GLo, and_true] at gl
        have := trod_lst gw gl.1 hu hc.1 hc.2 (fun n' cs' y h1 h2 => trod_kts gw gl.2 hle (by rw [h1, hc.1]) h2) ht
        simp only [OkTs, and_true]
        exact ⟨v, rfl, this⟩
    · rename_i fs hu
      split at h
      case h_2 => cases h
      rename_i l hl2
      simp only [Bool.cond_eq_ite] at h
      split at h
      case isFalse => cases h
      simp only [Option.some.injEq] at h; subst h
      obtain ⟨xs, n', _, _, h3, h4, h5⟩ := DataW.trod_struct hu ht
      have key : ∀ (fl : List Field) (j : Nat) (l : List KT), GLos l → (∀ f ∈ fl, f ∈ fs.toList) → ktsFs (ktsOf P n) P fl j = some l → (cs.drop j).length = l.length → OkTs w l (fun q => cs[q]?) j := by
        intro fl
        induction fl with
        | nil =>
          intro j l _ _ e hlen
          simp [ktsFs] at e; subst e
          simp only [OkTs]
        | cons f fl ih =>
          intro j l hgl hmem e hlen
          simp only [ktsFs] at e
          split at e
          case h_2 => cases e
          rename_i lf hlf
          simp only [Bool.cond_eq_ite] at e
          split at e
          case isFalse => cases e
          rename_i hc
          simp only [Bool.and_eq_true, nbeq, decide_eq_true_eq] at hc
          obtain ⟨rfl, hc2⟩ := hc
          split at e
          case h_2 => cases e
          rename_i r hr
          simp only [Option.some.injEq] at e; subst e
          simp only [List.length_append] at hlen
          obtain ⟨i, hi⟩ := List.mem_iff_getElem?.1 (hmem f (by simp))
          have hx := h5 i f (by simpa using hi)
          have hxl : i < xs.length := by rw [h4, ← Array.length_toList]; exact (List.getElem?_eq_some_iff.1 hi).1
          rw [List.getElem?_eq_getElem hxl] at hx
          have q1 := trod_kts gw (GLos_app hgl).1 hlf (by rw [List.length_take, hc2]; omega) hx
          have q2 := ih (f.offset + lf.length) r (GLos_app hgl).2 (fun g hg => hmem g (by simp [hg])) hr (by rw [List.length_drop] at hlen ⊢; omega)
          refine okTs_app (okTs_ext q1 fun j hj => ?_) q2
          rw [Nat.zero_add, List.getElem?_take, if_pos (by rw [hc2]; exact hj), List.getElem?_drop]
      exact key fs.toList 0 l gl (fun _ h => h) hl2 (by simpa using hl)
    · cases h
end

/-! A law's arguments, and its walk. -/
def avL (w : World) : List KT → List Value → List AV
  | [], _ => []
  | k :: ks, vs => match vs with | v :: vs' => avT w k v :: avL w ks vs' | [] => []
theorem okTs_RL {w : World} : ∀ {ks : List KT} {cs : List Value}, cs.length = ks.length → OkTs w ks (fun j => cs[j]?) 0 → AV.RL (Mw w) (avL w ks cs) cs
  | [], cs, hl, _ => List.length_eq_zero_iff.1 hl
  | k :: ks, [], hl, _ => by simp at hl
  | k :: ks, v :: cs, hl, h => by
    simp only [OkTs] at h
    obtain ⟨⟨u, h1, h2⟩, h3⟩ := h
    simp at h1; subst h1
    simp only [avL, AV.RL]
    exact ⟨v, cs, (okT_R k v h2).1, okTs_RL (by simpa using hl) (okTs_ext h3 fun j hj => by rw [Nat.add_comm (0 + 1) j]; simp), rfl⟩
theorem lst_eq {x nil : Bool} {z n : Nat} {f f' : Nat → Nat → AV} {M : Mp} {v : Value} (r : (AV.lst x nil z n f).R M v) (e : ∀ i j, j < z → f i j = f' i j) : (AV.lst x nil z n f').R M v := by
  simp only [AV.R] at r ⊢
  rcases r with r | r | ⟨r1, r2, b, off, c, cs, r3, r4, r5, r6, r7⟩
  · exact .inl r
  · exact .inr (.inl r)
  · refine .inr (.inr ⟨r1, r2, b, off, c, cs, r3, r4, r5, r6, fun i hi j hj => ?_⟩)
    obtain ⟨u, q1, q2, q3⟩ := r7 i hi j hj
    exact ⟨u, q1, q2, by rw [← e i j hj]; exact q3⟩
def heap0 : AH := ⟨.lf, 0, 0, []⟩
theorem get0 (id : Nat) : heap0.get id = none := by unfold heap0 AH.get; exact Tr.get_lf _
theorem rel0 {w : World} (gw : GW w) : Rel (Mw w) heap0 w := by
  refine ⟨fun id o e => ?_, fun i j b κ κ' o e => ?_, fun x hx => absurd (get0 x) hx, gw, fun x b κ o hx => (by rw [get0] at hx; cases hx), fun b cs e => ?_, fun i b κ o e => ?_⟩
  · rw [get0] at e; cases e
  · rw [get0] at e; cases e
  · unfold Mw at e
    simp only at e
    split at e
    · unfold cellsW at e
      split at e
      · rename_i cs' t fr hb
        simp only [Option.some.injEq] at e; subst e
        exact ⟨t, fr, hb⟩
      · cases e
    · cases e
  · rw [get0] at e; cases e
/-- **A law's walk, at its end**: it answers the bool, and what lay in memory lies as it lay. -/
theorem law_callsP {P : Program} {sm : FuncId → Option Sm} (hm : P.follows .mixedOrders = true) (hs : SmOK P sm) {args : List AV} {us : List Value} {ann : Nat → Option (St → LoopA)} {n : Nat} {f : FuncId} {w : World} (gw : GW w)
    (hr : AV.RL (Mw w) args us) (h : wxF P sm ann n f args heap0 (fun r _ => cmpC (.yb true) r)) :
    Calls P f us.toArray w fun e w' => e = .returned (.bool true) ∧ Below w.heap.size w w' := by
  obtain ⟨_, cc⟩ := wxF_ok hm hs h (Mw w) us w none (fun e w' => e = .returned (.bool true) ∧ Below w.heap.size w w') hr (rel0 gw) (fun _ _ => rfl) (fun v _ M' u w' hk rv _ _ f _ => by
    refine ⟨?_, f.os, f.tape, f.output, f.size, fun k hk2 => f.keep k hk2 (fun ⟨i, κ, o, h1, _⟩ => by rw [get0] at h1; cases h1)⟩
    have := cmpC_R hk rv (M' := noM)
    rw [this])
  exact CallsIn.calls cc (fun k d hd => by simp [FW] at hd)
end Go.Proofs.YtiikiphkhfmlcaaGreatDoor.Ex
