/- The abstract machine: what an operation of a region that draws its order sees, and the trace of such a region. -/
import Derived.Test.YtiikiphkhfmlcaaGreatDoorExM
noncomputable section
namespace Go.Proofs.YtiikiphkhfmlcaaGreatDoor.Ex
open Go

section
variable {P : Program} {rec : Rc}

def WfH (h : AH) : Prop := ∀ x, h.get x ≠ none → x < h.nx
theorem Ab.wf {h h' : AH} (a : Ab h h') (w : WfH h) : WfH h' := fun x hx => by
  rcases a.dom x hx with h1 | h1
  · have := w x h1; have := a.nx; omega
  · exact h1.2

def svGet : List (Nat × AO) → Nat → Option AO
  | [], _ => none
  | (x, o) :: l, y => if y = x then some o else svGet l y
theorem hideA_ok : ∀ {l : List Nat} {h hv : AH} {sv : List (Nat × AO)}, hideA h l = some (hv, sv) → hv.nx = h.nx ∧ (∀ y, hv.get y = if y ∈ l then none else h.get y) ∧ (∀ y, svGet sv y = if y ∈ l then h.get y else none)
  | [], h, hv, sv, e => by
    simp only [hideA, Option.some.injEq, Prod.mk.injEq] at e
    obtain ⟨rfl, rfl⟩ := e
    exact ⟨rfl, fun y => by simp, fun y => by simp [svGet]⟩
  | x :: l, h, hv, sv, e => by
    simp only [hideA] at e
    split at e
    · rename_i o hg
      split at e
      · rename_i h1 hp
        split at e
        · rename_i h2 sv2 e2
          simp only [Option.some.injEq, Prod.mk.injEq] at e
          obtain ⟨rfl, rfl⟩ := e
          obtain ⟨i1, i2, i3⟩ := hideA_ok e2
          have hgp := AH.get_put hp
          refine ⟨i1.trans (AH.put_nx hp).1, fun y => ?_, fun y => ?_⟩
          · rw [i2, hgp]
            by_cases hy : y = x
            · subst hy; simp
            · simp [hy]
          · simp only [svGet, i3, hgp]
            by_cases hy : y = x
            · subst hy; simp [hg]
            · simp [hy]
        · cases e
      · cases e
    · rename_i hg
      obtain ⟨i1, i2, i3⟩ := hideA_ok e
      refine ⟨i1, fun y => ?_, fun y => ?_⟩
      · rw [i2]
        by_cases hy : y = x
        · subst hy; simp [hg]
        · simp [hy]
      · rw [i3]
        by_cases hy : y = x
        · subst hy; simp [hg]
        · simp [hy]
theorem showA_ok : ∀ {sv : List (Nat × AO)} {g g2 : AH}, showA g sv = some g2 → g2.nx = g.nx ∧ (∀ y, g2.get y = (svGet sv y).or (g.get y)) ∧ (∀ y, g.get y ≠ none → svGet sv y = none)
  | [], g, g2, e => by
    simp only [showA, Option.some.injEq] at e; subst e
    exact ⟨rfl, fun y => by simp [svGet], fun _ _ => rfl⟩
  | (x, o) :: l, g, g2, e => by
    simp only [showA] at e
    split at e
    · cases e
    · rename_i hg
      split at e
      · rename_i g1 hp
        obtain ⟨i1, i2, i3⟩ := showA_ok e
        have hgp := AH.get_put hp
        refine ⟨i1.trans (AH.put_nx hp).1, fun y => ?_, fun y hy => ?_⟩
        · rw [i2, hgp]
          simp only [svGet]
          by_cases hy : y = x
          · subst hy
            have := i3 y (by rw [hgp]; simp)
            simp [this]
          · simp [hy]
        · simp only [svGet]
          by_cases hyx : y = x
          · subst hyx; exact absurd hg hy
          · simp only [hyx, if_false]
            exact i3 y (by rw [hgp]; simp [hyx]; exact hy)
      · cases e
theorem mergeW_mem {bs : Nat} {wl : List Nat} : ∀ {l : List Nat} {x : Nat}, (x ∈ wl → x ∈ mergeW bs wl l) ∧ (x < bs → x ∈ l → x ∈ mergeW bs wl l)
  | [], x => by simp [mergeW]
  | y :: l, x => by
    have ih := mergeW_mem (bs := bs) (wl := wl) (l := l) (x := x)
    simp only [mergeW, nblt]
    cases hc : (decide (y < bs) && !memN y wl) with
    | true =>
      simp only [cond_true, List.mem_cons]
      refine ⟨fun hx => .inr (ih.1 hx), fun hb hx => ?_⟩
      rcases hx with rfl | hx
      · exact .inl rfl
      · exact .inr (ih.2 hb hx)
    | false =>
      simp only [cond_false]
      refine ⟨ih.1, fun hb hx => ?_⟩
      rcases List.mem_cons.1 hx with rfl | hx
      · simp [hb] at hc
        exact ih.1 (memN_iff.1 hc)
      · exact ih.2 hb hx
theorem rangeL_mem : ∀ {f lo hi x : Nat}, hi ≤ lo + f → (x ∈ rangeL f lo hi ↔ lo ≤ x ∧ x < hi)
  | 0, lo, hi, x, h => by simp [rangeL]; omega
  | f + 1, lo, hi, x, h => by
    simp only [rangeL, nblt, Bool.cond_decide]
    split
    · rw [List.mem_cons, rangeL_mem (by simp; omega)]
      simp; omega
    · simp; omega
theorem hideL_ok : ∀ {un : List DR} {l : List Nat}, hideL un = some l → ∀ x, (x ∈ l ↔ ∃ r ∈ un, inDR x r = true)
  | [], l, e, x => by simp only [hideL, Option.some.injEq] at e; subst e; simp
  | r :: un, l, e, x => by
    simp only [hideL, nble, Bool.cond_decide] at e
    split at e
    · rename_i hle
      split at e
      · rename_i l2 e2
        simp only [Option.some.injEq] at e; subst e
        have ih := hideL_ok e2 x
        simp only [List.mem_append, ih, rangeL_mem hle, List.mem_cons, exists_eq_or_imp]
        simp only [inDR, nble, nblt, Bool.or_eq_true, Bool.and_eq_true, decide_eq_true_eq, memN_iff]
      · cases e
    · cases e

/-- What an operation sees. -/
structure View (P : Program) (rec : Rc) (tm : Tr AV) (o : Oper) (h : AH) (un : List DR) (v : AV) (h2 : AH) (wr : List Nat) (full : Bool) (ld : Option Nat) (V V' : AH) : Prop where
  run : opF P rec tm o V = some (v, V')
  nx : V.nx = h.nx
  nx' : V'.nx = h2.nx
  sub : ∀ x ob, V.get x = some ob → h.get x = some ob
  vis : ∀ x, V.get x ≠ none → ∀ r ∈ un, inDR x r = false
  kind : full = true ∨ (wr = [] ∧ ∀ x, V.get x ≠ none → ld = some x)
  new : ∀ x, (x ∈ wr ∨ (h.nx ≤ x ∧ x < h2.nx)) → h2.get x = V'.get x
  old : ∀ x, x ∉ wr → ¬ (h.nx ≤ x ∧ x < h2.nx) → h2.get x = h.get x
  keep : ∀ x, V.get x ≠ none → x ∉ wr → V'.get x = V.get x
  ab : Ab h h2

theorem get_lf (nx bs : Nat) (wl : List Nat) (x : Nat) : (⟨.lf, nx, bs, wl⟩ : AH).get x = none := Tr.get_lf _

theorem noneW_ok {nx : Nat} {wr : List Nat} {un : List DR} (h : noneW nx wr un = true) : (∀ x ∈ wr, x < nx) ∧ ∀ r ∈ un, wr ≠ [] → r.full = false ∧ (∀ x, r.ld = some x → x ∉ wr) ∧ ∀ x ∈ wr, inDR x r = false := by
  unfold noneW at h
  split at h
  · exact ⟨by simp, fun r _ e => absurd rfl e⟩
  · simp only [Bool.and_eq_true, List.all_eq_true] at h
    obtain ⟨h1, h2⟩ := h
    refine ⟨fun x hx => by have := h1 x hx; simpa [nblt] using this, fun r hr _ => ?_⟩
    obtain ⟨⟨q1, q2⟩, q3⟩ := h2 r hr
    refine ⟨by simpa using q1, fun x hx hm => ?_, fun x hx => by simpa using q3 x hx⟩
    rw [hx] at q2
    have := memN_iff.2 hm
    simp [this] at q2

theorem viewRun_ok (hG : Good P rec) {tm : Tr AV} {o : Oper} {h h2 : AH} {un : List DR} {v : AV} {wr : List Nat} {full : Bool} {ld : Option Nat} (hv : viewRun P rec tm o h un = some (v, h2, wr, full, ld))
    (hw : WfH h) (hun : ∀ r ∈ un, r.hi ≤ h.nx ∧ ∀ x ∈ r.wr, x < h.nx) (hn : noneW h.nx wr un = true) : ∃ V V', View P rec tm o h un v h2 wr full ld V V' := by
  unfold viewRun at hv
  split at hv
  · -- no memory
    split at hv
    · rename_i v1 h' ho
      simp only [nbeq, Bool.cond_decide] at hv
      split at hv
      · rename_i hnx
        simp only [Option.some.injEq, Prod.mk.injEq] at hv
        obtain ⟨rfl, rfl, rfl, rfl, rfl⟩ := hv
        exact ⟨_, h', ho, rfl, hnx, fun x ob e => by simp [get_lf] at e, fun x e => absurd (get_lf _ _ _ x) e, .inr ⟨rfl, fun x e => absurd (get_lf _ _ _ x) e⟩, fun x e => by rcases e with e | e; simp at e; omega, fun _ _ _ => rfl, fun x e => absurd (get_lf _ _ _ x) e, Ab.refl _⟩
      · cases hv
    · cases hv
  · -- new memory
    split at hv
    · rename_i v1 h' ho
      simp only [nbeq, Bool.cond_decide] at hv
      split at hv
      · rename_i hnx
        simp only [Option.some.injEq, Prod.mk.injEq] at hv
        obtain ⟨rfl, rfl, rfl, rfl, rfl⟩ := hv
        exact ⟨_, h', ho, rfl, hnx, fun x ob e => by simp [get_lf] at e, fun x e => absurd (get_lf _ _ _ x) e, .inr ⟨rfl, fun x e => absurd (get_lf _ _ _ x) e⟩, fun x e => by rcases e with e | e; simp at e; omega, fun _ _ _ => rfl, fun x e => absurd (get_lf _ _ _ x) e, Ab.refl _⟩
      · split at hv
        · rename_i hnx
          split at hv
          · rename_i ob hob
            split at hv
            · rename_i h3 h3n
              simp only [Option.some.injEq, Prod.mk.injEq] at hv
              obtain ⟨rfl, rfl, rfl, rfl, rfl⟩ := hv
              have hg := AH.get_new h3n
              have hx3 := (AH.new_nx h3n).1
              exact ⟨_, h', ho, rfl, by rw [hnx, hx3], fun x ob e => by simp [get_lf] at e, fun x e => absurd (get_lf _ _ _ x) e, .inr ⟨rfl, fun x e => absurd (get_lf _ _ _ x) e⟩, fun x e => by
                rcases e with e | e
                · simp at e
                · have : x = h.nx := by omega
                  subst this; rw [hg, hob]; simp, fun x _ e => by rw [hg, if_neg (by omega)], fun x e => absurd (get_lf _ _ _ x) e, new_ab h3n⟩
            · cases hv
          · cases hv
        · cases hv
    · cases hv
  · -- one block
    rename_i id hkk
    split at hv
    · rename_i ob hob
      cases ha : un.any (inDR id) with
      | true => rw [ha] at hv; cases hv
      | false =>
        rw [ha, cond_false] at hv
        split at hv
        · rename_i t ht
          split at hv
          · rename_i v1 h' ho
            simp only [nbeq, Bool.cond_decide] at hv
            split at hv
            · rename_i hnx
              split at hv
              · rename_i hwl
                simp only [Option.some.injEq, Prod.mk.injEq] at hv
                obtain ⟨rfl, rfl, rfl, rfl, rfl⟩ := hv
                have hget : ∀ x, (⟨t, h.nx, h.nx, []⟩ : AH).get x = if x = id then some ob else none := fun x => by
                  show t.get (Nat.succ x) = _
                  rw [Tr.get_set _ _ _ _ _ ht]
                  simp [Tr.get_lf]
                have hdom : ∀ x, (⟨t, h.nx, h.nx, []⟩ : AH).get x ≠ none → x = id := fun x e => by
                  rw [hget] at e
                  by_cases hx : x = id
                  · exact hx
                  · simp [hx] at e
                have hab := (opF_ok hG ho).1.2
                refine ⟨_, h', ho, rfl, hnx, fun x ob2 e => ?_, fun x e r hr => ?_, .inr ⟨rfl, fun x e => by rw [hdom x e]⟩, fun x e => by rcases e with e | e; simp at e; omega, fun _ _ _ => rfl, fun x e _ => ?_, Ab.refl _⟩
                · have := hdom x (by rw [e]; simp)
                  subst this
                  rw [hget] at e
                  simp at e; rw [hob, e]
                · rw [hdom x e]
                  cases hh : inDR id r with
                  | false => rfl
                  | true => have : un.any (inDR id) = true := List.any_eq_true.2 ⟨r, hr, hh⟩; rw [ha] at this; cases this
                · have hx := hdom x e
                  have hlt : x < h.nx := by rw [hx]; exact hw id (by simp [hob])
                  exact hab.log x hlt hlt (by rw [hwl]; simp)
              · cases hv
            · cases hv
          · cases hv
        · cases hv
    · cases hv
  · -- all memory
    split at hv
    · rename_i l hl
      split at hv
      · rename_i hvv sv hh
        split at hv
        · rename_i v1 h' ho
          split at hv
          · rename_i g2 hs
            simp only [Option.some.injEq, Prod.mk.injEq] at hv
            obtain ⟨rfl, rfl, rfl, rfl, rfl⟩ := hv
            obtain ⟨e1, e2, e3⟩ := hideA_ok hh
            obtain ⟨f1, f2, f3⟩ := showA_ok hs
            obtain ⟨hn1, hn2⟩ := noneW_ok hn
            have hlm := hideL_ok hl
            have hab := (opF_ok hG ho).1.2
            have gV : ∀ x, (⟨hvv.t, hvv.nx, hvv.nx, []⟩ : AH).get x = if x ∈ l then none else h.get x := fun x => e2 x
            have hnx := hab.nx
            have hlog : ∀ x, x < hvv.nx → x ∉ h'.wl → h'.get x = (⟨hvv.t, hvv.nx, hvv.nx, []⟩ : AH).get x := fun x hx hn => hab.log x hx hx hn
            have hdom := hab.dom
            simp only at hnx hdom
            have f1' : g2.nx = h'.nx := f1
            have f2' : ∀ y, g2.get y = (svGet sv y).or (h'.get y) := f2
            have hg2 : ∀ x, g2.get x = if x ∈ l then (h.get x).or (h'.get x) else h'.get x := fun x => by
              rw [f2', e3]
              split <;> simp
            have lnx : ∀ x, x ∈ l → x < h.nx := fun x hx => by
              obtain ⟨r, hr, hi⟩ := (hlm x).1 hx
              simp only [inDR, nble, nblt, Bool.or_eq_true, Bool.and_eq_true, decide_eq_true_eq, memN_iff] at hi
              obtain ⟨q1, q2⟩ := hun r hr
              rcases hi with hi | hi
              · omega
              · exact q2 x hi
            have tnl : ∀ x, (x ∈ h'.wl ∨ (h.nx ≤ x ∧ x < g2.nx)) → x ∉ l := fun x hx hxl => by
              rcases hx with hx | hx
              · obtain ⟨r, hr, hi⟩ := (hlm x).1 hxl
                have := (hn2 r hr (by intro e; rw [e] at hx; simp at hx)).2.2 x hx
                rw [this] at hi; cases hi
              · have := lnx x hxl; omega
            have hold : ∀ x, x ∉ h'.wl → ¬ (h.nx ≤ x ∧ x < g2.nx) → g2.get x = h.get x := fun x hx1 hx2 => by
              have key : h'.get x = if x ∈ l then none else h.get x := by
                by_cases hlt : x < h.nx
                · rw [hlog x (by omega) hx1, gV]
                · have hxl : x ∉ l := fun e => hlt (lnx x e)
                  have h0 : h.get x = none := by
                    cases hq : h.get x with
                    | none => rfl
                    | some q => exact absurd (hw x (by simp [hq])) hlt
                  have h1 : h'.get x = none := by
                    cases hq : h'.get x with
                    | none => rfl
                    | some q =>
                      rcases hdom x (by simp [hq]) with d | d
                      · rw [gV] at d; simp [hxl, h0] at d
                      · omega
                  simp [h1, h0]
              rw [hg2, key]
              split
              · simp
              · rfl
            refine ⟨_, h', ho, e1, f1'.symm, fun x ob e => ?_, fun x e r hr => ?_, .inl rfl, fun x e => ?_, hold, fun x e hx => ?_, ?_⟩
            · rw [gV] at e
              split at e
              · cases e
              · exact e
            · rw [gV] at e
              have hxl : x ∉ l := fun hx => by simp [hx] at e
              cases hi : inDR x r with
              | false => rfl
              | true => exact absurd ((hlm x).2 ⟨r, hr, hi⟩) hxl
            · show g2.get x = _
              rw [hg2, if_neg (tnl x e)]
            · have hlt : x < h.nx := hw x (by
                rw [gV] at e
                split at e
                · exact absurd rfl e
                · exact e)
              exact hlog x (by omega) hx
            · refine ⟨by show h.nx ≤ g2.nx; omega, rfl, fun x hx => mergeW_mem.1 hx, fun x hb hx hm => ?_, fun x hx => ?_⟩
              · refine hold x (fun e => hm (mergeW_mem.2 hb e)) (by omega)
              · by_cases ht : x ∈ h'.wl ∨ (h.nx ≤ x ∧ x < g2.nx)
                · by_cases hr : h.nx ≤ x ∧ x < g2.nx
                  · exact .inr hr
                  · left
                    have hx' : g2.get x ≠ none := hx
                    rw [hg2, if_neg (tnl x ht)] at hx'
                    rcases hdom x hx' with d | d
                    · rw [gV] at d
                      split at d
                      · exact absurd rfl d
                      · exact d
                    · exact absurd ⟨by omega, by omega⟩ hr
                · left
                  have hx' : g2.get x ≠ none := hx
                  rw [hold x (fun e => ht (.inl e)) (fun e => ht (.inr e))] at hx'
                  exact hx'
          · cases hv
        · cases hv
      · cases hv
    · cases hv

theorem viewRun_ab (hG : Good P rec) {tm : Tr AV} {o : Oper} {h h2 : AH} {un : List DR} {v : AV} {wr : List Nat} {full : Bool} {ld : Option Nat} (hv : viewRun P rec tm o h un = some (v, h2, wr, full, ld))
    (hun : ∀ r ∈ un, r.hi ≤ h.nx ∧ ∀ x ∈ r.wr, x < h.nx) (hn : noneW h.nx wr un = true) : Ab h h2 := by
  unfold viewRun at hv
  split at hv
  · split at hv
    · simp only [nbeq, Bool.cond_decide] at hv
      split at hv
      · simp only [Option.some.injEq, Prod.mk.injEq] at hv
        obtain ⟨_, rfl, _⟩ := hv
        exact Ab.refl _
      · cases hv
    · cases hv
  · split at hv
    · simp only [nbeq, Bool.cond_decide] at hv
      split at hv
      · simp only [Option.some.injEq, Prod.mk.injEq] at hv
        obtain ⟨_, rfl, _⟩ := hv
        exact Ab.refl _
      · split at hv
        · split at hv
          · split at hv
            · rename_i h3 h3n
              simp only [Option.some.injEq, Prod.mk.injEq] at hv
              obtain ⟨_, rfl, _⟩ := hv
              exact new_ab h3n
            · cases hv
          · cases hv
        · cases hv
    · cases hv
  · rename_i id hkk
    split at hv
    · cases ha : un.any (inDR id) with
      | true => rw [ha] at hv; cases hv
      | false =>
        rw [ha, cond_false] at hv
        split at hv
        · split at hv
          · simp only [nbeq, Bool.cond_decide] at hv
            split at hv
            · split at hv
              · simp only [Option.some.injEq, Prod.mk.injEq] at hv
                obtain ⟨_, rfl, _⟩ := hv
                exact Ab.refl _
              · cases hv
            · cases hv
          · cases hv
        · cases hv
    · cases hv
  · split at hv
    · rename_i l hl
      split at hv
      · rename_i hvv sv hh
        split at hv
        · rename_i v1 h' ho
          split at hv
          · rename_i g2 hs
            simp only [Option.some.injEq, Prod.mk.injEq] at hv
            obtain ⟨rfl, rfl, rfl, rfl, rfl⟩ := hv
            obtain ⟨e1, e2, e3⟩ := hideA_ok hh
            obtain ⟨f1, f2, f3⟩ := showA_ok hs
            obtain ⟨hn1, hn2⟩ := noneW_ok hn
            have hlm := hideL_ok hl
            have hab := (opF_ok hG ho).1.2
            have gV : ∀ x, (⟨hvv.t, hvv.nx, hvv.nx, []⟩ : AH).get x = if x ∈ l then none else h.get x := fun x => e2 x
            have hnx := hab.nx
            have hlog : ∀ x, x < hvv.nx → x ∉ h'.wl → h'.get x = (⟨hvv.t, hvv.nx, hvv.nx, []⟩ : AH).get x := fun x hx hn => hab.log x hx hx hn
            have hdom := hab.dom
            simp only at hnx hdom
            have f1' : g2.nx = h'.nx := f1
            have f2' : ∀ y, g2.get y = (svGet sv y).or (h'.get y) := f2
            have hg2 : ∀ x, g2.get x = if x ∈ l then (h.get x).or (h'.get x) else h'.get x := fun x => by
              rw [f2', e3]
              split <;> simp
            have lnx : ∀ x, x ∈ l → x < h.nx := fun x hx => by
              obtain ⟨r, hr, hi⟩ := (hlm x).1 hx
              simp only [inDR, nble, nblt, Bool.or_eq_true, Bool.and_eq_true, decide_eq_true_eq, memN_iff] at hi
              obtain ⟨q1, q2⟩ := hun r hr
              rcases hi with hi | hi
              · omega
              · exact q2 x hi
            have hold : ∀ x, x ∉ h'.wl → x < h.nx → g2.get x = h.get x := fun x hx1 hlt => by
              rw [hg2, hlog x (by omega) hx1, gV]
              split
              · simp
              · rfl
            refine ⟨by show h.nx ≤ g2.nx; omega, rfl, fun x hx => mergeW_mem.1 hx, fun x hb hx hm => ?_, fun x hx => ?_⟩
            · exact hold x (fun e => hm (mergeW_mem.2 hb e)) hx
            · by_cases hr : h.nx ≤ x ∧ x < g2.nx
              · exact .inr hr
              · left
                have hx' : g2.get x ≠ none := hx
                by_cases hxl : x ∈ l
                · rw [hg2, if_pos hxl] at hx'
                  cases hq : h.get x with
                  | some q => simp
                  | none =>
                    rw [hq] at hx'
                    rcases hdom x (by simpa using hx') with d | d
                    · rw [gV] at d; simp [hxl] at d
                    · exact absurd ⟨by omega, by omega⟩ hr
                · rw [hg2, if_neg hxl] at hx'
                  rcases hdom x hx' with d | d
                  · rw [gV, if_neg hxl] at d; exact d
                  · exact absurd ⟨by omega, by omega⟩ hr
          · cases hv
        · cases hv
      · cases hv
    · cases hv

/-! The trace of a region. -/
def recsOf (rr : Nat → DR) : Nat → List DR
  | 0 => []
  | n + 1 => rr n :: recsOf rr n
theorem recsOf_mem {rr : Nat → DR} : ∀ {n : Nat} {r : DR}, r ∈ recsOf rr n ↔ ∃ k, k < n ∧ r = rr k
  | 0, r => by simp [recsOf]
  | n + 1, r => by
    simp only [recsOf, List.mem_cons, recsOf_mem (n := n)]
    constructor
    · rintro (rfl | ⟨k, hk, rfl⟩)
      · exact ⟨n, by omega, rfl⟩
      · exact ⟨k, by omega, rfl⟩
    · rintro ⟨k, hk, rfl⟩
      by_cases e : k = n
      · subst e; exact .inl rfl
      · exact .inr ⟨k, by omega, rfl⟩
theorem recsOf_congr {r1 r2 : Nat → DR} : ∀ {n : Nat}, (∀ k, k < n → r1 k = r2 k) → recsOf r1 n = recsOf r2 n
  | 0, _ => rfl
  | n + 1, h => by simp only [recsOf]; rw [h n (by omega), recsOf_congr (fun k hk => h k (by omega))]

def unA (pm : Nat) (recs : List DR) : List DR := recs.filter fun r => !Nat.testBit pm r.i

structure Step (P : Program) (rec : Rc) (ops : Array Oper) (rr : Nat → DR) (j : Nat) (s s1 : St) (o : Oper) (v : AV) (h1 : AH) : Prop where
  op : ops[j]? = some o
  i : (rr j).i = j
  pm : predsA j (recsOf rr j) o.after.toList = some (rr j).pm
  dst : (rr j).dst = o.dst
  looks : (rr j).looks = looksA ops.toList o
  lo : (rr j).lo = s.h.nx
  hi : (rr j).hi = h1.nx
  apart : ∀ r ∈ unA (rr j).pm (recsOf rr j), apartT o.dst (looksA ops.toList o) r = true
  run : (wantA ops.toList s.tm o = some true ∧ viewRun P rec s.tm o s.h (unA (rr j).pm (recsOf rr j)) = some (v, h1, (rr j).wr, (rr j).full, (rr j).ld) ∧ noneW s.h.nx (rr j).wr (unA (rr j).pm (recsOf rr j)) = true) ∨
    (wantA ops.toList s.tm o = some false ∧ v = undefA ∧ h1 = s.h ∧ (rr j).wr = [] ∧ (rr j).full = false ∧ (rr j).ld = none)
  put : putA { s with h := h1 } o.dst v = some s1

theorem draw_trace (ops : Array Oper) : ∀ (rest : List Oper) (i : Nat) (recs : List DR) (s s' : St), drawA P rec ops.toList rest i recs s = some s' → rest = ops.toList.drop i → i ≤ ops.size → ∀ rr0, recs = recsOf rr0 i →
    ∃ (S : Nat → St) (rr : Nat → DR), (∀ j, j < i → rr j = rr0 j) ∧ S i = s ∧ S ops.size = s' ∧ ∀ j, i ≤ j → j < ops.size → ∃ o v h1, Step P rec ops rr j (S j) (S (j + 1)) o v h1
  | [], i, recs, s, s', h, hr, hi, rr0, _ => by
    simp only [drawA, Option.some.injEq] at h; subst h
    have : ops.size ≤ i := by have := congrArg List.length hr; simp at this; omega
    exact ⟨fun _ => s, rr0, fun _ _ => rfl, rfl, rfl, fun j h1 h2 => by omega⟩
  | o :: rest, i, recs, s, s', h, hr, hi, rr0, hrec => by
    have h1 : (ops.toList.drop i)[0]? = some o := by rw [← hr]; rfl
    rw [List.getElem?_drop, Nat.add_zero, Array.getElem?_toList] at h1
    have hlt := (Array.getElem?_eq_some_iff.1 h1).1
    have hrest : rest = ops.toList.drop (i + 1) := by rw [← List.drop_drop (i := 1), ← hr]; rfl
    rw [drawA_cons] at h
    simp only at h
    split at h
    · cases h
    · rename_i pm hpm
      cases hap : (recs.filter fun r => !Nat.testBit pm r.i).all (apartT o.dst (looksA ops.toList o)) with
      | false => rw [hap] at h; cases h
      | true =>
        rw [hap, cond_true] at h
        have main : ∀ (v : AV) (h1 : AH) (wr : List Nat) (full : Bool) (ld : Option Nat) (s1 : St), putA { s with h := h1 } o.dst v = some s1 →
            drawA P rec ops.toList rest (Nat.succ i) (⟨i, pm, o.dst, looksA ops.toList o, s.h.nx, h1.nx, wr, full, ld⟩ :: recs) s1 = some s' →
            ((wantA ops.toList s.tm o = some true ∧ viewRun P rec s.tm o s.h (unA pm recs) = some (v, h1, wr, full, ld) ∧ noneW s.h.nx wr (unA pm recs) = true) ∨
              (wantA ops.toList s.tm o = some false ∧ v = undefA ∧ h1 = s.h ∧ wr = [] ∧ full = false ∧ ld = none)) →
            ∃ (S : Nat → St) (rr : Nat → DR), (∀ j, j < i → rr j = rr0 j) ∧ S i = s ∧ S ops.size = s' ∧ ∀ j, i ≤ j → j < ops.size → ∃ o v h1, Step P rec ops rr j (S j) (S (j + 1)) o v h1 := by
          intro v hh wr full ld s1 hput hdr hrun
          obtain ⟨S, rr, q1, q2, q3, q4⟩ := draw_trace ops rest (i + 1) _ s1 s' hdr hrest hlt (fun j => if j = i then ⟨i, pm, o.dst, looksA ops.toList o, s.h.nx, hh.nx, wr, full, ld⟩ else rr0 j) (by
            simp only [recsOf, if_true]
            rw [hrec]
            congr 1
            exact recsOf_congr (fun k hk => (if_neg (show ¬ k = i by omega)).symm))
          have hri : rr i = ⟨i, pm, o.dst, looksA ops.toList o, s.h.nx, hh.nx, wr, full, ld⟩ := by rw [q1 i (by omega)]; simp
          have hrj : ∀ j, j < i → rr j = rr0 j := fun j hj => by rw [q1 j (by omega)]; simp only [if_neg (show ¬ j = i by omega)]
          have hro : recsOf rr i = recs := by rw [hrec]; exact recsOf_congr hrj
          refine ⟨fun j => if j = i then s else S j, rr, hrj, by simp, by simp only [if_neg (show ¬ ops.size = i by omega)]; exact q3, fun j hj1 hj2 => ?_⟩
          by_cases hji : j = i
          · subst hji
            simp only [if_true, if_neg (show ¬ j + 1 = j by omega), q2]
            refine ⟨o, v, hh, h1, by rw [hri], by rw [hro, hri]; exact hpm, by rw [hri], by rw [hri], by rw [hri], by rw [hri], ?_, ?_, hput⟩
            · rw [hri, hro]
              intro r hr2
              exact List.all_eq_true.1 hap r hr2
            · rw [hri, hro]; exact hrun
          · simp only [if_neg hji, if_neg (show ¬ j + 1 = i by omega)]
            exact q4 j (by omega) hj2
        split at h
        · rename_i hwt
          split at h
          · rename_i v hh wr full ld hvr
            cases hnw : noneW s.h.nx wr (recs.filter fun r => !Nat.testBit pm r.i) with
            | false => rw [hnw] at h; cases h
            | true =>
              rw [hnw, cond_true] at h
              split at h
              · rename_i s1 hput
                exact main v hh wr full ld s1 hput h (.inl ⟨hwt, hvr, hnw⟩)
              · cases h
          · cases h
        · rename_i hwt
          split at h
          · rename_i s1 hput
            exact main undefA s.h [] false none s1 (by simpa using hput) h (.inr ⟨hwt, rfl, rfl, rfl, rfl, rfl⟩)
          · cases h
        · cases h
end
end Go.Proofs.YtiikiphkhfmlcaaGreatDoor.Ex
