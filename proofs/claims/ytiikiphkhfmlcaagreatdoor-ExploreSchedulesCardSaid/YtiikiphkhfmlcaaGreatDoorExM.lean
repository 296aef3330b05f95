/- The abstract machine: rounds, operations with their calls, regions in the text's order. -/
import Derived.Test.YtiikiphkhfmlcaaGreatDoorExL
noncomputable section
namespace Go.Proofs.YtiikiphkhfmlcaaGreatDoor.Ex
open Go

section
variable {P : Program} {M : Mp}

theorem setPs_ok : ∀ {ps : List Tmp} {args : List AV} {tm tm' : Tr AV} {sz : Nat} {tmps : Array Value} {us : List Value}, setPs tm sz ps args = some tm' → TR M tm tmps → tmps.size = sz → AV.RL M args us →
    TR M tm' ((ps.zip us).foldl (fun t p => t.setIfInBounds p.1 p.2) tmps) ∧ ((ps.zip us).foldl (fun t p => t.setIfInBounds p.1 p.2) tmps).size = sz ∧ us.length = ps.length
  | [], [], tm, tm', sz, tmps, us, h, r, hs, ra => by
    simp only [setPs, Option.some.injEq] at h; subst h
    simp only [AV.RL] at ra; subst ra
    exact ⟨r, hs, rfl⟩
  | [], _ :: _, _, _, _, _, _, h, _, _, _ => by simp [setPs] at h
  | _ :: _, [], _, _, _, _, _, h, _, _, _ => by simp [setPs] at h
  | p :: ps, a :: args, tm, tm', sz, tmps, us, h, r, hs, ra => by
    simp only [setPs, nblt, Bool.cond_decide] at h
    split at h
    · rename_i hp
      split at h
      · rename_i t ht
        simp only [AV.RL] at ra
        obtain ⟨u, us', r1, r2, rfl⟩ := ra
        have r' := r.put (by rw [hs]; exact hp) ht r1
        obtain ⟨e1, e2, e3⟩ := setPs_ok h r' (by simpa using hs) r2
        exact ⟨by simpa using e1, by simpa using e2, by simp [e3]⟩
      · cases h
    · cases h

theorem rel_hide {h h1 : AH} {w : World} {l : Nat} (r : Rel M h w) (hh : ∀ x, h1.get x = if x = l then none else h.get x) (hn : h1.nx = h.nx) : Rel M h1 w := by
  have sub : ∀ x o, h1.get x = some o → h.get x = some o := fun x o e => by
    rw [hh] at e; split at e
    · cases e
    · exact e
  have subn : ∀ x, h1.get x ≠ none → h.get x ≠ none := fun x e => by
    rw [hh] at e; split at e
    · exact absurd rfl e
    · exact e
  exact ⟨fun id o e => r.obj id o (sub id o e), fun i j b κ κ' o h1 h2 h3 => r.inj i j b κ κ' o (sub i o h1) h2 (subn j h3), fun x e => by rw [hn]; exact r.wf x (subn x e), r.gw, fun x b κ o e => r.gf x b κ o (sub x o e), r.fz, fun i b κ o e => r.fo i b κ o (sub i o e)⟩
/-- A loop's block of which the heap says nothing. -/
theorem rel_off {h : AH} {w w' : World} {b : Nat} {L L' : Loop} (r : Rel M h w) (hb : w.heap[b]? = some (.loop L)) (u : Upd w w' b (.loop L')) (hn : ∀ id κ o, h.get id = some o → M id ≠ some (b, κ)) : Rel M h w' := by
  refine ⟨fun id o e => ?_, r.inj, r.wf, fun g c e => ?_, r.gf, fz_kept r (fun c hc hz => u.other c (fun ec => ?_)), r.fo⟩
  · rcases r.obj id o e with q | ⟨b', κ, ob, q1, q2, q3⟩
    · exact .inl q
    · exact .inr ⟨b', κ, ob, q1, by rw [u.other b' (fun eb => hn id κ o e (by rw [q1, eb]))]; exact q2, q3⟩
  · obtain ⟨vs, e', fr, q1, q2⟩ := r.gw g c e
    exact ⟨vs, e', fr, by rw [u.other g (fun eg => by rw [eg, hb] at q1; cases q1)]; exact q1, q2⟩
  · subst ec
    cases hz2 : M.z c with
    | none => exact hz hz2
    | some cs => obtain ⟨e', fr, q⟩ := r.fz c cs hz2; rw [hb] at q; cases q
theorem rel_show {h h1 : AH} {w : World} {l b κ : Nat} {o : AO} {L : Loop} (r : Rel M h w) (hb : w.heap[b]? = some (.loop L)) (hM : M l = some (b, κ)) (ho : ObR M κ o (.loop L)) (hro : o.ro = false) (hn : ∀ id κ o, h.get id = some o → M id ≠ some (b, κ)) (hl : l < h.nx)
    (hh : ∀ x, h1.get x = if x = l then some o else h.get x) (hx : h1.nx = h.nx) : Rel M h1 w := by
  refine ⟨fun id o' e => ?_, fun i j c κ1 κ2 oi h1' hr h2 e1 e2 => ?_, fun x e => ?_, r.gw, fun x c κ' o' e hr e2 => ?_, r.fz, fun x c κ' o' e hr e2 => ?_⟩
  · rw [hh] at e
    split at e
    · rename_i hi; subst hi; simp only [Option.some.injEq] at e; subst e
      exact .inr ⟨b, κ, _, hM, hb, ho⟩
    · exact r.obj id o' e
  · rw [hh] at h1' h2
    by_cases hi : i = l
    · subst hi
      rw [hM] at e1; simp only [Option.some.injEq, Prod.mk.injEq] at e1
      obtain ⟨rfl, rfl⟩ := e1
      by_cases hj : j = i
      · exact hj.symm
      · rw [if_neg hj] at h2
        cases hg : h.get j with
        | none => exact absurd hg h2
        | some oj => exact absurd e2 (hn j _ oj hg)
    · rw [if_neg hi] at h1'
      by_cases hj : j = l
      · subst hj
        rw [hM] at e2; simp only [Option.some.injEq, Prod.mk.injEq] at e2
        obtain ⟨rfl, rfl⟩ := e2
        exact absurd e1 (hn i _ oi h1')
      · rw [if_neg hj] at h2
        exact r.inj i j c κ1 κ2 oi h1' hr h2 e1 e2
  · rw [hx]
    rw [hh] at e
    split at e
    · rename_i hi; rw [hi]; exact hl
    · exact r.wf x e
  · rw [hh] at e
    split at e
    · rename_i hi; subst hi
      rw [hM] at e2; simp only [Option.some.injEq, Prod.mk.injEq] at e2
      obtain ⟨rfl, rfl⟩ := e2
      cases hg : GL b with
      | none => rfl
      | some cc => obtain ⟨vs, e', fr, q1, _⟩ := r.gw b cc hg; rw [hb] at q1; cases q1
    · exact r.gf x c κ' o' e hr e2
  · rw [hh] at e
    split at e
    · rename_i hi; subst hi
      rw [hM] at e2; simp only [Option.some.injEq, Prod.mk.injEq] at e2
      obtain ⟨rfl, rfl⟩ := e2
      cases hz : M.z b with
      | none => rfl
      | some cs => obtain ⟨e', fr, q⟩ := r.fz b cs hz; rw [hb] at q; cases q
    · exact r.fo x c κ' o' e hr e2

theorem hideRd_get {h h1 : AH} {l : Nat} (e : hideRd h l = some h1) : (∀ x, h1.get x = if x = l then none else h.get x) ∧ h1.nx = h.nx ∧ h1.bs = h.bs ∧ h1.wl = h.wl := by
  unfold hideRd at e
  split at e
  · rename_i h2 hp
    simp only [Option.some.injEq] at e; subst e
    exact ⟨fun x => AH.get_put hp x, (AH.put_nx hp).1, (AH.put_nx hp).2.1, rfl⟩
  · cases e
theorem endRd_get {h h1 : AH} {l : Nat} {q : Bool} {o : AO} (e : endRd h l q o = some h1) : h.get l = none ∧ (∀ x, h1.get x = if x = l then some o else h.get x) ∧ h1.nx = h.nx ∧ h1.bs = h.bs ∧ (∀ x, x ∈ h.wl → x ∈ h1.wl) ∧ (q = true → l < h.bs → l ∈ h1.wl) := by
  unfold endRd at e
  split at e
  · cases e
  · rename_i hg
    split at e
    · rename_i h2 hp
      simp only [Option.some.injEq] at e; subst e
      obtain ⟨n1, n2, n3⟩ := AH.put_nx hp
      refine ⟨hg, fun x => AH.get_put hp x, n1, n2, fun x hx => ?_, fun hq hlt => ?_⟩
      · show x ∈ (bif q then h2.wl else h.wl)
        cases q with
        | false => exact hx
        | true =>
          show x ∈ h2.wl
          rw [n3]
          cases Nat.blt l h.bs with
          | false => exact hx
          | true => cases memN l h.wl with
            | true => exact hx
            | false => exact List.mem_cons_of_mem _ hx
      · subst hq
        show l ∈ h2.wl
        rw [n3]
        have : Nat.blt l h.bs = true := by rw [nblt]; exact decide_eq_true hlt
        rw [this]
        show l ∈ (bif memN l h.wl then h.wl else l :: h.wl)
        cases hm : memN l h.wl with
        | true => exact memN_iff.1 hm
        | false => simp
    · cases e
theorem roundA_ok {rec : Rc} (hG : Good P rec) {l : Nat} {args : List AV} {h h' : AH} {v : AV} (hc : roundA rec l args h = some (v, h')) :
    (h.nx ≤ h'.nx ∧ Ab h h') ∧ ∀ (M : Mp) (us : List Value) (b κ : Nat) (w : World) (r : Option Nat) (R : Ending → World → Prop), M l = some (b, κ) → AV.RL M args us → Rel M h w → Fresh M h h' →
      (∀ M' u w', v.R M' u → Rel M' h' w' → Fr h h' M M' w w' → Ab h h' → R (.returned u) w') →
      ∃ fn tmps asg bo, (Instr.yield b us.toArray).run P w = .ok (.round b fn tmps asg bo) w ∧ RoundIn (FW r) 0 P b fn tmps asg bo w R := by
  unfold roundA at hc
  split at hc
  · rename_i tm0 sz ps asg bo D hg
    split at hc
    · rename_i tm' hps
      split at hc
      · rename_i h1 hhide
        obtain ⟨hh1, hnx1, hbs1, hwl1⟩ := hideRd_get hhide
        split at hc
        · rename_i s hra
          obtain ⟨⟨g1, ga⟩, g2, g3, g4⟩ := hG.code _ _ _ _ hra
          simp only at g1 g2 g3
          split at hc
          · rename_i hdf
            have main : ∀ (x : AX) (s2 : St) (jump : Option Code) (bv q : Bool) (st : LoopState), rec.code bo ⟨s.tm, s.sz, [], some l, s.h⟩ = some (x, s2) →
                  (match endRd s2.h l q (.loop st jump tm0 sz ps asg bo D) with | some h3 => some (AV.b bv, h3) | none => none) = some (v, h') → bv = jump.isNone → st = (if jump.isNone then .ready else .done) → q = jump.isSome →
                  (∀ (R : Ending → World → Prop) (b : Nat) (a : Act) (w : World), (∃ v w', (Instr.endRound b jump).run P w = .ok v w' ∧ R (.returned v) w') → roundPost P b R (exitOf x) a w) →
                  (h.nx ≤ h'.nx ∧ Ab h h') ∧ ∀ (M : Mp) (us : List Value) (b κ : Nat) (w : World) (r : Option Nat) (R : Ending → World → Prop), M l = some (b, κ) → AV.RL M args us → Rel M h w → Fresh M h h' →
                    (∀ M' u w', v.R M' u → Rel M' h' w' → Fr h h' M M' w w' → Ab h h' → R (.returned u) w') →
                    ∃ fn tmps asg bo, (Instr.yield b us.toArray).run P w = .ok (.round b fn tmps asg bo) w ∧ RoundIn (FW r) 0 P b fn tmps asg bo w R := by
              intro x s2 jump bv q st hrb hend hbv hst hq hpost
              obtain ⟨⟨k1, ka⟩, k2, k3, k4⟩ := hG.code _ _ _ _ hrb
              simp only at k1 k2 k3
              split at hend
              · rename_i h3 he
                simp only [Option.some.injEq, Prod.mk.injEq] at hend
                obtain ⟨rfl, rfl⟩ := hend
                obtain ⟨e0, hh3, hnx3, hbs3, hwl3, hlg3⟩ := endRd_get he
                have gaka : Ab h1 s2.h := ga.trans ka
                have hab : Ab h h3 := by
                  refine ⟨by omega, by rw [hbs3, gaka.bs, hbs1], fun y hy => hwl3 y (gaka.wl y (by rw [hwl1]; exact hy)), fun y y1 y2 y3 => ?_, fun y hy => ?_⟩
                  · rw [hh3]
                    split
                    · rename_i hy; subst hy
                      cases hj : jump with
                      | none => subst hj; rw [hg]; simp at hst; subst hst; rfl
                      | some c =>
                        refine absurd (hlg3 (by rw [hq, hj]; rfl) (by rw [gaka.bs, hbs1]; exact y1)) y3
                    · rename_i hy
                      rw [gaka.log y (by rw [hbs1]; exact y1) (by omega) (fun q => y3 (hwl3 y q)), hh1, if_neg hy]
                  · rw [hh3] at hy
                    split at hy
                    · rename_i hyl; exact .inl (by rw [hyl, hg]; simp)
                    · rcases gaka.dom y hy with q | q
                      · rw [hh1] at q
                        split at q
                        · exact absurd rfl q
                        · exact .inl q
                      · exact .inr ⟨by omega, by omega⟩
                refine ⟨⟨by omega, hab⟩, fun M us b κ w r R hM ra rr fr k => ?_⟩
                obtain ⟨ob, hb, fn, tmps, bD, cD, hD, rt, hsz, rfl⟩ := Ob_of rr hg hM
                obtain ⟨p1, p2, p3⟩ := setPs_ok hps rt hsz ra
                have hz : (ps.zip us.toArray).foldl (fun t (p : Tmp × Value) => t.setIfInBounds p.1 p.2) tmps = (ps.toList.zip us).foldl (fun t p => t.setIfInBounds p.1 p.2) tmps := by
                  rw [← Array.foldl_toList, Array.toList_zip]
                have hbl := heap_lt hb
                -- nothing of the heap is the loop's block
                have nb0 : ∀ id κ' o, h1.get id = some o → M id ≠ some (b, κ') := fun id κ' o e1 e2 => by
                  rw [hh1] at e1
                  split at e1
                  · cases e1
                  · rename_i hne
                    exact hne (rr.inj l id b κ κ' _ hg rfl (by rw [e1]; simp) hM e2).symm
                have rh1 := rel_hide rr hh1 hnx1
                refine ⟨fn, _, asg, bo, run_yield (P := P) (args := us.toArray) hb (by simpa using p3), ?_⟩
                refine roundIn_of_wpIn trivial ?_
                show Code.wpIn (FW (some b)) 0 P asg _ _ w
                have frA : Fresh M h1 s.h := fun id e1 e2 => fr id (by omega) (by omega)
                refine g4 M _ w (some b) _ ⟨?_, ?_, rfl, rh1⟩ ⟨b, κ, hM, rfl⟩ frA ?_
                · simp only; rw [show ((ps.zip us.toArray).foldl (fun tmps x => match x with | (t, a) => tmps.setIfInBounds t a) tmps) = (ps.zip us.toArray).foldl (fun t (p : Tmp × Value) => t.setIfInBounds p.1 p.2) tmps from rfl, hz]; exact p1
                · simp only; rw [show ((ps.zip us.toArray).foldl (fun tmps x => match x with | (t, a) => tmps.setIfInBounds t a) tmps) = (ps.zip us.toArray).foldl (fun t (p : Tmp × Value) => t.setIfInBounds p.1 p.2) tmps from rfl, hz]; exact p2
                · intro M1 a1 w1 st1 f1 ab1
                  have hM1 := f1.ext _ _ hM
                  have hb1 : w1.heap[b]? = some (.loop { state := .ready, pending := none, fn := fn, tmps := tmps, params := ps, assign := asg, body := bo, defers := bD }) := by
                    rw [f1.keep b hbl (fun id κ' o e1 _ => nb0 id κ' o e1)]; exact hb
                  have nb1 : ∀ id κ' o, s.h.get id = some o → M1 id ≠ some (b, κ') := fun id κ' o e1 e2 => by
                    rcases f1.range id b κ' o e1 e2 with q | ⟨i, κ2, o2, q1, q2, _⟩
                    · omega
                    · exact nb0 i κ2 o2 q1 q2
                  refine ⟨_, run_beginRound hb1 rfl, ?_⟩
                  have u1 : Upd w1 (w1.putObj b (.loop { state := .busy, pending := none, fn := fn, tmps := tmps, params := ps, assign := asg, body := bo, defers := bD })) b _ := upd_setObj (heap_lt hb1)
                  have rh2 := rel_off st1.h hb1 u1 nb1
                  have hdef : a1.defers = [] := by have := st1.df; rw [hdf] at this; exact this
                  refine k4 M1 a1 _ (some b) _ ⟨st1.tm, st1.sz, hdef, rh2⟩ ⟨b, κ, hM1, rfl⟩ ?_ ?_
                  · have fr1 : Fresh M1 s.h h3 := fun id (e1 : s.h.nx ≤ id) (e2 : id < h3.nx) => by
                      have : M1 id = M id := Classical.byContradiction fun hne => by have := f1.only id hne; omega
                      rw [this]; exact fr id (by omega) e2
                    exact fun id (e1 : s.h.nx ≤ id) (e2 : id < s2.h.nx) => fr1 id e1 (by omega)
                  · intro M2 a2 w2 st2 f2 ab2
                    have hM2 := f2.ext _ _ hM1
                    have hb2 : w2.heap[b]? = some (.loop { state := .busy, pending := none, fn := fn, tmps := tmps, params := ps, assign := asg, body := bo, defers := bD }) := by
                      rw [f2.keep b (by rw [u1.size]; exact heap_lt hb1) (fun id κ' o e1 _ => nb1 id κ' o e1)]; exact u1.at_
                    have nb2 : ∀ id κ' o, s2.h.get id = some o → M2 id ≠ some (b, κ') := fun id κ' o e1 e2 => by
                      rcases f2.range id b κ' o e1 e2 with q | ⟨i, κ2, o2, q1, q2, _⟩
                      · exact absurd (Nat.lt_of_lt_of_le (heap_lt hb1) (Nat.le_trans (Nat.le_of_eq u1.size.symm) q)) (Nat.lt_irrefl _)
                      · exact nb1 i κ2 o2 q1 q2
                    have u2 : Upd w2 (w2.putObj b (.loop { state := if jump.isNone then .ready else .done, pending := jump, fn := fn, tmps := tmps, params := ps, assign := asg, body := bo, defers := bD })) b _ := upd_setObj (heap_lt hb2)
                    have rh3 := rel_off st2.h hb2 u2 nb2
                    have hext := f1.ext.trans f2.ext
                    have rh4 : Rel M2 h3 _ := rel_show rh3 u2.at_ hM2 (o := .loop st jump tm0 sz ps asg bo D) ⟨fn, tmps, bD, cD, hext _ _ hD, rt.mono hext, hsz, by rw [hst]⟩ rfl nb2 (by have := rr.wf l (by rw [hg]; simp); omega) hh3 hnx3
                    refine hpost R b a2 w2 ⟨_, _, run_endRound jump hb2, k M2 _ _ (by simp only [AV.R, hbv]) rh4 ?_ hab⟩
                    have f1s := f1.size
                    have f2s : w1.heap.size ≤ w2.heap.size := Nat.le_trans (Nat.le_of_eq u1.size.symm) f2.size
                    refine ⟨u2.os.trans (f2.os.trans (u1.os.trans f1.os)), u2.tape.trans (f2.tape.trans (u1.tape.trans f1.tape)), u2.output.trans (f2.output.trans (u1.output.trans f1.output)), Nat.le_trans f1s (Nat.le_trans f2s (Nat.le_of_eq u2.size.symm)), hext, fun id hne => ?_, fun y hy hn => ?_, fun id c κ' o' e1 e2 => ?_, fun c cs hz => ?_⟩
                    · by_cases e : M1 id = M id
                      · have : s.h.nx ≤ id ∧ id < s2.h.nx := f2.only id (by rw [e]; exact hne)
                        omega
                      · have : h1.nx ≤ id ∧ id < s.h.nx := f1.only id e
                        omega
                    · have hyb : y ≠ b := fun e => hn l κ _ hg rfl (by rw [e]; exact hM)
                      have hn1 : ∀ id κ o, h1.get id = some o → o.ro = false → M id ≠ some (y, κ) := fun id κ' o e1 e2 => by
                        rw [hh1] at e1
                        split at e1
                        · cases e1
                        · exact hn id κ' o e1 e2
                      have hn2 : ∀ id κ o, s.h.get id = some o → o.ro = false → M1 id ≠ some (y, κ) := fun id κ' o e1 e2 e3 => by
                        rcases f1.range id y κ' o e1 e3 with q | ⟨i, κ2, o2, q1, q2, q3⟩
                        · omega
                        · exact hn1 i κ2 o2 q1 (q3 e2) q2
                      rw [u2.other y hyb, f2.keep y (Nat.lt_of_lt_of_le (Nat.lt_of_lt_of_le hy f1s) (Nat.le_of_eq u1.size.symm)) hn2, u1.other y hyb, f1.keep y hy hn1]
                    · rw [hh3] at e1
                      split at e1
                      · rename_i hi; subst hi
                        rw [hM2] at e2; simp only [Option.some.injEq, Prod.mk.injEq] at e2
                        obtain ⟨rfl, rfl⟩ := e2
                        exact .inr ⟨id, κ, _, hg, hM, fun _ => rfl⟩
                      · rcases f2.range id c κ' o' e1 e2 with q | ⟨i, κ2, o2, q1, q2, q3⟩
                        · exact .inl (Nat.le_trans f1s (Nat.le_trans (Nat.le_of_eq u1.size.symm) q))
                        · rcases f1.range i c κ2 o2 q1 q2 with q | ⟨j, κ3, o3, x1, x2, x3⟩
                          · exact .inl q
                          · refine .inr ⟨j, κ3, o3, ?_, x2, fun e => x3 (q3 e)⟩
                            rw [hh1] at x1
                            split at x1
                            · cases x1
                            · exact x1
                    · rcases f2.zx c cs hz with q | q | ⟨i, κ2, o2, q1, q2, q3⟩
                      · rcases f1.zx c cs q with x | x | ⟨j, κ3, o3, x1, x2, x3⟩
                        · exact .inl x
                        · exact .inr (.inl x)
                        · refine .inr (.inr ⟨j, κ3, o3, ?_, x2, x3⟩)
                          rw [hh1] at x1
                          split at x1
                          · cases x1
                          · exact x1
                      · exact .inr (.inl (Nat.le_trans f1s (Nat.le_trans (Nat.le_of_eq u1.size.symm) q)))
                      · rcases f1.range i c κ2 o2 q1 q3 with x | ⟨j, κ3, o3, x1, x2, x3⟩
                        · exact .inr (.inl x)
                        · refine .inr (.inr ⟨j, κ3, o3, ?_, x3 q2, x2⟩)
                          rw [hh1] at x1
                          split at x1
                          · cases x1
                          · exact x1
              · cases hend
            split at hc
            · rename_i s2 hrb; exact main _ s2 none true false .ready hrb hc rfl rfl rfl (fun R b a w e => e)
            · rename_i s2 hrb; exact main _ s2 (some .ret) false true .done hrb hc rfl rfl rfl (fun R b a w e => e)
            · rename_i id s2 hrb; exact main _ s2 (some (.exit id)) false true .done hrb hc rfl rfl rfl (fun R b a w e => e)
            · cases hc
          · cases hc
        · cases hc
      · cases hc
    · cases hc
  · cases hc

/-- One operation, its call and all. -/
theorem opF_ok {rec : Rc} (hG : Good P rec) {tm : Tr AV} {o : Oper} {h h' : AH} {v : AV} (hc : opF P rec tm o h = some (v, h')) :
    (h.nx ≤ h'.nx ∧ Ab h h') ∧ ∀ (M : Mp) (a : Act) (w : World) (r : Option Nat) (K : Act → World → Prop) (Q : Exit → Act → World → Prop), (∀ x ∈ o.op.operands.toList, (evT tm x).R M (a.eval x)) → Rel M h w → Fresh M h h' →
      (∀ M' u w', v.R M' u → Rel M' h' w' → Fr h h' M M' w w' → Ab h h' → K (a.put o.dst u) w') → o.wpIn (FW r) 0 P a w K Q := by
  rw [opF_eq] at hc
  split at hc
  · rename_i v1 h1 ho
    simp only [nble, Bool.cond_decide] at hc
    split at hc
    · rename_i hle
      simp only [Option.some.injEq, Prod.mk.injEq] at hc
      obtain ⟨rfl, rfl⟩ := hc
      refine ⟨⟨hle, opS_ab ho⟩, fun M a w r K Q hx rr fr k => ⟨fun _ _ => trivial, ?_⟩⟩
      obtain ⟨hd, ok⟩ := opS_ok ho hx rr
      rw [Oper.semAt_eq _ _ _ hd]
      obtain ⟨M', u, w', nx, e1, e2, e3, e4, e5, e6⟩ := ok fr
      rw [e1]
      rcases e2 with rfl | ⟨rfl, rfl⟩
      · exact k M' u w' e3 e4 e5 e6
      · exact k M' undef w' e3 e4 e5 e6
    · cases hc
  · rename_i f args h1 ho
    split at hc
    · rename_i g hsm
      split at hc
      · rename_i v1 hv
        simp only [Option.some.injEq, Prod.mk.injEq] at hc
        obtain ⟨rfl, rfl⟩ := hc
        refine ⟨⟨Nat.le_refl _, Ab.refl _⟩, fun M a w r K Q hx rr _ k => ⟨fun _ _ => trivial, ?_⟩⟩
        obtain ⟨hd, _, us, ra, e1⟩ := opS_ok ho hx rr
        obtain ⟨u, e2, e3⟩ := (hG.sm f).2.1 g hsm args v1 M us w hv ra
        rw [Oper.semAt_eq _ _ _ hd, e1, e2]
        exact k M u w e3 rr (Fr.same _ M w) (Ab.refl _)
      · cases hc
    have c1 := callA_ok hG hc
    refine ⟨c1.1, fun M a w r K Q hx rr fr k => ⟨fun _ _ => trivial, ?_⟩⟩
    obtain ⟨hd, _, us, ra, e1⟩ := opS_ok ho hx rr
    rw [Oper.semAt_eq _ _ _ hd, e1]
    obtain ⟨c2, c3⟩ := c1.2 M us w r (fun | .returned u, w' => K (a.put o.dst u) w' | .panicked c, w' => Q (.panic c) a w' | .outgrown, _ => LetsOut Q) ra rr fr k
    rw [c2]
    exact ⟨fun e => by simp [FW] at e, c3⟩
  · rename_i l args h1 ho
    have c1 := roundA_ok hG hc
    refine ⟨c1.1, fun M a w r K Q hx rr fr k => ⟨fun _ _ => trivial, ?_⟩⟩
    obtain ⟨hd, _, us, b, κ, hM, ra, e1⟩ := opS_ok ho hx rr
    rw [Oper.semAt_eq _ _ _ hd, e1]
    obtain ⟨fn, tmps, asg, bo, c2, c3⟩ := c1.2 M us b κ w r (fun | .returned u, w' => K (a.put o.dst u) w' | .panicked c, w' => Q (.panic c) a w' | .outgrown, _ => LetsOut Q) hM ra rr fr k
    rw [c2]
    exact ⟨fun e => by simp [FW] at e, c3⟩
  · cases hc

/-- Is it wanted? -/
theorem wantA_ok {ops : Array Oper} {tm : Tr AV} {a : Act} {o : Oper} {b : Bool} (h : wantA ops.toList tm o = some b) (r : ∀ g d, o.guard = some g → (ops[g.1]?).bind (·.dst) = some d → (evT tm (.tmp d)).R M (a.tmps.getD d undef)) :
    Region.wanted o (yielded ops a.tmps) = b := by
  rw [wantA_eq] at h
  unfold Region.wanted
  cases hg : o.guard with
  | none => rw [hg] at h; simpa using h
  | some g =>
    obtain ⟨j, want⟩ := g
    rw [hg] at h
    simp only at h ⊢
    rw [Array.getElem?_toList] at h
    unfold yielded
    cases hj : ops[j]? with
    | none => rw [hj] at h; cases h
    | some oj =>
      rw [hj] at h
      simp only [Option.bind_some] at h ⊢
      cases hd : oj.dst with
      | none => rw [hd] at h; cases h
      | some d =>
        rw [hd] at h
        simp only [Option.bind_some] at h ⊢
        have rv := r (j, want) d hg (by simp [hj, hd])
        have hget : a.tmps.getD d undef = (a.tmps[d]?).getD undef := by simp [Array.getD_eq_getD_getElem?]
        rw [hget] at rv
        split at h
        · rename_i x hx
          rw [hx] at rv
          simp only [AV.R] at rv
          simp only [Option.some.injEq] at h; subst h
          cases ht : a.tmps[d]? with
          | none => rw [ht] at rv; simp [undef] at rv
          | some u => rw [ht] at rv; simp at rv; subst rv; simp
        · rename_i hx
          rw [hx] at rv
          simp only [AV.R, AV.RL] at rv
          obtain ⟨vs, rfl, rv⟩ := rv
          simp only [Option.some.injEq] at h; subst h
          cases ht : a.tmps[d]? with
          | none => simp
          | some u => rw [ht] at rv; simp at rv; subst rv; simp
        · cases h

theorem opsA_ok {rec : Rc} (hG : Good P rec) (ops : Array Oper) : ∀ (rest : List Oper) (s s' : St), opsA P rec ops.toList rest s = some s' → (s.h.nx ≤ s'.h.nx ∧ Ab s.h s'.h) ∧ s'.sz = s.sz ∧ s'.rd = s.rd ∧
    ∀ (k : Nat), rest = ops.toList.drop k → ∀ (M : Mp) (a : Act) (w : World) (r : Option Nat) (Q : Exit → Act → World → Prop), StR M s a w → Fresh M s.h s'.h →
      (∀ M' a' w', StR M' s' a' w' → Fr s.h s'.h M M' w w' → Ab s.h s'.h → Q .normal a' w') → wpOpsIn (FW r) 0 P ops Q (List.range' k (ops.size - k)) a w
  | [], s, s', h => by
    simp only [opsA_nil, Option.some.injEq] at h; subst h
    refine ⟨⟨Nat.le_refl _, Ab.refl _⟩, rfl, rfl, fun k hk M a w r Q st fr q => ?_⟩
    have : ops.size - k = 0 := by
      have := congrArg List.length hk
      simp at this; omega
    rw [this]
    exact q M a w st (Fr.same _ _ _) (Ab.refl _)
  | o :: rest, s, s', h => by
    rw [opsA_cons] at h
    have hlook : ∀ k, o :: rest = ops.toList.drop k → ops[k]? = some o ∧ rest = ops.toList.drop (k + 1) ∧ ops.size - k = (ops.size - (k + 1)) + 1 := fun k hk => by
      have h1 : (ops.toList.drop k)[0]? = some o := by rw [← hk]; rfl
      rw [List.getElem?_drop, Nat.add_zero, Array.getElem?_toList] at h1
      refine ⟨h1, ?_, ?_⟩
      · rw [← List.drop_drop (i := 1), ← hk]; rfl
      · have := (Array.getElem?_eq_some_iff.1 h1).1; omega
    split at h
    · rename_i hw
      split at h
      · rename_i v h1 ho
        split at h
        · rename_i s1 hp
          obtain ⟨⟨o1, oa⟩, o2⟩ := opF_ok hG ho
          obtain ⟨p1, p2, p3, p4⟩ := putA_same hp
          obtain ⟨⟨i1, ia⟩, i2, i3, i4⟩ := opsA_ok hG ops rest s1 s' h
          simp only at p1 p2 p3
          refine ⟨⟨by rw [← p1] at o1; omega, by rw [p1] at ia; exact oa.trans ia⟩, by rw [i2, p2], by rw [i3, p3], fun k hk M a w r Q st fr q => ?_⟩
          obtain ⟨e1, e2, e3⟩ := hlook k hk
          rw [e3, List.range'_succ]
          simp only [wpOpsIn, e1]
          have hwd := wantA_ok (M := M) (a := a) hw (fun g d _ _ => by rw [evT_tmp]; exact st.tm d)
          rw [hwd]
          simp only [if_true]
          refine o2 M a w r _ Q (fun x _ => ev_ok st.tm x) st.h (fun id q1 q2 => fr id q1 (by rw [← p1] at q2; omega)) (fun M' u w' rv rh f ab => ?_)
          refine i4 (k + 1) e2 M' _ w' r Q (putA_ok hp ⟨st.tm.mono f.ext, st.sz, st.df.mono f.ext, rh⟩ rv) ?_ (fun M2 a2 w2 st2 f2 ab2 => ?_)
          · have := Fresh.right fr o1 f
            rw [p1]; exact this
          · rw [p1] at f2 ab2
            exact q M2 a2 w2 st2 (f.trans o1 (by rw [p1] at i1; exact i1) f2) (ab.trans ab2)
        · cases h
      · cases h
    · rename_i hw
      split at h
      · rename_i s1 hp
        obtain ⟨p1, p2, p3, p4⟩ := putA_same hp
        obtain ⟨⟨i1, ia⟩, i2, i3, i4⟩ := opsA_ok hG ops rest s1 s' h
        refine ⟨⟨by rw [← p1]; exact i1, by rw [p1] at ia; exact ia⟩, by rw [i2, p2], by rw [i3, p3], fun k hk M a w r Q st fr q => ?_⟩
        obtain ⟨e1, e2, e3⟩ := hlook k hk
        rw [e3, List.range'_succ]
        simp only [wpOpsIn, e1]
        have hwd := wantA_ok (M := M) (a := a) hw (fun g d _ _ => by rw [evT_tmp]; exact st.tm d)
        rw [hwd]
        simp only [Bool.false_eq_true, if_false]
        refine ⟨fun _ _ => trivial, i4 (k + 1) e2 M _ w r Q (putA_ok hp st (by simp [undefA, AV.R, AV.RL, undef])) (by rw [p1]; exact fr) (fun M2 a2 w2 st2 f2 ab2 => ?_)⟩
        rw [p1] at f2 ab2
        exact q M2 a2 w2 st2 f2 ab2
      · cases h
    · cases h
end
end Go.Proofs.YtiikiphkhfmlcaaGreatDoor.Ex
