/- The abstract machine: rounds, operations with their calls, regions in the text's order. -/
import Derived.Test.YtlfehgagnelbhaaGreatDoorExL
namespace Go.Proofs.YtlfehgagnelbhaaGreatDoor.Ex
open Go

section
variable {P : Program} {M : Mp}

theorem setPs_ok : ∀ {ps : List Tmp} {args : List AV} {tm tm' : Tr AV} {sz : Nat} {tmps : Array Value} {us : List Value}, setPs tm sz ps args = some tm' → TR M tm tmps → tmps.size = sz → AV.RL M args us →
    TR M tm' ((ps.zip us).foldl (fun t p => t.setIfInBounds p.1 p.2) tmps) ∧ ((ps.zip us).foldl (fun t p => t.setIfInBounds p.1 p.2) tmps).size = sz ∧ us.length = ps.length
  | [], [], tm, tm', sz, tmps, us, h, r, hs, ra => by
    simp only [setPs, Option.some.injEq] at h; subst h
    simp only [AV.RL] at ra; subst ra
    exact ⟨r, hs, rfl⟩
  | [], _ :: _, _, _, _, _, _, h, _, _, _ => by simp [setPs] at h
  | _ :: _, [], _, _, _, _, _, h, _, _, _ => by simp [setPs] at h
  | p :: ps, a :: args, tm, tm', sz, tmps, us, h, r, hs, ra => by
    simp only [setPs, nblt, Bool.cond_decide] at h
    split at h
    · rename_i hp
      split at h
      · rename_i t ht
        simp only [AV.RL] at ra
        obtain ⟨u, us', r1, r2, rfl⟩ := ra
        have r' := r.put (by rw [hs]; exact hp) ht r1
        obtain ⟨e1, e2, e3⟩ := setPs_ok h r' (by simpa using hs) r2
        exact ⟨by simpa using e1, by simpa using e2, by simp [e3]⟩
      · cases h
    · cases h

theorem endRd_ok {h h' : AH} {w : World} {l b κ : Nat} {jump : Option Code} (he : endRd h l jump = some h') (r : Rel M h w) (hM : M l = some (b, κ)) :
    ∃ w', (Instr.endRound b jump).run P w = .ok (.bool jump.isNone) w' ∧ Rel M h' w' ∧ Fr h h' M M w w' ∧ Ab h h' := by
  unfold endRd at he
  split at he
  · rename_i st pe tm sz ps asg bo D hg
    obtain ⟨ob, hb, fn, tmps, bD, cD, hD, rt, hsz, rfl⟩ := Ob_of r hg hM
    exact ⟨_, run_endRound jump hb, put_ok r hg he hM (upd_setObj (heap_lt hb)) ⟨fn, tmps, bD, cD, hD, rt, hsz, rfl⟩⟩
  · cases he
theorem endRd_nx {h h' : AH} {l : Nat} {jump : Option Code} (he : endRd h l jump = some h') : h'.nx = h.nx := by
  unfold endRd at he
  split at he
  · exact (AH.put_nx he).1
  · cases he

theorem endRd_ab {h h' : AH} {l : Nat} {jump : Option Code} (he : endRd h l jump = some h') : Ab h h' := by
  unfold endRd at he
  split at he
  · rename_i hg; exact put_ab hg he
  · cases he
theorem roundA_ok {rec : Rc} (hG : Good P rec) {l : Nat} {args : List AV} {h h' : AH} {v : AV} (hc : roundA rec l args h = some (v, h')) :
    (h.nx ≤ h'.nx ∧ Ab h h') ∧ ∀ (M : Mp) (us : List Value) (b κ : Nat) (w : World) (r : Option Nat) (R : Ending → World → Prop), M l = some (b, κ) → AV.RL M args us → Rel M h w → Fresh M h h' →
      (∀ M' u w', v.R M' u → Rel M' h' w' → Fr h h' M M' w w' → Ab h h' → R (.returned u) w') →
      ∃ fn tmps asg bo, (Instr.yield b us.toArray).run P w = .ok (.round b fn tmps asg bo) w ∧ RoundIn (FW r) 0 P b fn tmps asg bo w R := by
  unfold roundA at hc
  split at hc
  · rename_i st pe tm sz ps asg bo D hg
    split at hc
    · rename_i tm' hps
      split at hc
      · rename_i s hra
        obtain ⟨⟨g1, ga⟩, g2, g3, g4⟩ := hG.code _ _ _ _ hra
        simp only at g1 g2 g3
        split at hc
        · rename_i pe1 tm1 sz1 ps1 asg1 bo1 D1 hg1
          split at hc
          · rename_i hdf
            split at hc
            · rename_i h2 hp2
              have hnx2 := (AH.put_nx hp2).1
              have main : ∀ (x : AX) (s2 : St) (jump : Option Code) (bv : Bool), rec.code bo ⟨s.tm, s.sz, [], some l, h2⟩ = some (x, s2) →
                  (match endRd s2.h l jump with | some h3 => some (AV.b bv, h3) | none => none) = some (v, h') → bv = jump.isNone →
                  (∀ (R : Ending → World → Prop) (b : Nat) (a : Act) (w : World), (∃ v w', (Instr.endRound b jump).run P w = .ok v w' ∧ R (.returned v) w') → roundPost P b R (exitOf x) a w) →
                  (h.nx ≤ h'.nx ∧ Ab h h') ∧ ∀ (M : Mp) (us : List Value) (b κ : Nat) (w : World) (r : Option Nat) (R : Ending → World → Prop), M l = some (b, κ) → AV.RL M args us → Rel M h w → Fresh M h h' →
                    (∀ M' u w', v.R M' u → Rel M' h' w' → Fr h h' M M' w w' → Ab h h' → R (.returned u) w') →
                    ∃ fn tmps asg bo, (Instr.yield b us.toArray).run P w = .ok (.round b fn tmps asg bo) w ∧ RoundIn (FW r) 0 P b fn tmps asg bo w R := by
                intro x s2 jump bv hrb hend hbv hpost
                obtain ⟨⟨k1, ka⟩, k2, k3, k4⟩ := hG.code _ _ _ _ hrb
                simp only at k1 k2 k3
                split at hend
                · rename_i h3 he
                  simp only [Option.some.injEq, Prod.mk.injEq] at hend
                  obtain ⟨rfl, rfl⟩ := hend
                  have hnx3 := endRd_nx he
                  refine ⟨⟨by omega, ((ga.trans (put_ab hg1 hp2)).trans ka).trans (endRd_ab he)⟩, fun M us b κ w r R hM ra rr fr k => ?_⟩
                  obtain ⟨ob, hb, fn, tmps, bD, cD, hD, rt, hsz, rfl⟩ := Ob_of rr hg hM
                  obtain ⟨p1, p2, p3⟩ := setPs_ok hps rt hsz ra
                  have hz : (ps.zip us.toArray).foldl (fun t (p : Tmp × Value) => t.setIfInBounds p.1 p.2) tmps = (ps.toList.zip us).foldl (fun t p => t.setIfInBounds p.1 p.2) tmps := by
                    rw [← Array.foldl_toList, Array.toList_zip]
                  refine ⟨fn, _, asg, bo, run_yield (P := P) (args := us.toArray) hb (by simpa using p3), ?_⟩
                  refine roundIn_of_wpIn trivial ?_
                  show Code.wpIn (FW (some b)) 0 P asg _ _ w
                  refine g4 M _ w (some b) _ ⟨?_, ?_, rfl, rr⟩ ⟨b, κ, hM, rfl⟩ (fun id e1 e2 => fr id e1 (by omega)) ?_
                  · simp only; rw [show ((ps.zip us.toArray).foldl (fun tmps x => match x with | (t, a) => tmps.setIfInBounds t a) tmps) = (ps.zip us.toArray).foldl (fun t (p : Tmp × Value) => t.setIfInBounds p.1 p.2) tmps from rfl, hz]; exact p1
                  · simp only; rw [show ((ps.zip us.toArray).foldl (fun tmps x => match x with | (t, a) => tmps.setIfInBounds t a) tmps) = (ps.zip us.toArray).foldl (fun t (p : Tmp × Value) => t.setIfInBounds p.1 p.2) tmps from rfl, hz]; exact p2
                  · intro M1 a1 w1 st1 f1 ab1
                    have hM1 := f1.ext _ _ hM
                    obtain ⟨ob1, hb1, fn1, tmps1, bD1, cD1, hD1, rt1, hsz1, rfl⟩ := Ob_of st1.h hg1 hM1
                    refine ⟨_, run_beginRound hb1 rfl, ?_⟩
                    obtain ⟨q1, q2, q3⟩ := put_ok (w' := w1.putObj b (.loop { state := .busy, pending := pe1, fn := fn1, tmps := tmps1, params := ps1, assign := asg1, body := bo1, defers := bD1 })) st1.h hg1 hp2 hM1 (upd_setObj (heap_lt hb1)) ⟨fn1, tmps1, bD1, cD1, hD1, rt1, hsz1, rfl⟩
                    have hdef : a1.defers = [] := by have := st1.df; rw [hdf] at this; exact this
                    refine k4 M1 a1 _ (some b) _ ⟨st1.tm, st1.sz, hdef, q1⟩ ⟨b, κ, hM1, rfl⟩ ?_ ?_
                    · have fr1 : Fresh M1 s.h h3 := Fresh.right fr g1 f1
                      exact fun id (e1 : h2.nx ≤ id) (e2 : id < s2.h.nx) => fr1 id (by omega) (by omega)
                    · intro M2 a2 w2 st2 f2 ab2
                      have hM2 := f2.ext _ _ hM1
                      obtain ⟨w3, e1, e2, e3, e4⟩ := endRd_ok (P := P) he st2.h hM2
                      refine hpost R b a2 w2 ⟨_, w3, e1, k M2 _ w3 (by simp only [AV.R, hbv]) e2 ?_ ?_⟩
                      · have x1 := f1.trans g1 (by omega) q2
                        have x2 := x1.trans (show h.nx ≤ h2.nx by omega) k1 f2
                        exact x2.trans (show h.nx ≤ s2.h.nx by omega) (by omega) e3
                      · exact ((ab1.trans q3).trans ab2).trans e4
                · cases hend
              split at hc
              · rename_i s2 hrb; exact main _ s2 none true hrb hc rfl (fun R b a w e => e)
              · rename_i s2 hrb; exact main _ s2 (some .ret) false hrb hc rfl (fun R b a w e => e)
              · rename_i id s2 hrb; exact main _ s2 (some (.exit id)) false hrb hc rfl (fun R b a w e => e)
              · cases hc
            · cases hc
          · cases hc
        · cases hc
      · cases hc
    · cases hc
  · cases hc

/-- One operation, its call and all. -/
theorem opF_ok {rec : Rc} (hG : Good P rec) {tm : Tr AV} {o : Oper} {h h' : AH} {v : AV} (hc : opF P rec tm o h = some (v, h')) :
    (h.nx ≤ h'.nx ∧ Ab h h') ∧ ∀ (M : Mp) (a : Act) (w : World) (r : Option Nat) (K : Act → World → Prop) (Q : Exit → Act → World → Prop), (∀ x ∈ o.op.operands.toList, (evT tm x).R M (a.eval x)) → Rel M h w → Fresh M h h' →
      (∀ M' u w', v.R M' u → Rel M' h' w' → Fr h h' M M' w w' → Ab h h' → K (a.put o.dst u) w') → o.wpIn (FW r) 0 P a w K Q := by
  unfold opF at hc
  split at hc
  · rename_i v1 h1 ho
    simp only [nble, Bool.cond_decide] at hc
    split at hc
    · rename_i hle
      simp only [Option.some.injEq, Prod.mk.injEq] at hc
      obtain ⟨rfl, rfl⟩ := hc
      refine ⟨⟨hle, opS_ab ho⟩, fun M a w r K Q hx rr fr k => ⟨fun _ _ => trivial, ?_⟩⟩
      obtain ⟨hd, ok⟩ := opS_ok ho hx rr
      rw [Oper.semAt_eq _ _ _ hd]
      obtain ⟨M', u, w', nx, e1, e2, e3, e4, e5, e6⟩ := ok fr
      rw [e1]
      rcases e2 with rfl | ⟨rfl, rfl⟩
      · exact k M' u w' e3 e4 e5 e6
      · exact k M' undef w' e3 e4 e5 e6
    · cases hc
  · rename_i f args h1 ho
    split at hc
    · rename_i g hsm
      split at hc
      · rename_i v1 hv
        simp only [Option.some.injEq, Prod.mk.injEq] at hc
        obtain ⟨rfl, rfl⟩ := hc
        refine ⟨⟨Nat.le_refl _, Ab.refl _⟩, fun M a w r K Q hx rr _ k => ⟨fun _ _ => trivial, ?_⟩⟩
        obtain ⟨hd, _, us, ra, e1⟩ := opS_ok ho hx rr
        obtain ⟨u, e2, e3⟩ := (hG.sm f).2.1 g hsm args v1 M us w hv ra
        rw [Oper.semAt_eq _ _ _ hd, e1, e2]
        exact k M u w e3 rr (Fr.same _ M w) (Ab.refl _)
      · cases hc
    have c1 := callA_ok hG hc
    refine ⟨c1.1, fun M a w r K Q hx rr fr k => ⟨fun _ _ => trivial, ?_⟩⟩
    obtain ⟨hd, _, us, ra, e1⟩ := opS_ok ho hx rr
    rw [Oper.semAt_eq _ _ _ hd, e1]
    obtain ⟨c2, c3⟩ := c1.2 M us w r (fun | .returned u, w' => K (a.put o.dst u) w' | .panicked c, w' => Q (.panic c) a w' | .outgrown, _ => LetsOut Q) ra rr fr k
    rw [c2]
    exact ⟨fun e => by simp [FW] at e, c3⟩
  · rename_i l args h1 ho
    have c1 := roundA_ok hG hc
    refine ⟨c1.1, fun M a w r K Q hx rr fr k => ⟨fun _ _ => trivial, ?_⟩⟩
    obtain ⟨hd, _, us, b, κ, hM, ra, e1⟩ := opS_ok ho hx rr
    rw [Oper.semAt_eq _ _ _ hd, e1]
    obtain ⟨fn, tmps, asg, bo, c2, c3⟩ := c1.2 M us b κ w r (fun | .returned u, w' => K (a.put o.dst u) w' | .panicked c, w' => Q (.panic c) a w' | .outgrown, _ => LetsOut Q) hM ra rr fr k
    rw [c2]
    exact ⟨fun e => by simp [FW] at e, c3⟩
  · cases hc

/-- Is it wanted? -/
theorem wantA_ok {ops : Array Oper} {tm : Tr AV} {a : Act} {o : Oper} {b : Bool} (h : wantA ops.toList tm o = some b) (r : ∀ g d, o.guard = some g → (ops[g.1]?).bind (·.dst) = some d → (evT tm (.tmp d)).R M (a.tmps.getD d undef)) :
    Region.wanted o (yielded ops a.tmps) = b := by
  unfold wantA at h
  unfold Region.wanted
  cases hg : o.guard with
  | none => rw [hg] at h; simpa using h
  | some g =>
    obtain ⟨j, want⟩ := g
    rw [hg] at h
    simp only at h ⊢
    rw [Array.getElem?_toList] at h
    unfold yielded
    cases hj : ops[j]? with
    | none => rw [hj] at h; cases h
    | some oj =>
      rw [hj] at h
      simp only [Option.bind_some] at h ⊢
      cases hd : oj.dst with
      | none => rw [hd] at h; cases h
      | some d =>
        rw [hd] at h
        simp only [Option.bind_some] at h ⊢
        have rv := r (j, want) d hg (by simp [hj, hd])
        have hget : a.tmps.getD d undef = (a.tmps[d]?).getD undef := by simp [Array.getD_eq_getD_getElem?]
        rw [hget] at rv
        split at h
        · rename_i x hx
          rw [hx] at rv
          simp only [AV.R] at rv
          simp only [Option.some.injEq] at h; subst h
          cases ht : a.tmps[d]? with
          | none => rw [ht] at rv; simp [undef] at rv
          | some u => rw [ht] at rv; simp at rv; subst rv; simp
        · rename_i hx
          rw [hx] at rv
          simp only [AV.R, AV.RL] at rv
          obtain ⟨vs, rfl, rv⟩ := rv
          simp only [Option.some.injEq] at h; subst h
          cases ht : a.tmps[d]? with
          | none => simp
          | some u => rw [ht] at rv; simp at rv; subst rv; simp
        · cases h

theorem opsA_ok {rec : Rc} (hG : Good P rec) (ops : Array Oper) : ∀ (rest : List Oper) (s s' : St), opsA P rec ops.toList rest s = some s' → (s.h.nx ≤ s'.h.nx ∧ Ab s.h s'.h) ∧ s'.sz = s.sz ∧ s'.rd = s.rd ∧
    ∀ (k : Nat), rest = ops.toList.drop k → ∀ (M : Mp) (a : Act) (w : World) (r : Option Nat) (Q : Exit → Act → World → Prop), StR M s a w → Fresh M s.h s'.h →
      (∀ M' a' w', StR M' s' a' w' → Fr s.h s'.h M M' w w' → Ab s.h s'.h → Q .normal a' w') → wpOpsIn (FW r) 0 P ops Q (List.range' k (ops.size - k)) a w
  | [], s, s', h => by
    simp only [opsA, Option.some.injEq] at h; subst h
    refine ⟨⟨Nat.le_refl _, Ab.refl _⟩, rfl, rfl, fun k hk M a w r Q st fr q => ?_⟩
    have : ops.size - k = 0 := by
      have := congrArg List.length hk
      simp at this; omega
    rw [this]
    exact q M a w st (Fr.same _ _ _) (Ab.refl _)
  | o :: rest, s, s', h => by
    simp only [opsA] at h
    have hlook : ∀ k, o :: rest = ops.toList.drop k → ops[k]? = some o ∧ rest = ops.toList.drop (k + 1) ∧ ops.size - k = (ops.size - (k + 1)) + 1 := fun k hk => by
      have h1 : (ops.toList.drop k)[0]? = some o := by rw [← hk]; rfl
      rw [List.getElem?_drop, Nat.add_zero, Array.getElem?_toList] at h1
      refine ⟨h1, ?_, ?_⟩
      · rw [← List.drop_drop (i := 1), ← hk]; rfl
      · have := (Array.getElem?_eq_some_iff.1 h1).1; omega
    split at h
    · rename_i hw
      split at h
      · rename_i v h1 ho
        split at h
        · rename_i s1 hp
          obtain ⟨⟨o1, oa⟩, o2⟩ := opF_ok hG ho
          obtain ⟨p1, p2, p3, p4⟩ := putA_same hp
          obtain ⟨⟨i1, ia⟩, i2, i3, i4⟩ := opsA_ok hG ops rest s1 s' h
          simp only at p1 p2 p3
          refine ⟨⟨by rw [← p1] at o1; omega, by rw [p1] at ia; exact oa.trans ia⟩, by rw [i2, p2], by rw [i3, p3], fun k hk M a w r Q st fr q => ?_⟩
          obtain ⟨e1, e2, e3⟩ := hlook k hk
          rw [e3, List.range'_succ]
          simp only [wpOpsIn, e1]
          have hwd := wantA_ok (M := M) (a := a) hw (fun g d _ _ => st.tm d)
          rw [hwd]
          simp only [if_true]
          refine o2 M a w r _ Q (fun x _ => ev_ok st.tm x) st.h (fun id q1 q2 => fr id q1 (by rw [← p1] at q2; omega)) (fun M' u w' rv rh f ab => ?_)
          refine i4 (k + 1) e2 M' _ w' r Q (putA_ok hp ⟨st.tm.mono f.ext, st.sz, st.df.mono f.ext, rh⟩ rv) ?_ (fun M2 a2 w2 st2 f2 ab2 => ?_)
          · have := Fresh.right fr o1 f
            rw [p1]; exact this
          · rw [p1] at f2 ab2
            exact q M2 a2 w2 st2 (f.trans o1 (by rw [p1] at i1; exact i1) f2) (ab.trans ab2)
        · cases h
      · cases h
    · rename_i hw
      split at h
      · rename_i s1 hp
        obtain ⟨p1, p2, p3, p4⟩ := putA_same hp
        obtain ⟨⟨i1, ia⟩, i2, i3, i4⟩ := opsA_ok hG ops rest s1 s' h
        refine ⟨⟨by rw [← p1]; exact i1, by rw [p1] at ia; exact ia⟩, by rw [i2, p2], by rw [i3, p3], fun k hk M a w r Q st fr q => ?_⟩
        obtain ⟨e1, e2, e3⟩ := hlook k hk
        rw [e3, List.range'_succ]
        simp only [wpOpsIn, e1]
        have hwd := wantA_ok (M := M) (a := a) hw (fun g d _ _ => st.tm d)
        rw [hwd]
        simp only [Bool.false_eq_true, if_false]
        refine ⟨fun _ _ => trivial, i4 (k + 1) e2 M _ w r Q (putA_ok hp st (by simp [undefA, AV.R, AV.RL, undef])) (by rw [p1]; exact fr) (fun M2 a2 w2 st2 f2 ab2 => ?_)⟩
        rw [p1] at f2 ab2
        exact q M2 a2 w2 st2 f2 ab2
      · cases h
    · cases h
end
end Go.Proofs.YtlfehgagnelbhaaGreatDoor.Ex
