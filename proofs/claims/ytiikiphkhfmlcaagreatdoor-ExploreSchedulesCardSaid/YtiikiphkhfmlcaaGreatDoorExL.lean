/- The abstract machine: calls and rounds. -/
import Derived.Test.YtiikiphkhfmlcaaGreatDoorExS
noncomputable section
namespace Go.Proofs.YtiikiphkhfmlcaaGreatDoor.Ex
open Go

def FW (r : Option Nat) : Fence := { fn := fun _ => True, depth := none, alive := false, round := r }
def exitOf : AX → Exit
  | .nm => .normal
  | .ex id => .exit id
  | .rt => .ret
def RdR (M : Mp) : Option Nat → Option Nat → Prop
  | none, r => r = none
  | some l, r => ∃ b κ, M l = some (b, κ) ∧ r = some b
def DfR (M : Mp) : List Nat → List Deferred → Prop
  | [], ds => ds = []
  | d :: l, ds => ∃ b κ ds', M d = some (b, κ) ∧ DfR M l ds' ∧ ds = { target := .collected b, args := #[] } :: ds'
theorem DfR.mono {M M' : Mp} (h : Le M M') : ∀ {l : List Nat} {ds : List Deferred}, DfR M l ds → DfR M' l ds
  | [], _, r => r
  | _ :: _, _, ⟨b, κ, ds', r1, r2, r3⟩ => ⟨b, κ, ds', h _ _ r1, DfR.mono h r2, r3⟩
theorem RdR.mono {M M' : Mp} (h : Le M M') : ∀ {l r : Option Nat}, RdR M l r → RdR M' l r
  | none, _, e => e
  | some _, _, ⟨b, κ, r1, r2⟩ => ⟨b, κ, h _ _ r1, r2⟩

structure StR (M : Mp) (s : St) (a : Act) (w : World) : Prop where
  tm : TR M s.tm a.tmps
  sz : a.tmps.size = s.sz
  df : DfR M s.df a.defers
  h : Rel M s.h w

/-- What is asked of the contracts. -/
def SmCall (P : Program) (f : FuncId) (g : List AV → AH → Option (AV × AH)) : Prop := ∀ args h v h', g args h = some (v, h') → (h.nx ≤ h'.nx ∧ Ab h h') ∧
  ∀ (M : Mp) (us : List Value) (w : World) (r : Option Nat) (R : Ending → World → Prop), AV.RL M args us → Rel M h w → Fresh M h h' →
    (∀ M' u w', v.R M' u → Rel M' h' w' → Fr h h' M M' w w' → Ab h h' → R (.returned u) w') →
    (callFunc f us.toArray).run P w = .ok (.enter f us.toArray) w ∧ CallsIn (FW r) 0 P f us.toArray w R
def SmVal (P : Program) (f : FuncId) (g : List AV → Option AV) : Prop := ∀ args v (M : Mp) (us : List Value) (w : World), g args = some v → AV.RL M args us → ∃ u, (callFunc f us.toArray).run P w = .ok (.value u) w ∧ v.R M u
def SmOK (P : Program) (sm : FuncId → Option Sm) : Prop := ∀ f, (∀ g, sm f = some (.call g) → SmCall P f g) ∧ (∀ g, sm f = some (.val g) → SmVal P f g) ∧ (∀ g, sm f = some (.ct g) → SmCall P f fun a h => (g a h).sel)
/-- What is asked of the machine for the codes within. -/
structure Good (P : Program) (rec : Rc) : Prop where
  code : ∀ c s x s', rec.code c s = some (x, s') → (s.h.nx ≤ s'.h.nx ∧ Ab s.h s'.h) ∧ s'.sz = s.sz ∧ s'.rd = s.rd ∧
    ∀ (M : Mp) (a : Act) (w : World) (r : Option Nat) (Q : Exit → Act → World → Prop), StR M s a w → RdR M s.rd r → Fresh M s.h s'.h →
      (∀ M' a' w', StR M' s' a' w' → Fr s.h s'.h M M' w w' → Ab s.h s'.h → Q (exitOf x) a' w') → c.wpIn (FW r) 0 P Q a w
  sm : SmOK P rec.sm

theorem TR.put {M : Mp} {tm tm' : Tr AV} {tmps : Array Value} {d : Nat} {v : AV} {u : Value} (r : TR M tm tmps) (hd : d < tmps.size) (hs : Tr.set 64 tm (Nat.succ d) (some v) = some tm') (rv : v.R M u) : TR M tm' (tmps.setIfInBounds d u) := by
  intro n
  rw [Tr.get_set _ _ _ _ _ hs]
  by_cases h : n = d
  · subst h
    simpa [hd] using rv
  · have h1 : n + 1 ≠ Nat.succ d := by omega
    have h2 := r n
    rw [if_neg h1]
    have : (tmps.setIfInBounds d u).getD n undef = tmps.getD n undef := by
      simp only [Array.getD_eq_getD_getElem?, Array.getElem?_setIfInBounds_ne (Ne.symm h)]
    rw [this]; exact h2
theorem putA_ok {M : Mp} {s s' : St} {a : Act} {w : World} {dst : Option Tmp} {v : AV} {u : Value} (h : putA s dst v = some s') (r : StR M s a w) (rv : v.R M u) : StR M s' (a.put dst u) w := by
  rw [putA_eq] at h
  split at h
  · simp only [Option.some.injEq] at h; subst h; exact r
  · rename_i d
    simp only [nblt, Bool.cond_decide] at h
    split at h
    · rename_i hd
      split at h
      · rename_i t ht
        simp only [Option.some.injEq] at h; subst h
        refine ⟨r.tm.put (by rw [r.sz]; exact hd) ht rv, ?_, r.df, r.h⟩
        have := r.sz
        simpa [Act.put] using this
      · cases h
    · cases h
theorem putA_same {s s' : St} {dst : Option Tmp} {v : AV} (h : putA s dst v = some s') : s'.h = s.h ∧ s'.sz = s.sz ∧ s'.rd = s.rd ∧ s'.df = s.df := by
  rw [putA_eq] at h
  split at h
  · simp only [Option.some.injEq] at h; subst h; exact ⟨rfl, rfl, rfl, rfl⟩
  · simp only [nblt, Bool.cond_decide] at h
    split at h
    · split at h
      · simp only [Option.some.injEq] at h; subst h; exact ⟨rfl, rfl, rfl, rfl⟩
      · cases h
    · cases h

theorem ev_ok {M : Mp} {tm : Tr AV} {a : Act} (r : TR M tm a.tmps) (x : Operand) : (evT tm x).R M (a.eval x) := by
  cases x with
  | tmp t => rw [evT_tmp]; exact r t
  | const v => exact ofV_R M 2 v
  | global g => rfl
  | func f => simp only [evT, AV.R, Act.eval]; exact ⟨[], rfl, rfl⟩

theorem initT_get : ∀ (l : List AV) (t t' : Tr AV) (k : Nat), initT t k l = some t' → ∀ q, t'.get (q + 1) = if k ≤ q ∧ q < k + l.length then l[q - k]? else t.get (q + 1)
  | [], t, t', k, h, q => by
    simp only [initT, Option.some.injEq] at h; subst h
    rw [if_neg (by simp only [List.length_nil]; omega)]
  | a :: l, t, t', k, h, q => by
    simp only [initT] at h
    split at h
    · rename_i t1 h1
      rw [initT_get l t1 t' (k + 1) h q, Tr.get_set _ _ _ _ _ h1]
      by_cases hq : q = k
      · subst hq; rw [if_neg (by omega), if_pos rfl, if_pos (by simp)]; simp
      · have e : ¬ (q + 1 = Nat.succ k) := by omega
        rw [if_neg e]
        by_cases hk : k ≤ q ∧ q < k + (a :: l).length
        · rw [if_pos hk, if_pos (by simp at hk ⊢; omega)]
          rw [show q - k = (q - (k + 1)) + 1 by omega]
          simp
        · rw [if_neg hk, if_neg (by simp at hk ⊢; omega)]
    · cases h
theorem RL_get {M : Mp} : ∀ {l : List AV} {vs : List Value} (q : Nat) (a : AV), AV.RL M l vs → l[q]? = some a → ∃ v, vs[q]? = some v ∧ a.R M v
  | [], _, q, a, _, h => by simp at h
  | x :: l, vs, 0, a, r, h => by
    simp only [AV.RL] at r; obtain ⟨v, vs', r1, r2, rfl⟩ := r
    simp at h; subst h
    exact ⟨v, rfl, r1⟩
  | x :: l, vs, q + 1, a, r, h => by
    simp only [AV.RL] at r; obtain ⟨v, vs', r1, r2, rfl⟩ := r
    simpa using RL_get q a r2 (by simpa using h)
theorem initT_TR {M : Mp} {args : List AV} {us : List Value} {t : Tr AV} {n : Nat} (h : initT .lf 0 args = some t) (r : AV.RL M args us) : TR M t (us.toArray ++ Array.replicate n undef) := by
  intro q
  rw [initT_get args .lf t 0 h q]
  have hl := RL_length r
  by_cases hq : q < args.length
  · rw [if_pos (by omega)]
    obtain ⟨v, h1, h2⟩ := RL_get q args[q] r (by simp [hq])
    have : (us.toArray ++ Array.replicate n undef).getD q undef = v := by
      have hq2 : q < us.length := by omega
      simp [Array.getD_eq_getD_getElem?, Array.getElem?_append, hq2]
      exact (List.getElem?_eq_some_iff.1 h1).2
    rw [this]
    simpa [hq] using h2
  · rw [if_neg (by omega)]
    have : (us.toArray ++ Array.replicate n undef).getD q undef = undef := by
      have hq2 : ¬ q < us.length := by omega
      simp only [Array.getD_eq_getD_getElem?, Array.getElem?_append, List.size_toArray, hq2, if_false]
      by_cases h3 : q - us.length < n <;> simp [h3]
    rw [this]
    simp [Tr.get_lf, undefA, AV.R, AV.RL, undef]

section
variable {P : Program} {M : Mp}

/-! Leaving a function. -/
theorem takeAll_ok {fn : Func} {tmps : Array Value} {R : Ending → World → Prop} {r : Option Nat} : ∀ {l : List Nat} {h h' : AH} {w : World} {ds : List Deferred}, takeAll h l = some h' → DfR M l ds → Rel M h w →
    h.nx = h'.nx ∧ ((∀ w', Rel M h' w' → Fr h h' M M w w' → Ab h h' → ∃ v, (results fn tmps).run P w' = .ok v w' ∧ R (.returned v) w') → LeavesInM (FW r) 0 P fn tmps R ds .returning w)
  | [], h, h', w, ds, ht, rd, rr => by
    simp only [takeAll, Option.some.injEq] at ht; subst ht
    simp only [DfR] at rd; subst rd
    exact ⟨rfl, fun k => k w rr (Fr.same h M w) (Ab.refl h)⟩
  | d :: l, h, h', w, ds, ht, rd, rr => by
    simp only [takeAll] at ht
    simp only [DfR] at rd
    obtain ⟨b, κ, ds', hM, r2, rfl⟩ := rd
    split at ht
    · rename_i hg
      split at ht
      · rename_i h1 hp
        obtain ⟨ob, hb, ho⟩ := Ob_of rr hg hM
        simp only [ObR, if_true] at ho; subst ho
        obtain ⟨q1, q2, q3⟩ := put_ok (ob := .deferred none) (w' := w.putObj b (.deferred none)) rr hg hp hM (upd_setObj (heap_lt hb)) (by simp [ObR])
        obtain ⟨e1, e2⟩ := takeAll_ok (fn := fn) (tmps := tmps) (R := R) (r := r) ht r2 q1
        have hnx := (AH.put_nx hp).1
        refine ⟨by omega, fun k => ⟨by simp, .inl ⟨b, _, rfl, run_takeDeferred hb, e2 fun w' t1 t2 t3 => k w' t1 ?_ (q3.trans t3)⟩⟩⟩
        exact q2.trans q3.nx (by omega) t2
      · cases ht
    · cases ht

theorem takeAll_ab : ∀ {l : List Nat} {h h' : AH}, takeAll h l = some h' → Ab h h'
  | [], h, h', e => by simp only [takeAll, Option.some.injEq] at e; subst e; exact Ab.refl _
  | d :: l, h, h', e => by
    simp only [takeAll] at e
    split at e
    · rename_i hg
      split at e
      · rename_i h1 hp
        exact (put_ab hg hp).trans (takeAll_ab e)
      · cases e
    · cases e
def resF (tmps : Array Value) : ResultVar → Sem Value
  | .tmp t => pure (tmps.getD t undef)
  | .cell x t => do loadVar t (← asAddr (tmps.getD x undef))
theorem results_eq (fn : Func) (tmps : Array Value) : results fn tmps = (fn.results.mapM (resF tmps) >>= fun vs => pure (if h : vs.size = 1 then vs[0] else .tuple vs)) := by
  unfold results
  congr 1
theorem resOne_ok {h : AH} {w : World} {tm : Tr AV} {a : Act} {rv : ResultVar} {v : AV} (hr : resOne P tm h rv = some v) (rt : TR M tm a.tmps) (r : Rel M h w) :
    ∃ u, (resF a.tmps rv).run P w = .ok u w ∧ v.R M u := by
  cases rv with
  | tmp t =>
    simp only [resOne, Option.some.injEq] at hr; subst hr
    exact ⟨_, rfl, ev_ok rt (.tmp t)⟩
  | cell x t =>
    simp only [resOne] at hr
    have hx := ev_ok rt (.tmp x)
    obtain ⟨u, h1, h2⟩ := load_ok (P := P) hr hx r
    refine ⟨u, ?_, h2⟩
    obtain ⟨e1, e2⟩ := h1 w rfl
    simp only [Instr.loadAt, Sem.run_bind] at e2
    simp only [resF, Sem.run_bind, ← e2]
    have : a.eval (.tmp x) = a.tmps.getD x undef := rfl
    rw [← this, e1]
theorem resAll_ok {h : AH} {w : World} {tm : Tr AV} {a : Act} (rt : TR M tm a.tmps) (r : Rel M h w) : ∀ {l : List ResultVar} {vs : List AV}, resAll P tm h l = some vs →
    ∃ us, (l.mapM (resF a.tmps)).run P w = .ok us w ∧ AV.RL M vs us
  | [], vs, hr => by simp only [resAll, Option.some.injEq] at hr; subst hr; exact ⟨[], by simp, rfl⟩
  | rv :: l, vs, hr => by
    simp only [resAll] at hr
    split at hr
    · rename_i v hv
      split at hr
      · rename_i vs' hvs
        simp only [Option.some.injEq] at hr; subst hr
        obtain ⟨u, h1, h2⟩ := resOne_ok hv rt r
        obtain ⟨us, h3, h4⟩ := resAll_ok rt r hvs
        refine ⟨u :: us, ?_, by simp only [AV.RL]; exact ⟨u, us, h2, h4, rfl⟩⟩
        simp only [List.mapM_cons, Sem.run_bind, h1, Result.andThen_ok, h3, Sem.run_pure]
      · cases hr
    · cases hr
theorem resA_ok {h : AH} {w : World} {tm : Tr AV} {a : Act} {fn : Func} {v : AV} (hr : resA P tm h fn.results.toList = some v) (rt : TR M tm a.tmps) (r : Rel M h w) :
    ∃ u, (results fn a.tmps).run P w = .ok u w ∧ v.R M u := by
  unfold resA at hr
  cases hra : resAll P tm h fn.results.toList with
  | none => simp [hra] at hr
  | some vs =>
    obtain ⟨us, h1, h2⟩ := resAll_ok rt r hra
    have hrun : ∀ u, (if hh : us.toArray.size = 1 then us.toArray[0] else Value.tuple us.toArray) = u → (results fn a.tmps).run P w = .ok u w := fun u e => by
      rw [results_eq, Array.mapM_eq_mapM_toList]
      simp only [Sem.run_bind, Sem.run_map, h1, Result.andThen_ok, Sem.run_pure, e]
    rw [hra] at hr
    have hl := RL_length h2
    match vs, hr with
    | [], hr =>
      simp only [Option.some.injEq] at hr; subst hr
      have : us = [] := by simpa using hl
      subst this
      exact ⟨.tuple #[], hrun _ (by simp), by simp [AV.R, AV.RL]⟩
    | [x], hr =>
      simp only [Option.some.injEq] at hr; subst hr
      simp only [AV.RL] at h2
      obtain ⟨u, vs', r1, r2, rfl⟩ := h2
      subst r2
      exact ⟨u, hrun _ (by simp), r1⟩
    | x :: y :: l, hr =>
      simp only [Option.some.injEq] at hr; subst hr
      refine ⟨.tuple us.toArray, hrun _ (by rw [dif_neg (by simp [hl])]), by simp only [AV.R]; exact ⟨us, h2, rfl⟩⟩

theorem callA_ok {rec : Rc} (hG : Good P rec) {f : FuncId} {args : List AV} {h h' : AH} {v : AV} (hc : callA P rec f args h = some (v, h')) :
    (h.nx ≤ h'.nx ∧ Ab h h') ∧ ∀ (M : Mp) (us : List Value) (w : World) (r : Option Nat) (R : Ending → World → Prop), AV.RL M args us → Rel M h w → Fresh M h h' →
      (∀ M' u w', v.R M' u → Rel M' h' w' → Fr h h' M M' w w' → Ab h h' → R (.returned u) w') →
      (callFunc f us.toArray).run P w = .ok (.enter f us.toArray) w ∧ CallsIn (FW r) 0 P f us.toArray w R := by
  unfold callA at hc
  split at hc
  · rename_i g hsm
    exact (hG.sm f).1 g hsm args h v h' hc
  · rename_i g hsm
    exact (hG.sm f).2.2 g hsm args h v h' hc
  · cases hc
  · split at hc
    case h_2 => cases hc
    rename_i fn hf
    cases hok : okFn fn with
    | false => rw [hok] at hc; cases hc
    | true =>
      rw [hok, cond_true] at hc
      split at hc
      · rename_i c hb
        split at hc
        · rename_i tm htm
          have main : ∀ (x : AX) (s : St), rec.code c ⟨tm, max fn.ntmps args.length, [], none, h⟩ = some (x, s) → (x = .nm ∨ x = .rt) →
              (match takeAll s.h s.df with
                | some h' => match resA P s.tm h' fn.results.toList with
                  | some v => some (v, h')
                  | none => none
                | none => none) = some (v, h') →
              (h.nx ≤ h'.nx ∧ Ab h h') ∧ ∀ (M : Mp) (us : List Value) (w : World) (r : Option Nat) (R : Ending → World → Prop), AV.RL M args us → Rel M h w → Fresh M h h' →
                (∀ M' u w', v.R M' u → Rel M' h' w' → Fr h h' M M' w w' → Ab h h' → R (.returned u) w') →
                (callFunc f us.toArray).run P w = .ok (.enter f us.toArray) w ∧ CallsIn (FW r) 0 P f us.toArray w R := by
            intro x s hrec hx hrest
            obtain ⟨⟨g1, ga⟩, g2, g3, g4⟩ := hG.code _ _ _ _ hrec
            split at hrest
            · rename_i h2 htk
              split at hrest
              · rename_i v2 hres
                simp only [Option.some.injEq, Prod.mk.injEq] at hrest
                obtain ⟨rfl, rfl⟩ := hrest
                have hnx : s.h.nx = h2.nx := by
                  clear g4
                  generalize s.df = l at htk
                  generalize s.h = hh at htk
                  induction l generalizing hh with
                  | nil => simp only [takeAll, Option.some.injEq] at htk; rw [htk]
                  | cons d l ih =>
                    simp only [takeAll] at htk
                    split at htk
                    · split at htk
                      · rename_i h1 hp
                        have := (AH.put_nx hp).1
                        rw [← ih h1 htk]; omega
                      · cases htk
                    · cases htk
                refine ⟨⟨by simp only at g1; omega, ga.trans (takeAll_ab htk)⟩, fun M us w r R ra rr fr k => ⟨?_, ?_⟩⟩
                · have hnn : ¬ (fn.name = "runtime.NumGoroutine") := by simpa [okFn] using hok
                  simp [callFunc, hf, hnn, hb]
                · show CallsIn (FW none) 0 P f us.toArray w R
                  refine callsIn_of_wp_marks hf hb trivial ?_
                  have hl := RL_length ra
                  have hfr : Fresh M h s.h := fun id e1 e2 => fr id e1 (by omega)
                  refine g4 M _ w none _ ⟨?_, ?_, rfl, rr⟩ rfl hfr ?_
                  · simp only
                    exact initT_TR htm ra
                  · simp only [Array.size_append, List.size_toArray, Array.size_replicate, hl]; omega
                  · intro M' a' w' st f1 a1
                    have tk := takeAll_ok (M := M') (fn := fn) (tmps := a'.tmps) (R := R) (r := none) (P := P) htk st.df st.h
                    have fin := tk.2 (fun w2 t1 t2 t3 => by
                      obtain ⟨u, e1, e2⟩ := resA_ok (a := a') hres st.tm t1
                      exact ⟨u, e1, k M' u w2 e2 t1 (f1.trans a1.nx t3.nx t2) (a1.trans t3)⟩)
                    rcases hx with rfl | rfl
                    · exact fin
                    · exact fin
              · cases hrest
            · cases hrest
          split at hc
          · rename_i s hrec; exact main _ _ hrec (.inl rfl) hc
          · rename_i s hrec; exact main _ _ hrec (.inr rfl) hc
          · cases hc
        · cases hc
      · cases hc
end
end Go.Proofs.YtiikiphkhfmlcaaGreatDoor.Ex
