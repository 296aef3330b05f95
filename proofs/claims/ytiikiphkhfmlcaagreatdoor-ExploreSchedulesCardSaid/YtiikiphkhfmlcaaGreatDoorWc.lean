/- Walks by symbols: one state found in another, blocks and all. -/
import Derived.Test.YtiikiphkhfmlcaaGreatDoorWb
noncomputable section
namespace Go.Proofs.YtiikiphkhfmlcaaGreatDoor.Ex
open Go

theorem sameG_eq {a b : Option Nat} (h : sameG a b = true) : a = b := by
  cases a <;> cases b <;> simp [sameG] at h ⊢
  exact h
section
variable {x0 : Nat} {h : AH}
theorem cmpM_ok : ∀ {es as : List (AV × AV × Nat)} {ρ : Ren} {K : Ren → Prop}, cmpM x0 h es as ρ K → ∃ ρ', Ext ρ ρ' ∧ K ρ' ∧ ∀ M w l, Rel M h w → EL M as l → EL (MR x0 ρ' M (cellsW w)) es l
  | [], as, ρ, K, e => by
    unfold cmpM at e
    split at e
    · exact ⟨ρ, Ext.refl ρ, e, fun M w l _ r => r⟩
    · exact e.elim
  | (k, v, b) :: l, as, ρ, K, e => by
    unfold cmpM at e
    split at e
    · obtain ⟨ρ1, h1, e1, r1⟩ := cmpV_ok _ _ _ _ e
      obtain ⟨ρ2, h2, ⟨rfl, e2⟩, r2⟩ := cmpV_ok _ _ _ _ e1
      obtain ⟨ρ3, h3, e3, r3⟩ := cmpM_ok e2
      refine ⟨ρ3, (h1.trans h2).trans h3, e3, fun M w l rr r => ?_⟩
      simp only [EL] at r ⊢
      obtain ⟨kk, vv, l', q1, q2, q3, rfl⟩ := r
      exact ⟨kk, vv, l', AV.R.mono (MR_le (h2.trans h3) M) _ _ (r1 M w _ rr q1), AV.R.mono (MR_le h3 M) _ _ (r2 M w _ rr q2), r3 M w _ rr q3, rfl⟩
    · exact e.elim
theorem cmpO_ok {c a : AO} {ρ : Ren} {K : Ren → Prop} (e : cmpO x0 h c a ρ K) : ∃ ρ', Ext ρ ρ' ∧ K ρ' ∧ c.ro = a.ro ∧ (a.Vac → c.Vac) ∧ ∀ M w κ ob, Rel M h w → ObR M κ a ob → ObR (MR x0 ρ' M (cellsW w)) κ c ob := by
  unfold cmpO at e
  split at e
  · simp only [Bool.cond_eq_ite] at e
    split at e
    · rename_i hc
      simp only [Bool.and_eq_true, nbeq, decide_eq_true_eq] at hc
      obtain ⟨rfl, hg⟩ := hc
      obtain ⟨ρ', h1, h2, h3⟩ := cmpL_ok _ _ _ _ e
      refine ⟨ρ', h1, h2, rfl, fun v => v, fun M w κ ob rr ro => ?_⟩
      obtain ⟨vs, rest, r1, rfl, r2⟩ := ro
      refine ⟨vs, rest, h3 M w vs rr r1, rfl, ?_⟩
      rw [sameG_eq hg]; exact r2
    · exact e.elim
  · simp only [Bool.cond_eq_ite] at e
    split at e
    · rename_i hc
      simp only [Bool.and_eq_true, beq_iff_eq, nbeq, decide_eq_true_eq] at hc
      obtain ⟨⟨rfl, rfl⟩, rfl⟩ := hc
      obtain ⟨rfl, hcs, hK⟩ := e
      refine ⟨ρ, Ext.refl ρ, hK, rfl, fun v => v, fun M w κ ob rr ro => ?_⟩
      rename_i ro0 _ _ _ _ _
      cases ro0 with
      | true =>
        obtain ⟨cs, e', fr, r1, q⟩ := ro
        refine ⟨cs, e', fr, r1, fun i hi j hj => ?_⟩
        obtain ⟨v, q1, q2, q3⟩ := q i hi j hj
        exact ⟨v, q1, q2, (cmpP_ok (fun b cs e => MR_zm e) 3 (cmpJ_ok (hcs i hi) j (by omega) (by omega)) q3).1⟩
      | false =>
        obtain ⟨cs, r1, r2, r3, q⟩ := ro
        refine ⟨cs, r1, r2, r3, fun i hi j hj => ?_⟩
        obtain ⟨v, q1, q2, q3⟩ := q i hi j hj
        exact ⟨v, q1, q2, (cmpP_ok (fun b cs e => MR_zm e) 3 (cmpJ_ok (hcs i hi) j (by omega) (by omega)) q3).1⟩
    · exact e.elim
  · simp only [Bool.cond_eq_ite] at e
    split at e
    · rename_i hc
      simp only [Bool.and_eq_true, nbeq, nblt, decide_eq_true_eq] at hc
      obtain ⟨⟨⟨rfl, rfl⟩, hz⟩, hl⟩ := hc
      obtain ⟨rfl, hcs, hK⟩ := e
      refine ⟨ρ, Ext.refl ρ, hK, rfl, fun v => v.elim, fun M w κ ob rr ro => ?_⟩
      obtain ⟨vs, rest, r1, rfl, r2⟩ := ro
      simp only at r2
      have hvl := RL_length r1
      refine ⟨(vs ++ rest).toArray, rfl, by simpa using r2, ?_, fun i hi j hj => ?_⟩
      · refine Nat.le_of_mul_le_mul_right ?_ hz
        rw [hl, ← r2, ← hvl]; simp
      · obtain ⟨v, q1, q2, q3⟩ := cmpEs_ok (M' := MR x0 ρ M (cellsW w)) (fun b cs e => MR_zm e) hcs r1 (Nat.le_of_eq hl) i hi j hj
        rw [Nat.zero_add] at q3
        refine ⟨v, ?_, q2, q3⟩
        have hlt := (List.getElem?_eq_some_iff.1 q1).1
        rw [List.getElem?_toArray, List.getElem?_append_left hlt]; exact q1
    · exact e.elim
  · obtain ⟨rfl, e⟩ := e
    obtain ⟨ρ', h1, h2, h3⟩ := cmpM_ok e
    refine ⟨ρ', h1, h2, rfl, fun v => v, fun M w κ ob rr ro => ?_⟩
    obtain ⟨l, r1, rfl⟩ := ro
    exact ⟨l, h3 M w l rr r1, rfl⟩
  · simp only [Bool.cond_eq_ite] at e
    split at e
    · rename_i hc
      simp only [Bool.and_eq_true] at hc
      obtain rfl := eqK_eq hc.1
      obtain rfl := eqK_eq hc.2
      obtain ⟨hx, hK⟩ := e
      refine ⟨ρ, Ext.refl ρ, hK, rfl, fun v => v, fun M w κ ob _ ro => ?_⟩
      obtain ⟨l, ck, r1, r2⟩ := ro
      refine ⟨l, ck, r1, fun e he => ?_, fun n hn => r2.has n ((hx n).1 ▸ hn), r2.one⟩
      obtain ⟨n, q1, q2, q3⟩ := r2.ent e he
      have hp := (hx n).1.trans q3
      exact ⟨n, q1, by rw [q2, (hx n).2 hp], hp⟩
    · exact e.elim
  · obtain ⟨hx, hK⟩ := e
    refine ⟨ρ, Ext.refl ρ, hK, rfl, fun v => v, fun M w κ ob _ ro => ?_⟩
    obtain ⟨l, r1, rfl⟩ := ro
    obtain rfl : l = [] := r1
    exact ⟨[], _, rfl, ⟨fun e he => (by cases he), fun n hn => (by rw [hx n] at hn; cases hn), List.Pairwise.nil⟩⟩
  · simp only [Bool.cond_eq_ite] at e
    split at e
    · rename_i hc
      simp only [beq_iff_eq] at hc; subst hc
      exact ⟨ρ, Ext.refl ρ, e, rfl, fun v => v, fun M w κ ob _ ro => ro⟩
    · exact e.elim
  · exact e.elim

def vacP : AO → Prop
  | .arr false _ _ n _ => n = 0
  | _ => False
def cmpTs (x0 : Nat) (h : AH) (tm : Tr AV) : List (Nat × AV) → Ren → (Ren → Prop) → Prop
  | [], ρ, K => K ρ
  | (t, v) :: l, ρ, K => cmpV x0 h v (evT tm (.tmp t)) ρ (fun ρ' => cmpTs x0 h tm l ρ' K)
def cmpHs (x0 : Nat) (h : AH) : List (Nat × AO) → Ren → (Ren → Prop) → Prop
  | [], ρ, K => K ρ
  | (id, c) :: l, ρ, K => bif Nat.blt id x0 then (match h.get id with | some a => cmpO x0 h c a ρ (fun ρ' => cmpHs x0 h l ρ' K) | none => False)
    else match ρ.at id with
      | none => vacP c ∧ cmpHs x0 h l ρ (fun ρ' => (ρ'.at id).isNone = true ∧ K ρ')
      | some ia => match h.get ia with | some a => cmpO x0 h c a ρ (fun ρ' => cmpHs x0 h l ρ' K) | none => False
def memA (a : Nat) : Ren → Bool
  | [] => false
  | (_, b) :: l => bif Nat.beq a b then true else memA a l
def okR (x0 nx1 : Nat) (del : List Nat) : Ren → Bool
  | [] => true
  | (c, a) :: l => (Nat.ble x0 a || memN a del) && !memA a l && (Nat.ble 4294967296 c || (Nat.ble x0 c && Nat.blt c nx1)) && okR x0 nx1 del l
/-- What is frozen was an own block. -/
def okFz (h : AH) : Ren → Bool
  | [] => true
  | (c, a) :: l => (bif Nat.ble 4294967296 c then (match h.get a with | some o => !o.ro | none => false) else true) && okFz h l
def matchS (x0 nx1 : Nat) (del : List Nat) (tl : List (Nat × AV)) (hl : List (Nat × AO)) (s : St) : Prop :=
  cmpTs x0 s.h s.tm tl [] fun ρ => cmpHs x0 s.h hl ρ fun ρ' => (okR x0 nx1 del ρ' && okFz s.h ρ') = true

theorem cmpTs_ok {tm : Tr AV} : ∀ {tl : List (Nat × AV)} {ρ : Ren} {K : Ren → Prop}, cmpTs x0 h tm tl ρ K → ∃ ρ', Ext ρ ρ' ∧ K ρ' ∧ ∀ M w, Rel M h w → ∀ t v, (t, v) ∈ tl → ∀ u, (evT tm (.tmp t)).R M u → v.R (MR x0 ρ' M (cellsW w)) u
  | [], ρ, K, e => ⟨ρ, Ext.refl ρ, e, fun _ _ _ t v hm => by simp at hm⟩
  | (t, v) :: l, ρ, K, e => by
    unfold cmpTs at e
    obtain ⟨ρ1, h1, e1, r1⟩ := cmpV_ok _ _ _ _ e
    obtain ⟨ρ2, h2, e2, r2⟩ := cmpTs_ok e1
    refine ⟨ρ2, h1.trans h2, e2, fun M w rr t' v' hm u ru => ?_⟩
    rcases List.mem_cons.1 hm with hm | hm
    · simp only [Prod.mk.injEq] at hm
      obtain ⟨rfl, rfl⟩ := hm
      exact AV.R.mono (MR_le h2 M) _ _ (r1 M w u rr ru)
    · exact r2 M w rr t' v' hm u ru
/-- A block of the one state, found in the other. -/
def Found (x0 : Nat) (h : AH) (C : Nat → Option (Array Value)) (ρ : Ren) (M : Mp) (id : Nat) (c : AO) : Prop :=
  (¬ id < x0 ∧ ρ.at id = none ∧ c.Vac ∧ c.ro = false) ∨ ∃ ia a, (id < x0 → ia = id) ∧ (¬ id < x0 → ρ.at id = some ia) ∧ h.get ia = some a ∧ c.ro = a.ro ∧ (a.Vac → c.Vac) ∧ ∀ κ ob, ObR M κ a ob → ObR (MR x0 ρ M C) κ c ob
theorem Found.mono {h : AH} {C : Nat → Option (Array Value)} {ρ ρ' : Ren} {M : Mp} {id : Nat} {c : AO} (he : Ext ρ ρ') (hn : ¬ id < x0 → ρ.at id = none → ρ'.at id = none) (f : Found x0 h C ρ M id c) : Found x0 h C ρ' M id c := by
  rcases f with ⟨f1, f2, f3⟩ | ⟨ia, a, f1, f2, f3, f4, f5, f6⟩
  · exact .inl ⟨f1, hn f1 f2, f3⟩
  · exact .inr ⟨ia, a, f1, fun e => he _ _ (f2 e), f3, f4, f5, fun κ ob e => ObR.mono (MR_le he M) _ _ (f6 κ ob e)⟩
theorem cmpHs_ok : ∀ {hl : List (Nat × AO)} {ρ : Ren} {K : Ren → Prop}, cmpHs x0 h hl ρ K → ∃ ρ', Ext ρ ρ' ∧ K ρ' ∧ ∀ M w, Rel M h w → ∀ id c, (id, c) ∈ hl → Found x0 h (cellsW w) ρ' M id c
  | [], ρ, K, e => ⟨ρ, Ext.refl ρ, e, fun _ _ _ t v hm => by simp at hm⟩
  | (id, c) :: l, ρ, K, e => by
    unfold cmpHs at e
    simp only [Bool.cond_eq_ite] at e
    split at e
    · rename_i hlt
      have hlt : id < x0 := by simpa [nblt] using hlt
      split at e
      · rename_i a ha
        obtain ⟨ρ1, h1, e1, q1, q2, r1⟩ := cmpO_ok e
        obtain ⟨ρ2, h2, e2, r2⟩ := cmpHs_ok e1
        refine ⟨ρ2, h1.trans h2, e2, fun M w rr id' c' hm => ?_⟩
        rcases List.mem_cons.1 hm with hm | hm
        · simp only [Prod.mk.injEq] at hm
          obtain ⟨rfl, rfl⟩ := hm
          exact .inr ⟨id', a, fun _ => rfl, fun e => absurd hlt e, ha, q1, q2, fun κ ob ho => ObR.mono (MR_le h2 M) _ _ (r1 M w κ ob rr ho)⟩
        · exact r2 M w rr id' c' hm
      · exact e.elim
    · rename_i hlt
      have hlt : ¬ id < x0 := by simpa [nblt] using hlt
      split at e
      · rename_i hat
        obtain ⟨hv, e⟩ := e
        obtain ⟨ρ2, h2, ⟨e0, e2⟩, r2⟩ := cmpHs_ok e
        refine ⟨ρ2, h2, e2, fun M w rr id' c' hm => ?_⟩
        rcases List.mem_cons.1 hm with hm | hm
        · simp only [Prod.mk.injEq] at hm
          obtain ⟨rfl, rfl⟩ := hm
          refine .inl ⟨hlt, by simpa using e0, ?_⟩
          unfold vacP at hv
          split at hv
          · exact ⟨hv, rfl⟩
          · exact hv.elim
        · exact r2 M w rr id' c' hm
      · rename_i ia hat
        split at e
        · rename_i a ha
          obtain ⟨ρ1, h1, e1, q1, q2, r1⟩ := cmpO_ok e
          obtain ⟨ρ2, h2, e2, r2⟩ := cmpHs_ok e1
          refine ⟨ρ2, h1.trans h2, e2, fun M w rr id' c' hm => ?_⟩
          rcases List.mem_cons.1 hm with hm | hm
          · simp only [Prod.mk.injEq] at hm
            obtain ⟨rfl, rfl⟩ := hm
            exact .inr ⟨ia, a, fun e => absurd e hlt, fun _ => (h1.trans h2) _ _ hat, ha, q1, q2, fun κ ob ho => ObR.mono (MR_le h2 M) _ _ (r1 M w κ ob rr ho)⟩
          · exact r2 M w rr id' c' hm
        · exact e.elim
theorem memA_at {a : Nat} : ∀ {ρ : Ren} {c : Nat}, ρ.at c = some a → memA a ρ = true
  | [], c, e => by simp [Ren.at] at e
  | (c', b) :: l, c, e => by
    unfold Ren.at at e
    simp only [nbeq, Bool.cond_decide] at e
    unfold memA
    simp only [nbeq, Bool.cond_decide]
    split at e
    · simp only [Option.some.injEq] at e; subst e; simp
    · split
      · rfl
      · exact memA_at e
theorem okR_at {x0 nx1 : Nat} {del : List Nat} : ∀ {ρ : Ren} {c a : Nat}, okR x0 nx1 del ρ = true → ρ.at c = some a → (x0 ≤ a ∨ a ∈ del) ∧ (4294967296 ≤ c ∨ (x0 ≤ c ∧ c < nx1))
  | [], c, a, _, e => by simp [Ren.at] at e
  | (c', b) :: l, c, a, h, e => by
    simp only [okR, Bool.and_eq_true, Bool.or_eq_true, nble, nblt, decide_eq_true_eq, memN_iff] at h
    unfold Ren.at at e
    simp only [nbeq, Bool.cond_decide] at e
    split at e
    · rename_i hc
      simp only [Option.some.injEq] at e
      subst e; subst hc
      exact ⟨h.1.1.1, h.1.2⟩
    · exact okR_at h.2 e
theorem okR_inj {x0 nx1 : Nat} {del : List Nat} : ∀ {ρ : Ren} {c c2 a : Nat}, okR x0 nx1 del ρ = true → ρ.at c = some a → ρ.at c2 = some a → c = c2
  | [], c, c2, a, _, e, _ => by simp [Ren.at] at e
  | (c', b) :: l, c, c2, a, h, e, e2 => by
    simp only [okR, Bool.and_eq_true, Bool.not_eq_true'] at h
    have hna : memA b l = false := h.1.1.2
    unfold Ren.at at e e2
    simp only [nbeq, Bool.cond_decide] at e e2
    split at e
    · rename_i hc
      simp only [Option.some.injEq] at e
      split at e2
      · rename_i hc2; omega
      · have := memA_at e2; rw [← e, hna] at this; cases this
    · split at e2
      · simp only [Option.some.injEq] at e2
        have := memA_at e; rw [← e2, hna] at this; cases this
      · exact okR_inj h.2 e e2
theorem okFz_at {h : AH} : ∀ {ρ : Ren} {a : Nat}, okFz h ρ = true → ρ.at (frzM a) = some a → ∃ o, h.get a = some o ∧ o.ro = false
  | [], a, _, e => by simp [Ren.at] at e
  | (c', b) :: l, a, h, e => by
    simp only [okFz, Bool.and_eq_true] at h
    unfold Ren.at at e
    simp only [nbeq, Bool.cond_decide] at e
    split at e
    · rename_i hc
      simp only [Option.some.injEq] at e
      subst e; subst hc
      have h1 := h.1
      rw [show Nat.ble 4294967296 (frzM b) = true from Nat.ble_eq ▸ (Nat.le_add_right 4294967296 b : 4294967296 ≤ frzM b)] at h1
      simp only [cond_true] at h1
      split at h1
      · rename_i o ho; exact ⟨o, ho, by simpa using h1⟩
      · cases h1
    · exact okFz_at h.2 e
end
end Go.Proofs.YtiikiphkhfmlcaaGreatDoor.Ex
