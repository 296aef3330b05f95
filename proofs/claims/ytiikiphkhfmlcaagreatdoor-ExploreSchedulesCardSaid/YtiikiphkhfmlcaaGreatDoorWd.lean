/- Walks by symbols: the state at a loop's head. -/
import Derived.Test.YtiikiphkhfmlcaaGreatDoorWc
noncomputable section
namespace Go.Proofs.YtiikiphkhfmlcaaGreatDoor.Ex
open Go

section
variable {x0 : Nat} {ρ : Ren} {C : Nat → Option (Array Value)}
theorem FreshA.lt {M : Mp} (f : FreshA M x0) {id : Nat} {p : Nat × Nat} (e : M id = some p) : id < x0 := by
  cases Nat.lt_or_ge id x0 with
  | inl h => exact h
  | inr h => rw [f id h] at e; cases e
theorem MR_lt {M : Mp} {id : Nat} (h : id < x0) : MR x0 ρ M C id = M id := by unfold MR; simp only; rw [if_pos h]
mutual
theorem supp_R {Me M' : Mp} (f : FreshA Me x0) : ∀ (v : AV) (u0 u : Value), v.R Me u0 → v.R M' u → v.R (MR x0 ρ M' C) u
  | .b _, _, _, _, r | .i _ _, _, _, _, r | .s _, _, _, _, r | .np, _, _, _, r | .ns, _, _, _, r | .nm, _, _, _, r | .nf, _, _, _, r | .ni, _, _, _, r | .o _, _, _, _, r | .gl _ _, _, _, _, r => r
  | .es, _, _, _, r => r
  | .jk, _, _, _, r => r
  | .y _ _, _, _, _, r | .yb _, _, _, _, r | .ys _, _, _, _, r | .ye _, _, _, _, r => r
  | .ysl ro nil id z q n, u0, u, r0, r => by
    simp only [AV.R] at r0 r ⊢
    rcases r with r | r | ⟨h1, b, κ, c, e, h2, h3, h4, h5⟩
    · exact .inl r
    · exact .inr (.inl r)
    · rcases r0 with ⟨_, h, _⟩ | ⟨_, h, _⟩ | ⟨_, b0, κ0, c0, e0, _⟩
      · omega
      · omega
      · exact .inr (.inr ⟨h1, b, κ, c, by rw [MR_lt (f.lt e0)]; exact e, h2, h3, h4, h5⟩)
  | .ypt _ id _ _ _, _, _, r0, r => by
    simp only [AV.R] at r0 r ⊢
    obtain ⟨_, _, e0, _⟩ := r0
    obtain ⟨b, c, e, r⟩ := r; exact ⟨b, c, by rw [MR_lt (f.lt e0)]; exact e, r⟩
  | .ptr id _, _, _, r0, r => by
    simp only [AV.R] at r0 r ⊢
    obtain ⟨_, _, e0, _⟩ := r0
    obtain ⟨b, c, e, r⟩ := r; exact ⟨b, c, by rw [MR_lt (f.lt e0)]; exact e, r⟩
  | .sl id _ _ _ _, _, _, r0, r => by
    simp only [AV.R] at r0 r ⊢
    obtain ⟨_, _, e0, _⟩ := r0
    obtain ⟨b, c, e, r⟩ := r; exact ⟨b, c, by rw [MR_lt (f.lt e0)]; exact e, r⟩
  | .mp id, _, _, r0, r => by
    simp only [AV.R] at r0 r ⊢
    obtain ⟨_, _, e0, _⟩ := r0
    obtain ⟨b, c, e, r⟩ := r; exact ⟨b, c, by rw [MR_lt (f.lt e0)]; exact e, r⟩
  | .yl id, _, _, r0, r => by
    simp only [AV.R] at r0 r ⊢
    obtain ⟨_, _, e0, _⟩ := r0
    obtain ⟨b, c, e, r⟩ := r; exact ⟨b, c, by rw [MR_lt (f.lt e0)]; exact e, r⟩
  | .fn _ caps, _, _, r0, r => by
    simp only [AV.R] at r0 r ⊢
    obtain ⟨vs0, e0, _⟩ := r0
    obtain ⟨vs, e, r⟩ := r; exact ⟨vs, supp_RL f caps vs0 vs e0 e, r⟩
  | .ifc _ x, _, _, r0, r => by
    simp only [AV.R] at r0 r ⊢
    obtain ⟨vs0, e0, _⟩ := r0
    obtain ⟨vs, e, r⟩ := r; exact ⟨vs, supp_R f x vs0 vs e0 e, r⟩
  | .lst x nil z n g, u0, u, r0, r => by
    simp only [AV.R] at r0 r ⊢
    rcases r with r | r | ⟨h1, h2, b, off, c, cs, e, h3, h4, h5, h6⟩
    · exact .inl r
    · exact .inr (.inl r)
    · refine .inr (.inr ⟨h1, h2, b, off, c, cs, e, h3, h4, MR_zm h5, fun i hi j hj => ?_⟩)
      obtain ⟨v, q1, q2, q3⟩ := h6 i hi j hj
      rcases r0 with ⟨_, h, _⟩ | ⟨_, h, _⟩ | ⟨_, _, _, _, _, _, _, _, _, _, k6⟩
      · omega
      · omega
      · obtain ⟨v0, _, _, p3⟩ := k6 i hi j hj
        exact ⟨v, q1, q2, supp_R f _ _ _ p3 q3⟩
  | .lp z j g, u0, u, r0, r => by
    simp only [AV.R] at r0 r ⊢
    obtain ⟨b, off, cs, e, h1, h2⟩ := r
    obtain ⟨_, _, _, _, _, k2⟩ := r0
    refine ⟨b, off, cs, e, MR_zm h1, fun q hq => ?_⟩
    obtain ⟨v, q1, q2, q3⟩ := h2 q hq
    obtain ⟨v0, _, _, p3⟩ := k2 q hq
    exact ⟨v, q1, q2, supp_R f _ _ _ p3 q3⟩
  | .agg l, _, _, r0, r => by
    simp only [AV.R] at r0 r ⊢
    obtain ⟨vs0, e0, _⟩ := r0
    obtain ⟨vs, e, r⟩ := r; exact ⟨vs, supp_RL f l vs0 vs e0 e, r⟩
  | .tup l, _, _, r0, r => by
    simp only [AV.R] at r0 r ⊢
    obtain ⟨vs0, e0, _⟩ := r0
    obtain ⟨vs, e, r⟩ := r; exact ⟨vs, supp_RL f l vs0 vs e0 e, r⟩
theorem supp_RL {Me M' : Mp} (f : FreshA Me x0) : ∀ (l : List AV) (us0 us : List Value), AV.RL Me l us0 → AV.RL M' l us → AV.RL (MR x0 ρ M' C) l us
  | [], _, _, _, r => r
  | a :: l, _, _, r0, r => by
    simp only [AV.RL] at r0 r ⊢
    obtain ⟨v0, vs0, p1, p2, _⟩ := r0
    obtain ⟨v, vs', r1, r2, r3⟩ := r
    exact ⟨v, vs', supp_R f a v0 v p1 r1, supp_RL f l vs0 vs' p2 r2, r3⟩
end
theorem supp_EL {Me M' : Mp} (f : FreshA Me x0) : ∀ (l : List (AV × AV × Nat)) (us0 us : List MapEntry), EL Me l us0 → EL M' l us → EL (MR x0 ρ M' C) l us
  | [], _, _, _, r => r
  | _ :: es, _, _, ⟨_, _, _, p1, p2, p3, _⟩, ⟨k, v, l', r1, r2, r3, r4⟩ => ⟨k, v, l', supp_R f _ _ _ p1 r1, supp_R f _ _ _ p2 r2, supp_EL f es _ _ p3 r3, r4⟩
theorem supp_O {Me M' : Mp} (f : FreshA Me x0) : ∀ (a : AO) {κ0 : Nat} {ob0 : Obj} {κ : Nat} {ob : Obj}, (a.Vac ∨ ObR Me κ0 a ob0) → ObR M' κ a ob → ObR (MR x0 ρ M' C) κ a ob
  | .cells c _ _, _, _, _, _, h0, ⟨vs, rest, r, q⟩ => by
    rcases h0 with h0 | ⟨vs0, rest0, r0, _⟩
    · exact absurd h0 (by simp [AO.Vac])
    · exact ⟨vs, rest, supp_RL f c vs0 vs r0 r, q⟩
  | .map es _, _, _, _, _, h0, ⟨l, r, q⟩ => by
    rcases h0 with h0 | ⟨l0, r0, _⟩
    · exact absurd h0 (by simp [AO.Vac])
    · exact ⟨l, supp_EL f es l0 l r0 r, q⟩
  | .loop _ _ tm _ _ _ _ D, _, _, _, _, h0, ⟨fn, tmps, b, c, r, t, q⟩ => by
    rcases h0 with h0 | ⟨fn0, tmps0, b0, c0, r0, t0, _⟩
    · exact absurd h0 (by simp [AO.Vac])
    · exact ⟨fn, tmps, b, c, by rw [MR_lt (f.lt r0)]; exact r, fun n => supp_R f _ _ _ (t0 n) (t n), q⟩
  | .dfr _, _, _, _, _, _, r => r
  | .sit _ _, _, _, _, _, _, r => r
  | .mapy _ _ _ _, _, _, _, _, _, r => r
  | .arr true _ z n g, _, _, _, _, h0, ⟨cs, e, fr, r, q⟩ => ⟨cs, e, fr, r, fun i hi j hj => by
    obtain ⟨v, h1, h2, h3⟩ := q i hi j hj
    rcases h0 with h0 | ⟨_, _, _, _, q0⟩
    · simp only [AO.Vac] at h0; omega
    · obtain ⟨v0, _, _, p3⟩ := q0 i hi j hj
      exact ⟨v, h1, h2, supp_R f _ _ _ p3 h3⟩⟩
  | .arr false _ z n g, _, _, _, _, h0, ⟨cs, r, q1, q2, q⟩ => ⟨cs, r, q1, q2, fun i hi j hj => by
    obtain ⟨v, h1, h2, h3⟩ := q i hi j hj
    rcases h0 with h0 | ⟨_, _, _, _, q0⟩
    · simp only [AO.Vac] at h0; omega
    · obtain ⟨v0, _, _, p3⟩ := q0 i hi j hj
      exact ⟨v, h1, h2, supp_R f _ _ _ p3 h3⟩⟩
theorem supp_Df {Me M' : Mp} (f : FreshA Me x0) : ∀ (l : List Nat) (ds0 ds : List Deferred), DfR Me l ds0 → DfR M' l ds → DfR (MR x0 ρ M' C) l ds
  | [], _, _, _, r => r
  | _ :: l, _, _, ⟨_, _, _, e0, p, _⟩, ⟨b, κ, ds', r1, r2, r3⟩ => ⟨b, κ, ds', by rw [MR_lt (f.lt e0)]; exact r1, supp_Df f l _ _ p r2, r3⟩
theorem supp_Rd {Me M' : Mp} (f : FreshA Me x0) {l r0 r : Option Nat} (h0 : RdR Me l r0) (h : RdR M' l r) : RdR (MR x0 ρ M' C) l r := by
  cases l with
  | none => exact h
  | some l =>
    obtain ⟨_, _, e0, _⟩ := h0
    obtain ⟨b, κ, e, r⟩ := h
    exact ⟨b, κ, by rw [MR_lt (f.lt e0)]; exact e, r⟩
end

/-! The state at the head. -/
theorem Tr.set_some {α : Type} : ∀ (f : Nat) (t : Tr α) (p : Nat) (v : Option α), 0 < p → p < 2 ^ f → ∃ t', Tr.set f t p v = some t'
  | 0, t, p, v, h1, h2 => by simp at h2; omega
  | f + 1, t, p, v, h1, h2 => by
    have hd : Nat.div p 2 = p / 2 := rfl
    have hp : p / 2 < 2 ^ f := by rw [Nat.pow_succ] at h2; omega
    by_cases e1 : p = 1
    · subst e1
      cases t <;> exact ⟨_, by rw [Tr.set_eq]; rfl⟩
    · have h3 : 0 < p / 2 := by omega
      cases t with
      | lf =>
        obtain ⟨t', ht⟩ := Tr.set_some f .lf (p / 2) v h3 hp
        simp only [Tr.set_eq, nbeq, e1, decide_false, cond_false, hd, ht]
        cases (decide (p.mod 2 = 0)) <;> exact ⟨_, rfl⟩
      | nd w l r =>
        obtain ⟨l', hl⟩ := Tr.set_some f l (p / 2) v h3 hp
        obtain ⟨r', hr⟩ := Tr.set_some f r (p / 2) v h3 hp
        simp only [Tr.set_eq, nbeq, e1, decide_false, cond_false, hd, hl, hr]
        cases (decide (p.mod 2 = 0)) <;> exact ⟨_, rfl⟩
def setQ {α : Type} (t : Tr α) (k : Nat) (v : Option α) : Tr α := match Tr.set 64 t (Nat.succ k) v with | some t' => t' | none => t
def setQs {α : Type} : Tr α → List (Nat × Option α) → Tr α
  | t, [] => t
  | t, (k, v) :: l => setQs (setQ t k v) l
theorem setQ_get {α : Type} {t : Tr α} {k : Nat} {v : Option α} (hk : k < 4294967296) (q : Nat) : (setQ t k v).get (q + 1) = if q = k then v else t.get (q + 1) := by
  obtain ⟨t', ht⟩ := Tr.set_some 64 t (Nat.succ k) v (by omega) (by have : (2 : Nat) ^ 64 = 18446744073709551616 := rfl; omega)
  unfold setQ
  rw [ht]
  simp only
  rw [Tr.get_set _ _ _ _ _ ht]
  simp
theorem setQs_ne {α : Type} : ∀ {l : List (Nat × Option α)} {t : Tr α}, (∀ p ∈ l, p.1 < 4294967296) → ∀ q, q ∉ l.map (·.1) → (setQs t l).get (q + 1) = t.get (q + 1)
  | [], t, _, q, _ => rfl
  | (k, v) :: l, t, h, q, hq => by
    simp only [List.map_cons, List.mem_cons, not_or] at hq
    simp only [setQs]
    rw [setQs_ne (fun p hp => h p (by simp [hp])) q hq.2, setQ_get (h (k, v) (by simp)) q, if_neg hq.1]
theorem setQs_eq {α : Type} : ∀ {l : List (Nat × Option α)} {t : Tr α}, (∀ p ∈ l, p.1 < 4294967296) → (l.map (·.1)).Nodup → ∀ q v, (q, v) ∈ l → (setQs t l).get (q + 1) = v
  | [], t, _, _, q, v, hm => by simp at hm
  | (k, w) :: l, t, h, hn, q, v, hm => by
    simp only [List.map_cons, List.nodup_cons] at hn
    simp only [setQs]
    rcases List.mem_cons.1 hm with hm | hm
    · simp only [Prod.mk.injEq] at hm
      obtain ⟨rfl, rfl⟩ := hm
      rw [setQs_ne (fun p hp => h p (by simp [hp])) q hn.1, setQ_get (h (q, v) (by simp)) q, if_pos rfl]
    · exact setQs_eq (fun p hp => h p (by simp [hp])) hn.2 q v hm
theorem setQs_map {α : Type} {g : Nat → Option α} : ∀ {W : List Nat} {t : Tr α}, (∀ p ∈ W, p < 4294967296) → ∀ q, q ∈ W → (setQs t (W.map fun t => (t, g t))).get (q + 1) = g q
  | [], t, _, q, hq => by simp at hq
  | k :: W, t, h, q, hq => by
    simp only [List.map_cons, setQs]
    by_cases hw : q ∈ W
    · exact setQs_map (fun p hp => h p (by simp [hp])) q hw
    · have hk : q = k := by simpa [hw] using hq
      subst hk
      rw [setQs_ne (fun p hp => by obtain ⟨x, hx, rfl⟩ := List.mem_map.1 hp; exact h x (by simp [hx])) q (by simpa using hw), setQ_get (h q (by simp)) q, if_pos rfl]

/-- What is said of a loop: the temporaries and the blocks that its rounds turn, with what they hold at the head of a round; new blocks; blocks that are given up. -/
structure LoopA where
  ι : Type
  tms : List Nat
  tmU : ι → List AV
  ids : List Nat
  hpU : ι → List AO
  del : List Nat
  ex : Nat
  pre : ι → Prop
  ms : ι → Nat
def tlA (A : LoopA) (i : A.ι) : List (Nat × AV) := A.tms.zip (A.tmU i)
def hlA (A : LoopA) (i : A.ι) : List (Nat × AO) := A.ids.zip (A.hpU i)
def headS (s : St) (W : List Nat) (A : LoopA) (g : Nat → AV) (i : A.ι) : St :=
  { s with
    tm := setQs (setQs s.tm (W.map fun t => (t, some (g t)))) ((tlA A i).map fun p => (p.1, some p.2))
    h := ⟨setQs (setQs s.h.t (A.del.map fun d => (d, none))) ((hlA A i).map fun p => (p.1, some p.2)), s.h.nx + A.ex, s.h.nx, []⟩ }
def allLt (n : Nat) : List Nat → Bool
  | [] => true
  | x :: l => bif Nat.blt x n then allLt n l else false
def nodupB : List Nat → Bool
  | [] => true
  | x :: l => bif memN x l then false else nodupB l
def apartB (a : List Nat) : List Nat → Bool
  | [] => true
  | x :: l => bif memN x a then false else apartB a l
def subB (a : List Nat) : List Nat → Bool
  | [] => true
  | x :: l => bif memN x a then subB a l else false
theorem subB_ok {a : List Nat} : ∀ {l : List Nat}, subB a l = true → ∀ x ∈ l, x ∈ a
  | [], _, x, hx => by simp at hx
  | y :: l, h, x, hx => by
    simp only [subB, Bool.cond_eq_ite] at h
    split at h
    · rename_i hm
      rcases List.mem_cons.1 hx with rfl | hx
      · exact memN_iff.1 hm
      · exact subB_ok h x hx
    · cases h
def okA (s : St) (W : List Nat) (A : LoopA) : Bool :=
  allLt 4294967296 W && allLt 4294967296 A.tms && allLt 4294967296 A.ids && allLt 4294967296 A.del && nodupB A.tms && nodupB A.ids && apartB A.del A.ids && allLt (s.h.nx + A.ex) A.ids
theorem allLt_ok {n : Nat} : ∀ {l : List Nat}, allLt n l = true → ∀ x ∈ l, x < n
  | [], _, x, hx => by simp at hx
  | y :: l, h, x, hx => by
    simp only [allLt, nblt, Bool.cond_decide] at h
    split at h
    · rcases List.mem_cons.1 hx with rfl | hx
      · assumption
      · exact allLt_ok h x hx
    · cases h
theorem nodupB_ok : ∀ {l : List Nat}, nodupB l = true → l.Nodup
  | [], _ => List.nodup_nil
  | y :: l, h => by
    simp only [nodupB, Bool.cond_eq_ite] at h
    split at h
    · cases h
    · rename_i hm
      exact List.nodup_cons.2 ⟨fun e => hm (memN_iff.2 e), nodupB_ok h⟩
theorem apartB_ok {a : List Nat} : ∀ {l : List Nat}, apartB a l = true → ∀ x ∈ l, x ∉ a
  | [], _, x, hx => by simp at hx
  | y :: l, h, x, hx => by
    simp only [apartB, Bool.cond_eq_ite] at h
    split at h
    · cases h
    · rename_i hm
      rcases List.mem_cons.1 hx with rfl | hx
      · exact fun e => hm (memN_iff.2 e)
      · exact apartB_ok h x hx
theorem zip_fst {α : Type} : ∀ (l : List Nat) (k : List α), ∃ n, (l.zip k).map (·.1) = l.take n
  | [], k => ⟨0, by simp⟩
  | x :: l, [] => ⟨0, by simp⟩
  | x :: l, y :: k => by
    obtain ⟨n, h⟩ := zip_fst l k
    exact ⟨n + 1, by simp [h]⟩
theorem zip_mem {α : Type} {l : List Nat} {k : List α} {x : Nat} {v : α} (h : (x, v) ∈ l.zip k) : x ∈ l := (List.of_mem_zip h).1

section
variable {s : St} {W : List Nat} {A : LoopA}
theorem head_tm {g : Nat → AV} {i : A.ι} (ok : okA s W A = true) (t : Nat) :
    (∃ v, (t, v) ∈ tlA A i ∧ (headS s W A g i).tm.get (t + 1) = some v) ∨ (t ∈ W ∧ (headS s W A g i).tm.get (t + 1) = some (g t)) ∨ (t ∉ W ∧ (∀ v, (t, v) ∉ tlA A i) ∧ (headS s W A g i).tm.get (t + 1) = s.tm.get (t + 1)) := by
  simp only [okA, Bool.and_eq_true] at ok
  obtain ⟨⟨⟨⟨⟨⟨⟨o1, o2⟩, o3⟩, o4⟩, o5⟩, o6⟩, o7⟩, o8⟩ := ok
  have hl : ∀ p ∈ (tlA A i).map (fun p => (p.1, some p.2)), p.1 < 4294967296 := fun p hp => by
    obtain ⟨q, hq, rfl⟩ := List.mem_map.1 hp
    exact allLt_ok o2 _ (zip_mem (v := q.2) hq)
  have hw : ∀ p ∈ W.map (fun t => (t, some (g t))), p.1 < 4294967296 := fun p hp => by
    obtain ⟨q, hq, rfl⟩ := List.mem_map.1 hp
    exact allLt_ok o1 _ hq
  have hfst : ((tlA A i).map (fun p => (p.1, some p.2))).map (·.1) = (tlA A i).map (·.1) := by simp [List.map_map, Function.comp_def]
  have hnd : (((tlA A i).map (fun p => (p.1, some p.2))).map (·.1)).Nodup := by
    rw [hfst]
    obtain ⟨n, hn⟩ := zip_fst A.tms (A.tmU i)
    unfold tlA
    rw [hn]
    exact (nodupB_ok o5).sublist (List.take_sublist n _)
  by_cases ht : t ∈ (tlA A i).map (·.1)
  · obtain ⟨⟨t', v⟩, hq, rfl⟩ := List.mem_map.1 ht
    exact .inl ⟨v, hq, setQs_eq hl hnd _ _ (List.mem_map.2 ⟨(t', v), hq, rfl⟩)⟩
  · right
    have e : (headS s W A g i).tm.get (t + 1) = (setQs s.tm (W.map fun t => (t, some (g t)))).get (t + 1) := setQs_ne hl t (by rw [hfst]; exact ht)
    rw [e]
    by_cases hW : t ∈ W
    · exact .inl ⟨hW, setQs_map (g := fun t => some (g t)) (allLt_ok o1) t hW⟩
    · exact .inr ⟨hW, fun v hv => ht (List.mem_map.2 ⟨(t, v), hv, rfl⟩), setQs_ne hw t (by simpa using hW)⟩
theorem head_get {g : Nat → AV} {i : A.ι} (ok : okA s W A = true) (id : Nat) :
    (∃ c, (id, c) ∈ hlA A i ∧ (headS s W A g i).h.get id = some c) ∨ ((∀ c, (id, c) ∉ hlA A i) ∧ id ∈ A.del ∧ (headS s W A g i).h.get id = none) ∨ ((∀ c, (id, c) ∉ hlA A i) ∧ id ∉ A.del ∧ (headS s W A g i).h.get id = s.h.get id) := by
  simp only [okA, Bool.and_eq_true] at ok
  obtain ⟨⟨⟨⟨⟨⟨⟨o1, o2⟩, o3⟩, o4⟩, o5⟩, o6⟩, o7⟩, o8⟩ := ok
  have hl : ∀ p ∈ (hlA A i).map (fun p => (p.1, some p.2)), p.1 < 4294967296 := fun p hp => by
    obtain ⟨q, hq, rfl⟩ := List.mem_map.1 hp
    exact allLt_ok o3 _ (zip_mem (v := q.2) hq)
  have hw : ∀ p ∈ A.del.map (fun d => ((d, none) : Nat × Option AO)), p.1 < 4294967296 := fun p hp => by
    obtain ⟨q, hq, rfl⟩ := List.mem_map.1 hp
    exact allLt_ok o4 _ hq
  have hfst : ((hlA A i).map (fun p => (p.1, some p.2))).map (·.1) = (hlA A i).map (·.1) := by simp [List.map_map, Function.comp_def]
  have hnd : (((hlA A i).map (fun p => (p.1, some p.2))).map (·.1)).Nodup := by
    rw [hfst]
    obtain ⟨n, hn⟩ := zip_fst A.ids (A.hpU i)
    unfold hlA
    rw [hn]
    exact (nodupB_ok o6).sublist (List.take_sublist n _)
  by_cases ht : id ∈ (hlA A i).map (·.1)
  · obtain ⟨⟨t', v⟩, hq, rfl⟩ := List.mem_map.1 ht
    exact .inl ⟨v, hq, setQs_eq hl hnd _ _ (List.mem_map.2 ⟨(t', v), hq, rfl⟩)⟩
  · right
    have hno : ∀ c, (id, c) ∉ hlA A i := fun c hc => ht (List.mem_map.2 ⟨(id, c), hc, rfl⟩)
    have e : (headS s W A g i).h.get id = (setQs s.h.t (A.del.map fun d => ((d, none) : Nat × Option AO))).get (id + 1) := setQs_ne hl id (by rw [hfst]; exact ht)
    rw [e]
    by_cases hW : id ∈ A.del
    · exact .inl ⟨hno, hW, setQs_map (g := fun _ => (none : Option AO)) (allLt_ok o4) id hW⟩
    · exact .inr ⟨hno, hW, setQs_ne hw id (by simpa using hW)⟩
end
end Go.Proofs.YtiikiphkhfmlcaaGreatDoor.Ex
