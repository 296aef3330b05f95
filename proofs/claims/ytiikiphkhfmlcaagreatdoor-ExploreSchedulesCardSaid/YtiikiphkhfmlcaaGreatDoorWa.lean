/- Walks by symbols: what a piece of code makes of an abstract state, said by conditions; loops by what holds at their head. -/
import Derived.Test.YtiikiphkhfmlcaaGreatDoorExT
noncomputable section
namespace Go.Proofs.YtiikiphkhfmlcaaGreatDoor.Ex
open Go

/-- The blocks of memory that a heap may change; those that nobody writes any more. -/
structure OZ where
  own : Nat → Prop
  z : Nat → Option (Array Value)
instance : CoeFun OZ (fun _ => Nat → Prop) := ⟨OZ.own⟩
def OwnP (M : Mp) (h : AH) : OZ := ⟨fun b => ∃ i κ o, h.get i = some o ∧ o.ro = false ∧ M i = some (b, κ), M.z⟩
structure FrO (O : OZ) (w : World) (O' : OZ) (w' : World) : Prop where
  os : w'.os = w.os
  tape : w'.tape = w.tape
  output : w'.output = w.output
  size : w.heap.size ≤ w'.heap.size
  keep : ∀ k, k < w.heap.size → ¬ O k → w'.heap[k]? = w.heap[k]?
  own : ∀ k, O' k → O k ∨ w.heap.size ≤ k
  zm : ∀ b cs, O.z b = some cs → O'.z b = some cs
  zx : ∀ b cs, O'.z b = some cs → O.z b = some cs ∨ O b ∨ w.heap.size ≤ b
/-- Fewer blocks may be changed: of the others, some are frozen. -/
structure Wid (A' A : OZ) : Prop where
  own : ∀ b, A b → A' b
  zm : ∀ b cs, A'.z b = some cs → A.z b = some cs
  zx : ∀ b cs, A.z b = some cs → A'.z b = some cs ∨ A' b
theorem Wid.refl (A : OZ) : Wid A A := ⟨fun _ h => h, fun _ _ h => h, fun _ _ h => .inl h⟩
theorem FrO.refl (O : OZ) (w : World) : FrO O w O w := ⟨rfl, rfl, rfl, Nat.le_refl _, fun _ _ _ => rfl, fun _ h => .inl h, fun _ _ h => h, fun _ _ h => .inl h⟩
theorem FrO.trans {A B C : OZ} {u v w : World} (h : FrO A u B v) (k : FrO B v C w) : FrO A u C w :=
  ⟨k.os.trans h.os, k.tape.trans h.tape, k.output.trans h.output, Nat.le_trans h.size k.size, fun i hi hn => by
    rw [k.keep i (Nat.lt_of_lt_of_le hi h.size) (fun hb => by
      rcases h.own i hb with q | q
      · exact hn q
      · omega), h.keep i hi hn], fun i hi => by
    rcases k.own i hi with q | q
    · exact h.own i q
    · exact .inr (Nat.le_trans h.size q), fun b cs e => k.zm b cs (h.zm b cs e), fun b cs e => by
    rcases k.zx b cs e with q | q | q
    · exact h.zx b cs q
    · exact .inr (h.own b q)
    · exact .inr (.inr (Nat.le_trans h.size q))⟩
theorem FrO.more {A A' B : OZ} {u v : World} (h : FrO A u B v) (k : Wid A' A) : FrO A' u B v := ⟨h.os, h.tape, h.output, h.size, fun i hi hn => h.keep i hi (fun q => hn (k.own i q)), fun i hi => (h.own i hi).imp (k.own i) id, fun b cs e => h.zm b cs (k.zm b cs e), fun b cs e => by
    rcases h.zx b cs e with q | q | q
    · exact (k.zx b cs q).imp id .inl
    · exact .inr (.inl (k.own b q))
    · exact .inr (.inr q)⟩
theorem Fr.frO {h h' : AH} {M M' : Mp} {w w' : World} (f : Fr h h' M M' w w') : FrO (OwnP M h) w (OwnP M' h') w' :=
  ⟨f.os, f.tape, f.output, f.size, fun k hk hn => f.keep k hk (fun id κ o h1 h2 h3 => hn ⟨id, κ, o, h1, h2, h3⟩), fun k ⟨i, κ, o, h1, h2, h3⟩ => by
    rcases f.range i k κ o h1 h3 with q | ⟨j, κ', o', q1, q2, q3⟩
    · exact .inr q
    · exact .inl ⟨j, κ', o', q1, q3 h2, q2⟩, f.ext.z, fun b cs e => by
    rcases f.zx b cs e with q | q | q
    · exact .inl q
    · exact .inr (.inr q)
    · exact .inr (.inl q)⟩
def FreshA (M : Mp) (n : Nat) : Prop := ∀ id, n ≤ id → M id = none
theorem FreshA.fresh {M : Mp} {h h' : AH} (f : FreshA M h.nx) : Fresh M h h' := fun id h1 _ => f id h1
theorem FreshA.next {M M' : Mp} {h h' : AH} {w w' : World} (f : FreshA M h.nx) (a : h.nx ≤ h'.nx) (k : Fr h h' M M' w w') : FreshA M' h'.nx := fun id hi => by
  by_cases e : M' id = M id
  · rw [e]; exact f id (by omega)
  · have := k.only id e; omega

section
variable (P : Program)

/-- What a piece of code makes of a state; the first 'n0' blocks go by the numbers by which they went. -/
def TriB (c : Code) (n0 : Nat) (s : St) (K : AX → St → Prop) : Prop := ∀ (M : Mp) (a : Act) (w : World) (r : Option Nat) (Q : Exit → Act → World → Prop), StR M s a w → RdR M s.rd r → FreshA M s.h.nx →
  (∀ x s' M' a' w', K x s' → StR M' s' a' w' → RdR M' s'.rd r → FreshA M' s'.h.nx → FrO (OwnP M s.h) w (OwnP M' s'.h) w' → (n0 ≤ s'.h.nx ∧ ∀ id, id < n0 → M' id = M id) → Q (exitOf x) a' w') → c.wpIn (FW r) 0 P Q a w
def TriC (c : Code) (s : St) (K : AX → St → Prop) : Prop := TriB P c s.h.nx s K
end
section
variable {P : Program}

theorem TriC.mono {c : Code} {s : St} {K K' : AX → St → Prop} (h : TriC P c s K) (k : ∀ x s', K x s' → K' x s') : TriC P c s K' :=
  fun M a w r Q h1 h2 h3 h4 => h M a w r Q h1 h2 h3 fun x s' M' a' w' hk => h4 x s' M' a' w' (k x s' hk)
theorem tri_exec (hm : P.follows .mixedOrders = true) {sm : FuncId → Option Sm} (hs : SmOK P sm) {n : Nat} {c : Code} {s s' : St} {x : AX} {K : AX → St → Prop} (h : exec P sm n c s = some (x, s')) (k : K x s') : TriC P c s K := by
  intro M a w r Q st rd fr q
  obtain ⟨⟨g1, ga⟩, g2, g3, g4⟩ := (exec_good hm hs n).code _ _ _ _ h
  exact g4 M a w r Q st rd fr.fresh fun M' a' w' st' f' _ => q x s' M' a' w' k st' (by rw [g3]; exact rd.mono f'.ext) (fr.next g1 f') f'.frO ⟨g1, fun id hid => by
    rcases Classical.em (M' id = M id) with e | e
    · exact e
    · have := f'.only id e; omega⟩
theorem tri_execT (hm : P.follows .mixedOrders = true) {sm : FuncId → Option Sm} (hs : SmOK P sm) {n : Nat} {c : Code} {s : St} {K : AX → St → Prop} (h : (execT P sm n c s).all fun p => K p.1 p.2) : TriC P c s K := by
  obtain ⟨⟨x, s'⟩, h1, h2⟩ := T.all_sel h
  rw [execT_sel] at h1
  exact tri_exec hm hs h1 h2
theorem tri_seq {a b : Code} {s : St} {K : AX → St → Prop} (h : TriC P a s fun x s' => match x with | .nm => TriC P b s' K | _ => K x s') : TriC P (.seq a b) s K := by
  intro M act w r Q st rd fr q
  refine wpIn_seq (h M act w r _ st rd fr fun x s' M' a' w' hk st' rd' fr' f' k' => ?_)
  cases x with
  | nm => exact hk M' a' w' r Q st' rd' fr' fun x s2 M2 a2 w2 hk2 st2 rd2 fr2 f2 k2 => q x s2 M2 a2 w2 hk2 st2 rd2 fr2 (f'.trans f2) ⟨Nat.le_trans k'.1 k2.1, fun id hid => (k2.2 id (Nat.lt_of_lt_of_le hid k'.1)).trans (k'.2 id hid)⟩
  | ex id => exact q _ s' M' a' w' hk st' rd' fr' f' k'
  | rt => exact q _ s' M' a' w' hk st' rd' fr' f' k'
theorem tri_block {id : Nat} {c : Code} {s : St} {K : AX → St → Prop} (h : TriC P c s fun x s' => match x with | .ex j => bif Nat.beq j id then K .nm s' else K x s' | _ => K x s') : TriC P (.block id c) s K := by
  intro M act w r Q st rd fr q
  refine wpIn_block (h M act w r _ st rd fr fun x s' M' a' w' hk st' rd' fr' f' k' => ?_)
  cases x with
  | nm => exact q _ s' M' a' w' hk st' rd' fr' f' k'
  | rt => exact q _ s' M' a' w' hk st' rd' fr' f' k'
  | ex j =>
    simp only [nbeq, Bool.cond_decide] at hk
    by_cases hj : j = id
    · simp only [hj, if_true] at hk
      simp only [exitOf, Exit.inBlock, hj, if_true]
      exact q .nm s' M' a' w' hk st' rd' fr' f' k'
    · simp only [hj, if_false] at hk
      simp only [exitOf, Exit.inBlock, hj, if_false]
      exact q (.ex j) s' M' a' w' hk st' rd' fr' f' k'
theorem tri_scope {c : Code} {s : St} {K : AX → St → Prop} (h : TriC P c s K) : TriC P (.scope c) s K := by
  intro M act w r Q st rd fr q
  refine wpIn_scope (h M act w r _ st rd fr fun x s' M' a' w' hk st' rd' fr' f' k' => ?_)
  have := q x s' M' a' w' hk st' rd' fr' f' k'
  cases x <;> exact this
theorem tri_cond {c : Operand} {t e : Code} {b : Bool} {s : St} {K : AX → St → Prop} (hc : evT s.tm c = .b b ∨ evT s.tm c = .yb b) (h1 : b = true → TriC P t s K) (h2 : b = false → TriC P e s K) : TriC P (.cond c t e) s K := by
  intro M act w r Q st rd fr q
  have hv : act.eval c = .bool b := by
    have := ev_ok st.tm c
    rcases hc with hc | hc <;> (rw [hc] at this; simpa only [AV.R] using this)
  cases b with
  | true => exact wpIn_cond_true hv (h1 rfl M act w r Q st rd fr q)
  | false => exact wpIn_cond_false hv (h2 rfl M act w r Q st rd fr q)
theorem roundsIn_mono {F : Fence} {k : Nat} {c : Code} {Q : Exit → Act → World → Prop} : ∀ {m n : Nat} {a : Act} {w : World}, m ≤ n → Code.roundsIn F k P c Q m a w → Code.roundsIn F k P c Q n a w
  | 0, _, _, _, _, h => h.elim
  | m + 1, 0, _, _, hle, _ => by omega
  | m + 1, n + 1, a, w, hle, h => by
    rw [roundsIn_succ] at h ⊢
    refine Go.wpIn_mono h fun e a w q => ?_
    cases e with
    | normal => exact roundsIn_mono (by omega) q
    | _ => exact q
def SubE (n0 : Nat) (s : St) (J : St → Prop) : Prop := ∀ (M : Mp) (a : Act) (w : World), StR M s a w → FreshA M s.h.nx → ∃ s1 M1, J s1 ∧ StR M1 s1 a w ∧ FreshA M1 s1.h.nx ∧ (∀ r, RdR M s.rd r → RdR M1 s1.rd r) ∧ Wid (OwnP M s.h) (OwnP M1 s1.h) ∧ ∀ id, id < n0 → M1 id = M id
/-- A loop: what holds at its head, and how far it is from its end. -/
theorem tri_loop {c : Code} {K : AX → St → Prop} (n0 : Nat) (I : Nat → St → Prop) (hn : ∀ n s, I n s → n0 ≤ s.h.nx) (hb : ∀ n s, I n s → TriC P c s fun x s' => match x with | .nm => ∃ m, m < n ∧ SubE n0 s' (I m) | _ => K x s') : ∀ n s, I n s → TriB P (.loop c) n0 s K := by
  intro n s hi M act w r Q st rd fr q
  refine wpIn_loop_rounds (n + 1) ?_
  induction n using Nat.strongRecOn generalizing s M act w with
  | _ n ih =>
    rw [roundsIn_succ]
    refine hb n s hi M act w r _ st rd fr fun x s' M' a' w' hk st' rd' fr' f' k' => ?_
    have h0 := hn n s hi
    have k0 : n0 ≤ s'.h.nx ∧ ∀ id, id < n0 → M' id = M id := ⟨Nat.le_trans h0 k'.1, fun id hid => k'.2 id (Nat.lt_of_lt_of_le hid h0)⟩
    cases x with
    | nm =>
      obtain ⟨m, hmn, hsub⟩ := hk
      obtain ⟨s1, M1, hi1, q1, q2, q3, q4, q5⟩ := hsub M' a' w' st' fr'
      have := ih m hmn s1 hi1 M1 a' w' q1 (q3 r rd') q2 (fun x s2 M2 a2 w2 hk2 st2 rd2 fr2 f2 k2 => q x s2 M2 a2 w2 hk2 st2 rd2 fr2 (f'.trans (f2.more q4)) ⟨k2.1, fun id hid => (k2.2 id hid).trans ((q5 id hid).trans (k0.2 id hid))⟩)
      exact roundsIn_mono (by omega) this
    | ex id => exact q _ s' M' a' w' hk st' rd' fr' f' k0
    | rt => exact q _ s' M' a' w' hk st' rd' fr' f' k0
end
end Go.Proofs.YtiikiphkhfmlcaaGreatDoor.Ex
