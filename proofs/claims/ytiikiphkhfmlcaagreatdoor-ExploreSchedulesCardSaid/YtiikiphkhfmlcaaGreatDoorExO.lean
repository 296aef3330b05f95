/- The abstract machine: a region that draws its order comes to the same in every order. -/
import Derived.Test.YtiikiphkhfmlcaaGreatDoorExN
noncomputable section
namespace Go.Proofs.YtiikiphkhfmlcaaGreatDoor.Ex
open Go

def cur {β : Type} (D T : Nat → Bool) (val : Nat → β) : Nat → β
  | 0 => val 0
  | n + 1 => bif D n && T n then val (n + 1) else cur D T val n
theorem cur_lo {β : Type} {D T : Nat → Bool} {val : Nat → β} : ∀ (i : Nat), (∀ k, k < i → T k = true → D k = true) → (∀ k, k < i → T k = false → val (k + 1) = val k) → cur D T val i = val i
  | 0, _, _ => rfl
  | i + 1, h1, h2 => by
    simp only [cur]
    cases ht : T i with
    | true => simp [h1 i (by omega) ht]
    | false =>
      simp only [Bool.and_false, cond_false]
      rw [cur_lo i (fun k hk => h1 k (by omega)) (fun k hk => h2 k (by omega)), h2 i (by omega) ht]
theorem cur_view {β : Type} {D T : Nat → Bool} {val : Nat → β} {i : Nat} (h1 : ∀ k, k < i → T k = true → D k = true) : ∀ (n : Nat), i ≤ n → (∀ k, i ≤ k → k < n → T k = true → D k = false) →
    (∀ k, k < n → T k = false → val (k + 1) = val k) → cur D T val n = val i
  | 0, hi, _, _ => by obtain rfl : i = 0 := by omega
                      rfl
  | n + 1, hi, h2, h3 => by
    by_cases e : i = n + 1
    · subst e; exact cur_lo _ h1 h3
    · simp only [cur]
      have : (D n && T n) = false := by
        cases ht : T n with
        | true => simp [h2 n (by omega) (by omega) ht]
        | false => simp
      rw [this, cond_false]
      exact cur_view h1 n (by omega) (fun k hk1 hk2 => h2 k hk1 (by omega)) (fun k hk => h3 k (by omega))
theorem cur_off {β : Type} {D D' T : Nat → Bool} {val : Nat → β} {i : Nat} (hD : ∀ k, k ≠ i → D' k = D k) (ht : T i = false) : ∀ n, cur D' T val n = cur D T val n
  | 0 => rfl
  | n + 1 => by
    simp only [cur, cur_off hD ht n]
    by_cases e : n = i
    · subst e; simp [ht]
    · rw [hD n e]
theorem cur_on {β : Type} {D D' T : Nat → Bool} {val : Nat → β} {i : Nat} (hD : ∀ k, k ≠ i → D' k = D k) (hi : D' i = true) (ht : T i = true) : ∀ n, i < n → (∀ k, i < k → k < n → T k = true → D k = false) → cur D' T val n = val (i + 1)
  | 0, h, _ => by omega
  | n + 1, h, h2 => by
    simp only [cur]
    by_cases e : n = i
    · subst e; simp [hi, ht]
    · rw [hD n e]
      have : (D n && T n) = false := by
        cases htn : T n with
        | true => simp [h2 n (by omega) (by omega) htn]
        | false => simp
      rw [this, cond_false]
      exact cur_on hD hi ht n (by omega) (fun k hk1 hk2 => h2 k hk1 (by omega))

theorem countP_dec {p q : Nat → Bool} : ∀ {l : List Nat}, (∀ x ∈ l, q x = true → p x = true) → (∃ x ∈ l, p x = true ∧ q x = false) → l.countP q < l.countP p
  | [], _, ⟨x, hx, _⟩ => by cases hx
  | y :: l, h, ⟨x, hx, hp, hq⟩ => by
    have hle : l.countP q ≤ l.countP p := List.countP_mono_left (fun z hz => h z (by simp [hz]))
    rw [List.countP_cons, List.countP_cons]
    rcases List.mem_cons.1 hx with rfl | hx
    · simp [hp, hq]; omega
    · have := countP_dec (fun z hz => h z (by simp [hz])) ⟨x, hx, hp, hq⟩
      by_cases hy : q y = true
      · simp [hy, h y (by simp) hy]; omega
      · simp [hy]; omega

section
variable {P : Program} {rec : Rc}

theorem predsA_ok {i : Nat} {recs : List DR} : ∀ {es : List Edge} {m : Nat}, predsA i recs es = some m →
    (∀ e ∈ es, Region.binds .any e = true → ∃ r ∈ recs, r.i = e.on ∧ Nat.testBit m e.on = true ∧ ∀ k, Nat.testBit r.pm k = true → Nat.testBit m k = true) ∧
    (∀ k, Nat.testBit m k = true → ∃ e ∈ es, Region.binds .any e = true ∧ (e.on = k ∨ ∃ r ∈ recs, r.i = e.on ∧ Nat.testBit r.pm k = true))
  | [], m, h => by
    simp only [predsA, Option.some.injEq] at h; subst h
    exact ⟨by simp, fun k hk => by simp at hk⟩
  | e :: es, m, h => by
    simp only [predsA] at h
    split at h
    · rename_i m0 hm0
      obtain ⟨i1, i2⟩ := predsA_ok hm0
      cases hb : Region.binds .any e with
      | false =>
        rw [hb, cond_false, Option.some.injEq] at h; subst h
        refine ⟨fun e' he' hb' => ?_, fun k hk => ?_⟩
        · rcases List.mem_cons.1 he' with rfl | he'
          · rw [hb] at hb'; cases hb'
          · exact i1 e' he' hb'
        · obtain ⟨e', he', q⟩ := i2 k hk
          exact ⟨e', by simp [he'], q⟩
      | true =>
        rw [hb, cond_true] at h
        split at h
        · rename_i r hr
          simp only [Option.some.injEq] at h; subst h
          have hri : r.i = e.on := by have := List.find?_some hr; simpa [nbeq] using this
          have hrm := List.mem_of_find?_eq_some hr
          have tb : ∀ k, Nat.testBit (Nat.lor m0 (Nat.lor (Nat.shiftLeft 1 e.on) r.pm)) k = (Nat.testBit m0 k || (decide (e.on = k) || Nat.testBit r.pm k)) := fun k => by
            show Nat.testBit (m0 ||| ((1 <<< e.on) ||| r.pm)) k = _
            rw [Nat.testBit_or, Nat.testBit_or, Nat.testBit_shiftLeft]
            congr 2
            by_cases hk : e.on = k
            · subst hk; simp
            · by_cases h2 : k ≥ e.on
              · have : k - e.on ≠ 0 := by omega
                have t1 : ∀ m, m ≠ 0 → Nat.testBit 1 m = false := fun m hm => by
                  cases m with
                  | zero => exact absurd rfl hm
                  | succ m => rw [Nat.testBit_succ]; simp
                simp [hk, h2, t1 _ this]
              · simp [hk, h2]
          refine ⟨fun e' he' hb' => ?_, fun k hk => ?_⟩
          · rcases List.mem_cons.1 he' with rfl | he'
            · exact ⟨r, hrm, hri, by rw [tb]; simp, fun k hk => by rw [tb]; simp [hk]⟩
            · obtain ⟨r', q1, q2, q3, q4⟩ := i1 e' he' hb'
              exact ⟨r', q1, q2, by rw [tb]; simp [q3], fun k hk => by rw [tb]; simp [q4 k hk]⟩
          · rw [tb] at hk
            simp only [Bool.or_eq_true, decide_eq_true_eq] at hk
            rcases hk with hk | hk | hk
            · obtain ⟨e', he', q⟩ := i2 k hk
              exact ⟨e', by simp [he'], q⟩
            · exact ⟨e, by simp, hb, .inl hk⟩
            · exact ⟨e, by simp, hb, .inr ⟨r, hrm, hri, hk⟩⟩
        · cases h
    · cases h

/-- The digest of a step. -/
structure Dig (P : Program) (rec : Rc) (ops : Array Oper) (rr : Nat → DR) (S : Nat → St) (j : Nat) (o : Oper) (v : AV) : Prop where
  st : ∃ h1, Step P rec ops rr j (S j) (S (j + 1)) o v h1 ∧ h1 = (S (j + 1)).h
  run : (wantA ops.toList (S j).tm o = some true ∧ (∃ V V', View P rec (S j).tm o (S j).h (unA (rr j).pm (recsOf rr j)) v (S (j + 1)).h (rr j).wr (rr j).full (rr j).ld V V') ∧ noneW (S j).h.nx (rr j).wr (unA (rr j).pm (recsOf rr j)) = true) ∨
    (wantA ops.toList (S j).tm o = some false ∧ v = undefA ∧ (S (j + 1)).h = (S j).h ∧ (rr j).wr = [] ∧ (rr j).full = false ∧ (rr j).ld = none)

structure Base (rr : Nat → DR) (S : Nat → St) (j : Nat) : Prop where
  wf : WfH (S j).h
  recs : ∀ k, k < j → (rr k).hi ≤ (S j).h.nx ∧ ∀ x ∈ (rr k).wr, x < (S j).h.nx
  sz : (S j).sz = (S 0).sz
  rd : (S j).rd = (S 0).rd
  df : (S j).df = (S 0).df
  ab : Ab (S 0).h (S j).h

theorem base_ok (hG : Good P rec) {ops : Array Oper} {rr : Nat → DR} {S : Nat → St} (h0 : WfH (S 0).h) (hS : ∀ j, j < ops.size → ∃ o v h1, Step P rec ops rr j (S j) (S (j + 1)) o v h1) :
    ∀ j, j ≤ ops.size → Base rr S j ∧ (∀ k, k < j → ∃ o v, Dig P rec ops rr S k o v)
  | 0, _ => ⟨⟨h0, fun k hk => by omega, rfl, rfl, rfl, Ab.refl _⟩, fun k hk => by omega⟩
  | j + 1, hj => by
    obtain ⟨b, d⟩ := base_ok hG h0 hS j (by omega)
    obtain ⟨o, v, h1, st⟩ := hS j (by omega)
    obtain ⟨p1, p2, p3, p4⟩ := putA_same st.put
    simp only at p1 p2 p3 p4
    have hun : ∀ r ∈ unA (rr j).pm (recsOf rr j), r.hi ≤ (S j).h.nx ∧ ∀ x ∈ r.wr, x < (S j).h.nx := fun r hr => by
      obtain ⟨k, hk, rfl⟩ := recsOf_mem.1 (List.mem_filter.1 hr).1
      exact b.recs k hk
    have dig : Dig P rec ops rr S j o v ∧ Ab (S j).h (S (j + 1)).h ∧ ∀ x ∈ (rr j).wr, x < (S j).h.nx := by
      rcases st.run with ⟨r1, r2, r3⟩ | ⟨r1, r2, r3, r4, r5, r6⟩
      · obtain ⟨V, V', hv⟩ := viewRun_ok hG r2 b.wf hun r3
        rw [← p1] at hv
        exact ⟨⟨⟨h1, st, p1.symm⟩, .inl ⟨r1, ⟨V, V', hv⟩, r3⟩⟩, hv.ab, (noneW_ok r3).1⟩
      · have e : (S (j + 1)).h = (S j).h := by rw [p1, r3]
        exact ⟨⟨⟨h1, st, p1.symm⟩, .inr ⟨r1, r2, e, r4, r5, r6⟩⟩, by rw [e]; exact Ab.refl _, by rw [r4]; simp⟩
    obtain ⟨dg, ab, hwr⟩ := dig
    have hnx := ab.nx
    refine ⟨⟨ab.wf b.wf, fun k hk => ?_, by rw [p2, b.sz], by rw [p3, b.rd], by rw [p4, b.df], b.ab.trans ab⟩, fun k hk => ?_⟩
    · by_cases e : k = j
      · subst e
        refine ⟨by rw [st.hi, p1]; exact Nat.le_refl _, fun x hx => Nat.lt_of_lt_of_le (hwr x hx) hnx⟩
      · obtain ⟨q1, q2⟩ := b.recs k (by omega)
        exact ⟨Nat.le_trans q1 hnx, fun x hx => Nat.lt_of_lt_of_le (q2 x hx) hnx⟩
    · by_cases e : k = j
      · subst e; exact ⟨o, v, dg⟩
      · exact d k (by omega)

/-! Where some of the operations are done. -/
structure Inv (n : Nat) (rr : Nat → DR) (S : Nat → St) (M0 : Mp) (w0 : World) (D : Nat → Bool) (M : Mp) (a : Act) (w : World) : Prop where
  tm : ∀ t, (cur D (fun j => sameT (rr j).dst (some t)) (fun j => ((S j).tm.get (t + 1)).getD undefA) n).R M (a.tmps.getD t undef)
  sz : a.tmps.size = (S 0).sz
  df : DfR M (S 0).df a.defers
  obj : ∀ x o, cur D (fun j => inDR x (rr j)) (fun j => (S j).h.get x) n = some o → (o.Vac ∧ M x = none) ∨ ∃ b κ ob, M x = some (b, κ) ∧ w.heap[b]? = some ob ∧ ObR M κ o ob
  inj : ∀ x y b κ κ' o, cur D (fun j => inDR x (rr j)) (fun j => (S j).h.get x) n = some o → o.ro = false → cur D (fun j => inDR y (rr j)) (fun j => (S j).h.get y) n ≠ none → M x = some (b, κ) → M y = some (b, κ') → x = y
  fresh : ∀ x, M x ≠ M0 x → ∃ j, j < n ∧ D j = true ∧ (rr j).lo ≤ x ∧ x < (rr j).hi
  os : w.os = w0.os
  tape : w.tape = w0.tape
  output : w.output = w0.output
  size : w0.heap.size ≤ w.heap.size
  ext : Le M0 M
  keep : ∀ k, k < w0.heap.size → (∀ id κ o, (S 0).h.get id = some o → o.ro = false → M0 id ≠ some (k, κ)) → w.heap[k]? = w0.heap[k]?
  range : ∀ x b κ o', cur D (fun j => inDR x (rr j)) (fun j => (S j).h.get x) n = some o' → M x = some (b, κ) → w0.heap.size ≤ b ∨ ∃ i κ' o, (S 0).h.get i = some o ∧ M0 i = some (b, κ') ∧ (o'.ro = false → o.ro = false)
  closed : ∀ j, j < n → D j = true → ∀ k, Nat.testBit (rr j).pm k = true → D k = true
  gw : GW w
  gf : ∀ x b κ o, cur D (fun j => inDR x (rr j)) (fun j => (S j).h.get x) n = some o → o.ro = false → M x = some (b, κ) → GL b = none
  fz : ∀ b cs, M.z b = some cs → ∃ e fr, w.heap[b]? = some (.cells cs e fr)
  fo : ∀ x b κ o, cur D (fun j => inDR x (rr j)) (fun j => (S j).h.get x) n = some o → o.ro = false → M x = some (b, κ) → M.z b = none
  zx : ∀ b cs, M.z b = some cs → M0.z b = some cs ∨ w0.heap.size ≤ b ∨ ∃ i κ o, (S 0).h.get i = some o ∧ o.ro = false ∧ M0 i = some (b, κ)

theorem inDR_iff {x : Nat} {r : DR} : inDR x r = true ↔ (r.lo ≤ x ∧ x < r.hi) ∨ x ∈ r.wr := by
  simp only [inDR, nble, nblt, Bool.or_eq_true, Bool.and_eq_true, decide_eq_true_eq, memN_iff]
theorem sameT_iff {a : Option Tmp} {t : Tmp} : sameT a (some t) = true ↔ a = some t := by
  cases a <;> simp [sameT, nbeq]

/-- The facts of a trace. -/
structure Facts (P : Program) (rec : Rc) (ops : Array Oper) (rr : Nat → DR) (S : Nat → St) : Prop where
  base : ∀ j, j ≤ ops.size → Base rr S j
  dig : ∀ j, j < ops.size → ∃ o v, Dig P rec ops rr S j o v

section facts
variable {ops : Array Oper} {rr : Nat → DR} {S : Nat → St} (F : Facts P rec ops rr S)
include F

theorem Facts.rcd (j : Nat) (hj : j < ops.size) : (rr j).i = j ∧ (rr j).lo = (S j).h.nx ∧ (rr j).hi = (S (j + 1)).h.nx ∧ (rr j).lo ≤ (rr j).hi := by
  obtain ⟨o, v, d⟩ := F.dig j hj
  obtain ⟨h1, st, e⟩ := d.st
  have hab : (S j).h.nx ≤ (S (j + 1)).h.nx := by
    rcases d.run with ⟨_, ⟨V, V', hv⟩, _⟩ | ⟨_, _, e2, _⟩
    · exact hv.ab.nx
    · rw [e2]; exact Nat.le_refl _
  refine ⟨st.i, st.lo, by rw [st.hi, e], ?_⟩
  rw [st.lo, st.hi, e]; exact hab
theorem Facts.nx (j k : Nat) (hk : k ≤ ops.size) (h : j ≤ k) : (S j).h.nx ≤ (S k).h.nx := by
  induction k with
  | zero => obtain rfl : j = 0 := by omega
            exact Nat.le_refl _
  | succ k ih =>
    by_cases e : j = k + 1
    · rw [e]; exact Nat.le_refl _
    · have h1 := ih (by omega) (by omega)
      obtain ⟨_, h2, h3, h4⟩ := F.rcd k (by omega)
      rw [h2, h3] at h4; omega
/-- What is not touched is the same. -/
theorem Facts.heap_same (j : Nat) (hj : j < ops.size) (x : Nat) (h : inDR x (rr j) = false) : (S (j + 1)).h.get x = (S j).h.get x := by
  obtain ⟨o, v, d⟩ := F.dig j hj
  obtain ⟨_, h2, h3, _⟩ := F.rcd j hj
  have hn : ¬ (((rr j).lo ≤ x ∧ x < (rr j).hi) ∨ x ∈ (rr j).wr) := fun e => by rw [inDR_iff.2 e] at h; cases h
  rcases d.run with ⟨_, ⟨V, V', hv⟩, _⟩ | ⟨_, _, e2, _⟩
  · exact hv.old x (fun e => hn (.inr e)) (fun e => hn (.inl (by rw [h2, h3]; exact e)))
  · rw [e2]
theorem Facts.tm_same (j : Nat) (hj : j < ops.size) (t : Nat) (h : sameT (rr j).dst (some t) = false) : (S (j + 1)).tm.get (t + 1) = (S j).tm.get (t + 1) := by
  obtain ⟨o, v, d⟩ := F.dig j hj
  obtain ⟨h1, st, e⟩ := d.st
  have hd : o.dst ≠ some t := fun e => by rw [← st.dst] at e; rw [sameT_iff.2 e] at h; cases h
  have hp := st.put
  rw [putA_eq] at hp
  split at hp
  · simp only [Option.some.injEq] at hp; rw [← hp]
  · rename_i d' hdd
    simp only [nblt, Bool.cond_decide] at hp
    split at hp
    · split at hp
      · rename_i t' ht'
        simp only [Option.some.injEq] at hp
        rw [← hp]
        show t'.get (t + 1) = _
        rw [Tr.get_set _ _ _ _ _ ht', if_neg]
        intro e2
        apply hd
        rw [hdd, Nat.succ.inj e2]
      · cases hp
    · cases hp
/-- Two that are unordered are apart. -/
theorem Facts.apart {k j : Nat} (hk : k < j) (hj : j < ops.size) (hu : Nat.testBit (rr j).pm k = false) : rr k ∈ unA (rr j).pm (recsOf rr j) ∧ memT (rr k).dst (rr j).looks = false ∧ sameT (rr k).dst (rr j).dst = false ∧ memT (rr j).dst (rr k).looks = false := by
  obtain ⟨o, v, d⟩ := F.dig j hj
  obtain ⟨h1, st, e⟩ := d.st
  have hm : rr k ∈ unA (rr j).pm (recsOf rr j) := List.mem_filter.2 ⟨recsOf_mem.2 ⟨k, hk, rfl⟩, by rw [(F.rcd k (by omega)).1, hu]; rfl⟩
  have ha := st.apart _ hm
  unfold apartT at ha
  simp only [Bool.and_eq_true, Bool.not_eq_true'] at ha
  rw [← st.dst, ← st.looks] at ha
  exact ⟨hm, ha.1.1, ha.1.2, ha.2⟩
end facts
end
end Go.Proofs.YtiikiphkhfmlcaaGreatDoor.Ex
