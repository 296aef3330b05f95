/- The abstract machine, by forks: a region whose last two operations may come in either order; code that may end in several states; a function that answers the same in all. -/
import Derived.Test.YtfcbclalfpcpmaaGreatDoorExQ
namespace Go.Proofs.YtfcbclalfpcpmaaGreatDoor.Ex
open Go Go.RowKit

/-! Orders of a region. -/
def rdy (ops : Array Oper) (D : Nat → Bool) (i : Nat) : Prop := D i = false ∧ ∃ o, ops[i]? = some o ∧ ∀ e ∈ o.after, Region.binds .any e = true → D e.on = true
def dn (D : Nat → Bool) (i : Nat) : Nat → Bool := fun k => if k = i then true else D k
def Ord (ops : Array Oper) : (Nat → Bool) → List Nat → Prop
  | D, [] => ∀ i, ¬ rdy ops D i
  | D, i :: l => rdy ops D i ∧ Ord ops (dn D i) l
theorem lst_set {L : Array Bool} {i : Nat} (h : i < L.size) : lst (L.setIfInBounds i true) = dn (lst L) i := by
  funext k
  unfold lst dn
  by_cases e : k = i
  · subst e; simp [Array.getD_eq_getD_getElem?, h]
  · simp [Array.getD_eq_getD_getElem?, Array.getElem?_setIfInBounds_ne (Ne.symm e), e]
theorem rdy_iff {ops : Array Oper} {L : Array Bool} (h : L.size = ops.size) {i : Nat} : i ∈ Region.ready .any ops L ↔ rdy ops (lst L) i := by
  rw [mem_ready]
  unfold rdy
  constructor
  · rintro ⟨h1, o, h2, h3⟩
    have hi := (Array.getElem?_eq_some_iff.1 h2).1
    refine ⟨?_, o, h2, h3⟩
    unfold lst
    simpa [Array.getD_eq_getD_getElem?, h, hi] using h1
  · rintro ⟨h1, o, h2, h3⟩
    have hi := (Array.getElem?_eq_some_iff.1 h2).1
    refine ⟨?_, o, h2, h3⟩
    unfold lst at h1
    simpa [Array.getD_eq_getD_getElem?, h, hi] using h1
theorem lin_ord {ops : Array Oper} : ∀ (fuel t : Nat) (L : Array Bool), L.size = ops.size → (List.range ops.size).countP (fun k => !lst L k) ≤ fuel → Ord ops (lst L) (Region.linearise.go .any ops fuel t L [])
  | 0, t, L, hL, hc => by
    simp only [Region.linearise.go, List.reverse_nil, Ord]
    intro i ⟨h1, o, h2, _⟩
    have hi := (Array.getElem?_eq_some_iff.1 h2).1
    have := List.countP_eq_zero.1 (Nat.le_zero.1 hc) i (List.mem_range.2 hi)
    rw [h1] at this; simp at this
  | fuel + 1, t, L, hL, hc => by
    simp only [Region.linearise.go]
    change Ord ops (lst L) (match (Region.ready .any ops L)[t % (Region.ready .any ops L).length]? with
      | some i => Region.linearise.go .any ops fuel (t / (Region.ready .any ops L).length) (L.setIfInBounds i true) [i]
      | none => [].reverse)
    cases hi : (Region.ready .any ops L)[t % (Region.ready .any ops L).length]? with
    | none =>
      have hnil : Region.ready .any ops L = [] := by
        cases hr : Region.ready .any ops L with
        | nil => rfl
        | cons x xs =>
          rw [hr] at hi
          have hlt : t % (x :: xs).length < (x :: xs).length := Nat.mod_lt _ (by simp)
          simp at hi
          simp at hlt
          omega
      simp only [List.reverse_nil, Ord]
      intro i h
      rw [← rdy_iff hL, hnil] at h; cases h
    | some i =>
      simp only []
      have hm := List.mem_of_getElem? hi
      have hr := (rdy_iff hL).1 hm
      obtain ⟨h1, o, h2, h3⟩ := hr
      have hlt := (Array.getElem?_eq_some_iff.1 h2).1
      rw [linearise_go_acc, List.reverse_singleton, List.singleton_append]
      refine ⟨⟨h1, o, h2, h3⟩, ?_⟩
      rw [← lst_set (by omega)]
      refine lin_ord fuel _ _ (by simpa using hL) ?_
      have hset := lst_set (L := L) (i := i) (by omega)
      have : (List.range ops.size).countP (fun k => !lst (L.setIfInBounds i true) k) < (List.range ops.size).countP (fun k => !lst L k) := by
        refine countP_dec (fun x _ hx => ?_) ⟨i, List.mem_range.2 hlt, by simp [h1], by simp [hset, dn]⟩
        rw [hset] at hx
        unfold dn at hx
        by_cases e : x = i
        · simp [e] at hx
        · simpa [e] using hx
      omega
section
variable {P : Program}
theorem any_ord {ops : Array Oper} {F : Fence} {Q : Exit → Act → World → Prop} : ∀ (l : List Nat) (L : Array Bool) (fuel : Nat) (a : Act) (w : World), L.size = ops.size → wpAnyIn F 0 P .any ops Q fuel L a w → Ord ops (lst L) l → wpOpsIn F 0 P ops Q l a w
  | [], L, fuel, a, w, hL, h, ho => by
    have hnil : Region.ready .any ops L = [] := List.eq_nil_iff_forall_not_mem.2 fun i hm => ho i ((rdy_iff hL).1 hm)
    cases fuel with
    | zero => exact h.2
    | succ n => exact h.1 hnil
  | i :: l, L, fuel, a, w, hL, h, ho => by
    obtain ⟨h1, h2⟩ := ho
    have hm := (rdy_iff hL).2 h1
    cases fuel with
    | zero => rw [h.1] at hm; cases hm
    | succ n =>
      rw [wpOpsIn_cons]
      obtain ⟨_, o, h3, _⟩ := h1
      have hlt := (Array.getElem?_eq_some_iff.1 h3).1
      exact wpOpIn_mono (fun a w q => any_ord l _ n a w (by simpa using hL) q (by rw [lst_set (by omega)]; exact h2)) (h.2 i hm)

/-! Two operations, in either order. -/
def renO (σ : Nat → Nat) (o : Oper) : Oper := { o with after := o.after.map (fun e => { e with on := σ e.on }), guard := o.guard.map (fun p => (σ p.1, p.2)) }
def edged (n : Nat) (o : Oper) : Oper := { o with after := o.after.push ⟨n, .data⟩ }
structure Sm2 (σ : Nat → Nat) (o o' : Oper) : Prop where
  eq : o' = { o with after := o'.after, guard := o'.guard }
  guard : o'.guard = o.guard.map (fun p => (σ p.1, p.2))
/-- The same operations under other numbers, and one edge more: u behind v. -/
structure Ext (ops B : Array Oper) (σ τ : Nat → Nat) (u v : Nat) : Prop where
  st : ∀ k, σ (τ k) = k
  ts : ∀ k, τ (σ k) = k
  b : ∀ k o, ops[k]? = some o → ∃ o', B[σ k]? = some o' ∧ Sm2 σ o o' ∧ (∀ e ∈ o'.after, Region.binds .any e = true → (∃ e0 ∈ o.after, Region.binds .any e0 = true ∧ σ e0.on = e.on) ∨ (k = u ∧ e.on = σ v)) ∧
    ∀ e0 ∈ o.after, Region.binds .any e0 = true → ∃ e ∈ o'.after, Region.binds .any e = true ∧ e.on = σ e0.on
  n : ∀ k, ops[k]? = none → B[σ k]? = none
section
variable {ops B : Array Oper} {σ τ : Nat → Nat} {u v : Nat} (T : Ext ops B σ τ u v)
include T
theorem Ext.rdy {D : Nat → Bool} {k : Nat} (h : rdy ops D k) (hd : D v = true ∨ k ≠ u) : rdy B (fun m => D (τ m)) (σ k) := by
  obtain ⟨h1, o, h2, h3⟩ := h
  obtain ⟨o', q1, q2, q3, q4⟩ := T.b k o h2
  refine ⟨by show D (τ (σ k)) = false; rw [T.ts]; exact h1, o', q1, fun e he hb => ?_⟩
  show D (τ e.on) = true
  rcases q3 e he hb with ⟨e0, r1, r2, r3⟩ | ⟨r1, r2⟩
  · rw [← r3, T.ts]; exact h3 e0 r1 r2
  · rw [r2, T.ts]; exact hd.resolve_right (fun h => h r1)
theorem Ext.un {D : Nat → Bool} {m : Nat} (h : Ex.rdy B (fun m => D (τ m)) m) : Ex.rdy ops D (τ m) := by
  obtain ⟨h1, o', h2, h3⟩ := h
  refine ⟨h1, ?_⟩
  cases ho : ops[τ m]? with
  | none =>
    have := T.n _ ho
    rw [T.st, h2] at this; cases this
  | some o =>
    obtain ⟨o2, q1, q2, q3, q4⟩ := T.b _ o ho
    rw [T.st, h2] at q1
    simp only [Option.some.injEq] at q1; subst q1
    refine ⟨o, rfl, fun e he hb => ?_⟩
    obtain ⟨e', r1, r2, r3⟩ := q4 e he hb
    have := h3 e' r1 r2
    rw [r3] at this
    have this : D (τ (σ e.on)) = true := this
    rw [T.ts] at this
    exact this
theorem Ext.dn {D : Nat → Bool} {i : Nat} : (fun m => dn D i (τ m)) = Ex.dn (fun m => D (τ m)) (σ i) := by
  funext k
  unfold Ex.dn
  by_cases e : τ k = i
  · subst e; rw [if_pos rfl, if_pos (T.st k).symm]
  · rw [if_neg e, if_neg (fun h => e (by rw [h, T.ts]))]
theorem Ext.ord : ∀ {l : List Nat} {D : Nat → Bool}, D v = true → Ord ops D l → Ord B (fun m => D (τ m)) (l.map σ)
  | [], D, _, h => fun i q => h _ (T.un q)
  | i :: l, D, hd, h => ⟨T.rdy h.1 (.inl hd), by
    rw [← T.dn]
    exact Ext.ord (by unfold Ex.dn; split; rfl; exact hd) h.2⟩
theorem Ext.yield (tm : Array Value) (g : Nat) : yielded B tm (σ g) = yielded ops tm g := by
  unfold yielded
  have : (B[σ g]?).bind (·.dst) = (ops[g]?).bind (·.dst) := by
    cases ho : ops[g]? with
    | none => rw [T.n g ho]
    | some o =>
      obtain ⟨o', q1, q2, _, _⟩ := T.b g o ho
      rw [q1]
      show o'.dst = o.dst
      rw [q2.eq]
  rw [this]
theorem Ext.op {P : Program} {F : Fence} {Q : Exit → Act → World → Prop} {k : Nat} {K : Act → World → Prop} {a : Act} {w : World} (h : wpOpIn F 0 P B Q (σ k) K a w) : wpOpIn F 0 P ops Q k K a w := by
  unfold wpOpIn at h ⊢
  cases ho : ops[k]? with
  | none => rw [T.n k ho] at h; exact h
  | some o =>
    obtain ⟨o', q1, q2, _, _⟩ := T.b k o ho
    rw [q1] at h
    simp only at h ⊢
    have hw : Region.wanted o' (yielded B a.tmps) = Region.wanted o (yielded ops a.tmps) := by
      unfold Region.wanted
      rw [q2.guard]
      cases hg : o.guard with
      | none => rfl
      | some p =>
        obtain ⟨g, b⟩ := p
        simp only [Option.map_some]
        rw [T.yield]
    rw [hw] at h
    have he := q2.eq
    generalize o'.after = A' at he
    generalize o'.guard = G' at he
    subst he
    exact h
theorem Ext.opsOk {P : Program} {F : Fence} {Q : Exit → Act → World → Prop} : ∀ (l : List Nat) (a : Act) (w : World), wpOpsIn F 0 P B Q (l.map σ) a w → wpOpsIn F 0 P ops Q l a w
  | [], a, w, h => h
  | i :: l, a, w, h => by
    rw [List.map_cons, wpOpsIn_cons] at h
    rw [wpOpsIn_cons]
    exact T.op (wpOpIn_mono (fun a w => Ext.opsOk l a w) h)
end
theorem two_split {ops A B : Array Oper} {σ τ : Nat → Nat} {i j : Nat} (TA : Ext ops A id id j i) (TB : Ext ops B σ τ i j) (hij : i ≠ j) : ∀ {l : List Nat} {D : Nat → Bool}, D i = false → D j = false → Ord ops D l → Ord A D (l.map id) ∨ Ord B (fun k => D (τ k)) (l.map σ)
  | [], D, _, _, h => .inl fun i q => h i (TA.un q)
  | k :: l, D, h1, h2, h => by
    by_cases e1 : k = i
    · subst e1
      exact .inl ⟨TA.rdy h.1 (.inr hij), TA.ord (by unfold Ex.dn; simp) h.2⟩
    · by_cases e2 : k = j
      · subst e2
        refine .inr ⟨TB.rdy h.1 (.inr e1), ?_⟩
        rw [← TB.dn]
        exact TB.ord (by unfold Ex.dn; simp) h.2
      · rcases two_split TA TB hij (l := l) (D := dn D k) (by unfold Ex.dn; rw [if_neg (Ne.symm e1)]; exact h1) (by unfold Ex.dn; rw [if_neg (Ne.symm e2)]; exact h2) h.2 with q | q
        · exact .inl ⟨TA.rdy h.1 (.inr e2), q⟩
        · refine .inr ⟨TB.rdy h.1 (.inr e1), ?_⟩
          rw [← TB.dn]; exact q
theorem ord_lt {ops : Array Oper} : ∀ {l : List Nat} {D : Nat → Bool}, Ord ops D l → ∀ i ∈ l, i < ops.size
  | [], _, _, i, hi => by cases hi
  | j :: l, D, h, i, hi => by
    rcases List.mem_cons.1 hi with rfl | hi
    · obtain ⟨⟨_, o, h2, _⟩, _⟩ := h
      exact (Array.getElem?_eq_some_iff.1 h2).1
    · exact ord_lt h.2 i hi
theorem lst_no (n : Nat) : lst (Array.replicate n false) = fun _ => false := by
  funext k
  unfold lst
  by_cases hk : k < n <;> simp [Array.getD_eq_getD_getElem?, hk]
/-- A region of which two operations come in either order. -/
theorem two_region (hm : P.follows .mixedOrders = true) {ops A B : Array Oper} {i j id' : Nat} {σ τ : Nat → Nat} (TA : Ext ops A id id j i) (TB : Ext ops B σ τ i j) (hij : i ≠ j) {F : Fence} {Q : Exit → Act → World → Prop} {a : Act} {w : World}
    (hA : wpAnyIn F 0 P .any A Q A.size (Array.replicate A.size false) a { w with drawn := w.drawn + 1 }) (hB : wpAnyIn F 0 P .any B Q B.size (Array.replicate B.size false) a { w with drawn := w.drawn + 1 }) :
    (Code.region id' ops true).wpIn F 0 P Q a w :=
  wpIn_region_draw fun t => by
    simp only [Region.schedule, hm, Bool.true_or, if_true]
    have ho := lin_ord (ops := ops) ops.size t (Array.replicate ops.size false) (by simp) (Nat.le_trans List.countP_le_length (by simp))
    rw [lst_no] at ho
    rcases two_split TA TB hij rfl rfl ho with q | q
    · exact TA.opsOk _ a _ (any_ord _ _ _ a _ (by simp) hA (by rw [lst_no]; exact q))
    · exact TB.opsOk _ a _ (any_ord _ _ _ a _ (by simp) hB (by rw [lst_no]; exact q))
end

/-! Code, by forks. -/
def isIns (o : Oper) : Bool := match o.op with | .insert .. => true | _ => false
def findI : List Oper → Nat → Option Nat
  | [], _ => none
  | o :: l, n => bif isIns o then some n else findI l (Nat.succ n)
def sgm (i j k : Nat) : Nat := if k = i then j else if i < k ∧ k ≤ j then k - 1 else k
def tau (i j m : Nat) : Nat := if m = j then i else if i ≤ m ∧ m < j then m + 1 else m
def sgmB (i j k : Nat) : Nat := bif Nat.beq k i then j else bif Nat.blt i k && Nat.ble k j then Nat.pred k else k
def tauB (i j m : Nat) : Nat := bif Nat.beq m j then i else bif Nat.ble i m && Nat.blt m j then Nat.succ m else m
def mkA (ops : List Oper) (i j : Nat) : Nat → List Oper → List Oper
  | _, [] => []
  | k, o :: l => (bif Nat.beq k j then edged i o else o) :: mkA ops i j (Nat.succ k) l
def nthO : List Oper → Nat → Option Oper
  | [], _ => none
  | a :: l, n => match n with | 0 => some a | n + 1 => nthO l n
def mkB (ops : List Oper) (i j : Nat) : Nat → Nat → Option (List Oper)
  | 0, _ => some []
  | f + 1, m => match nthO ops (tauB i j m) with
    | some o => match mkB ops i j f (Nat.succ m) with
      | some r => some ((bif Nat.beq m j then edged (sgmB i j j) (renO (sgmB i j) o) else renO (sgmB i j) o) :: r)
      | none => none
    | none => none
def forkOps (ops : List Oper) : Option (List Oper × List Oper) :=
  match findI ops 0 with
  | some i => match findI (ops.drop (Nat.succ i)) (Nat.succ i) with
    | some j => bif Nat.blt i j && Nat.blt j ops.length then match mkB ops i j ops.length 0 with
      | some B => some (mkA ops i j 0 ops, B)
      | none => none else none
    | none => none
  | none => none
theorem nthO_get : ∀ (l : List Oper) (n : Nat), nthO l n = l[n]?
  | [], n => by simp [nthO]
  | a :: l, 0 => rfl
  | a :: l, n + 1 => by simp only [nthO]; rw [nthO_get l n]; simp
theorem sgmB_eq (i j k : Nat) : sgmB i j k = sgm i j k := by
  unfold sgmB sgm
  simp only [nbeq, nblt, nble, Bool.cond_decide, Nat.pred_eq_sub_one, ← Bool.decide_and]
theorem tauB_eq (i j k : Nat) : tauB i j k = tau i j k := by
  unfold tauB tau
  simp only [nbeq, nblt, nble, Bool.cond_decide, ← Bool.decide_and, Nat.succ_eq_add_one]
theorem mkA_get {ops : List Oper} {i j : Nat} : ∀ (l : List Oper) (k m : Nat), (mkA ops i j k l)[m]? = (l[m]?).map fun o => if k + m = j then edged i o else o
  | [], k, m => by simp [mkA]
  | o :: l, k, 0 => by simp only [mkA, nbeq, Bool.cond_decide]; simp
  | o :: l, k, m + 1 => by
    simp only [mkA, List.getElem?_cons_succ]
    rw [mkA_get l (Nat.succ k) m, show Nat.succ k + m = k + (m + 1) by omega]
theorem mkB_get {ops : List Oper} {i j : Nat} : ∀ (f m0 : Nat) (r : List Oper), mkB ops i j f m0 = some r → r.length = f ∧ ∀ m, m < f → ∃ o, ops[tau i j (m0 + m)]? = some o ∧ r[m]? = some (if m0 + m = j then edged (sgmB i j j) (renO (sgmB i j) o) else renO (sgmB i j) o)
  | 0, m0, r, h => by simp only [mkB, Option.some.injEq] at h; subst h; exact ⟨rfl, fun m hm => by omega⟩
  | f + 1, m0, r, h => by
    simp only [mkB] at h
    split at h
    · rename_i o ho
      split at h
      · rename_i r2 hr
        simp only [Option.some.injEq] at h; subst h
        obtain ⟨i1, i2⟩ := mkB_get f (Nat.succ m0) r2 hr
        rw [nthO_get, tauB_eq] at ho
        refine ⟨by simp [i1], fun m hm => ?_⟩
        cases m with
        | zero =>
          refine ⟨o, ho, ?_⟩
          simp only [nbeq, Bool.cond_decide]; simp
        | succ m =>
          obtain ⟨o2, q1, q2⟩ := i2 m (by omega)
          rw [show Nat.succ m0 + m = m0 + (m + 1) by omega] at q1 q2
          exact ⟨o2, q1, by simpa using q2⟩
      · cases h
    · cases h
theorem binds_on (e : Edge) (n : Nat) : Region.binds .any { e with on := n } = Region.binds .any e := rfl
theorem forkOps_ok {ops : Array Oper} {A B : List Oper} (h : forkOps ops.toList = some (A, B)) : ∃ i j σ τ, i ≠ j ∧ Ext ops A.toArray id id j i ∧ Ext ops B.toArray σ τ i j := by
  unfold forkOps at h
  split at h
  case h_2 => cases h
  rename_i i _
  split at h
  case h_2 => cases h
  rename_i j _
  simp only [Bool.cond_eq_ite] at h
  split at h
  case isFalse => cases h
  rename_i hc
  split at h
  case h_2 => cases h
  rename_i B' hB
  simp only [Option.some.injEq, Prod.mk.injEq] at h
  obtain ⟨rfl, rfl⟩ := h
  simp only [Bool.and_eq_true, nblt, decide_eq_true_eq] at hc
  obtain ⟨hij, hjn⟩ := hc
  obtain ⟨l1, l2⟩ := mkB_get _ _ _ hB
  have hn : ops.toList.length = ops.size := by simp
  rw [hn] at hjn l1 l2
  have st : ∀ k, sgm i j (tau i j k) = k := fun k => by unfold sgm tau; (repeat' split) <;> omega
  have ts : ∀ k, tau i j (sgm i j k) = k := fun k => by unfold sgm tau; (repeat' split) <;> omega
  have lt : ∀ k, k < ops.size ↔ sgm i j k < ops.size := fun k => by unfold sgm; (repeat' split) <;> omega
  have se : sgmB i j = sgm i j := funext (sgmB_eq i j)
  refine ⟨i, j, sgm i j, tau i j, by omega, ⟨fun _ => rfl, fun _ => rfl, fun k o ho => ?_, fun k hk => ?_⟩, ⟨st, ts, fun k o ho => ?_, fun k hk => ?_⟩⟩
  · have hg : (mkA ops.toList i j 0 ops.toList).toArray[id k]? = some (if k = j then edged i o else o) := by
      rw [List.getElem?_toArray, mkA_get, Nat.zero_add, show ops.toList[id k]? = some o by simpa using ho]; rfl
    refine ⟨_, hg, ?_⟩
    by_cases e : k = j
    · rw [if_pos e]
      refine ⟨⟨rfl, by unfold edged; cases o.guard <;> rfl⟩, fun e1 he hb => ?_, fun e0 he hb => ⟨e0, by unfold edged; simp [he], hb, rfl⟩⟩
      unfold edged at he
      simp only [Array.mem_push] at he
      rcases he with he | he
      · exact .inl ⟨e1, he, hb, rfl⟩
      · exact .inr ⟨e, by rw [he]; rfl⟩
    · rw [if_neg e]
      exact ⟨⟨rfl, by cases o.guard <;> rfl⟩, fun e1 he hb => .inl ⟨e1, he, hb, rfl⟩, fun e0 he hb => ⟨e0, he, hb, rfl⟩⟩
  · rw [List.getElem?_toArray, mkA_get]
    have : ops.toList[id k]? = none := by simpa using hk
    rw [this]; rfl
  · have hk := (Array.getElem?_eq_some_iff.1 ho).1
    obtain ⟨o2, q1, q2⟩ := l2 (sgm i j k) ((lt k).1 hk)
    rw [Nat.zero_add, ts, show ops.toList[k]? = some o by simpa using ho] at q1
    simp only [Option.some.injEq] at q1
    subst q1
    rw [Nat.zero_add, se] at q2
    have hkj : sgm i j k = j ↔ k = i := by unfold sgm; (repeat' split) <;> omega
    have ren : ∀ e ∈ (renO (sgm i j) o).after, ∃ e0 ∈ o.after, Region.binds .any e0 = Region.binds .any e ∧ sgm i j e0.on = e.on := fun e he => by
      unfold renO at he
      obtain ⟨e0, r1, r2⟩ := Array.mem_map.1 he
      exact ⟨e0, r1, by rw [← r2]; rfl, by rw [← r2]⟩
    have ren2 : ∀ e0 ∈ o.after, ∃ e ∈ (renO (sgm i j) o).after, Region.binds .any e = Region.binds .any e0 ∧ e.on = sgm i j e0.on := fun e0 he =>
      ⟨_, Array.mem_map.2 ⟨e0, he, rfl⟩, rfl, rfl⟩
    refine ⟨_, by rw [List.getElem?_toArray]; exact q2, ?_⟩
    by_cases e : sgm i j k = j
    · rw [if_pos e]
      refine ⟨⟨rfl, rfl⟩, fun e1 he hb => ?_, fun e0 he hb => ?_⟩
      · unfold edged at he
        simp only [Array.mem_push] at he
        rcases he with he | he
        · obtain ⟨e0, r1, r2, r3⟩ := ren e1 he
          exact .inl ⟨e0, r1, by rw [r2]; exact hb, r3⟩
        · exact .inr ⟨hkj.1 e, by rw [he]⟩
      · obtain ⟨e1, r1, r2, r3⟩ := ren2 e0 he
        exact ⟨e1, by unfold edged; simp [r1], by rw [r2]; exact hb, r3⟩
    · rw [if_neg e]
      refine ⟨⟨rfl, rfl⟩, fun e1 he hb => ?_, fun e0 he hb => ?_⟩
      · obtain ⟨e0, r1, r2, r3⟩ := ren e1 he
        exact .inl ⟨e0, r1, by rw [r2]; exact hb, r3⟩
      · obtain ⟨e1, r1, r2, r3⟩ := ren2 e0 he
        exact ⟨e1, r1, by rw [r2]; exact hb, r3⟩
  · have hk : ¬ k < ops.size := fun h => by rw [Array.getElem?_eq_getElem h] at hk; cases hk
    have := mt (lt k).2 hk
    rw [List.getElem?_toArray, List.getElem?_eq_none (by omega)]

def joinL (f : St → Option (List (AX × St))) : List (AX × St) → Option (List (AX × St))
  | [] => some []
  | (e, s) :: l => match (match e with | .nm => f s | e => some [(e, s)]) with
    | some x => match joinL f l with | some y => some (x ++ y) | none => none
    | none => none
def loopL (f : St → Option (List (AX × St))) : Nat → St → Option (List (AX × St))
  | 0, _ => none
  | m + 1, s => match f s with | some l => joinL (loopL f m) l | none => none
def blkE (id : Nat) (p : AX × St) : AX × St := match p.1 with | .ex j => bif Nat.beq j id then (.nm, p.2) else p | _ => p
def execL (P : Program) (sm : FuncId → Option Sm) : Nat → Code → St → Option (List (AX × St))
  | 0, _, _ => none
  | n + 1, c, s => match c with
    | .seq a b => match execL P sm n a s with | some l => joinL (execL P sm n b) l | none => none
    | .block id c => match execL P sm n c s with | some l => some (l.map (blkE id)) | none => none
    | .cond t a b => match evT s.tm t with | .b q => bif q then execL P sm n a s else execL P sm n b s | _ => none
    | .scope c => execL P sm n c s
    | .loop c => loopL (execL P sm n c) n s
    | .region _ ops true => match drawA P ⟨exec P sm n, sm⟩ ops.toList ops.toList 0 [] s with
      | some s' => some [(.nm, s')]
      | none => match forkOps ops.toList with
        | some (A, B) => match drawA P ⟨exec P sm n, sm⟩ A A 0 [] s, drawA P ⟨exec P sm n, sm⟩ B B 0 [] s with
          | some x, some y => some [(.nm, x), (.nm, y)]
          | _, _ => none
        | none => none
    | c => match exec P sm n c s with | some r => some [r] | none => none

section
variable {P : Program}
structure GdW (W : Option Nat → (Exit → Act → World → Prop) → Act → World → Prop) (s : St) (l : List (AX × St)) : Prop where
  ne : l ≠ []
  ab : ∀ p ∈ l, (s.h.nx ≤ p.2.h.nx ∧ Ab s.h p.2.h) ∧ p.2.sz = s.sz ∧ p.2.rd = s.rd
  run : ∀ (M : Mp) (a : Act) (w : World) (r : Option Nat) (Q : Exit → Act → World → Prop), StR M s a w → RdR M s.rd r → (∀ p ∈ l, Fresh M s.h p.2.h) →
    (∀ p ∈ l, ∀ M' a' w', StR M' p.2 a' w' → Fr s.h p.2.h M M' w w' → Q (exitOf p.1) a' w') → W r Q a w
abbrev WC (P : Program) (c : Code) : Option Nat → (Exit → Act → World → Prop) → Act → World → Prop := fun r Q a w => c.wpIn (FW r) 0 P Q a w
theorem joinL_mem {f : St → Option (List (AX × St))} : ∀ {l m : List (AX × St)}, joinL f l = some m →
    (∀ p ∈ l, ∃ x, (match p.1 with | .nm => f p.2 | _ => some [p]) = some x ∧ ∀ q ∈ x, q ∈ m) ∧ ∀ q ∈ m, ∃ p ∈ l, ∃ x, (match p.1 with | .nm => f p.2 | _ => some [p]) = some x ∧ q ∈ x
  | [], m, h => by simp [joinL] at h; subst h; simp
  | (e, s) :: l, m, h => by
    simp only [joinL] at h
    split at h
    · rename_i x hx
      split at h
      · rename_i y hy
        simp only [Option.some.injEq] at h; subst h
        obtain ⟨i1, i2⟩ := joinL_mem hy
        have hx2 : (match (e, s).1 with | .nm => f (e, s).2 | _ => some [(e, s)]) = some x := by cases e <;> exact hx
        refine ⟨fun p hp => ?_, fun q hq => ?_⟩
        · rcases List.mem_cons.1 hp with rfl | hp
          · exact ⟨x, hx2, fun q hq => List.mem_append_left _ hq⟩
          · obtain ⟨z, z1, z2⟩ := i1 p hp
            exact ⟨z, z1, fun q hq => List.mem_append_right _ (z2 q hq)⟩
        · rcases List.mem_append.1 hq with hq | hq
          · exact ⟨_, List.mem_cons_self, x, hx2, hq⟩
          · obtain ⟨p, p1, p2⟩ := i2 q hq
            exact ⟨p, List.mem_cons_of_mem _ p1, p2⟩
      · cases h
    · cases h
/-- One behind the other. -/
theorem join_ok {Wa Wb Wc : Option Nat → (Exit → Act → World → Prop) → Act → World → Prop} {f : St → Option (List (AX × St))} {s : St} {l m : List (AX × St)} (ha : GdW Wa s l) (hb : ∀ s x, f s = some x → GdW Wb s x) (hj : joinL f l = some m)
    (hs : ∀ r Q a w, Wa r (Exit.then (Wb r Q) Q) a w → Wc r Q a w) : GdW Wc s m := by
  obtain ⟨j1, j2⟩ := joinL_mem hj
  have some_q : ∀ p ∈ l, ∃ q ∈ m, p.2.h.nx ≤ q.2.h.nx := fun p hp => by
    obtain ⟨x, x1, x2⟩ := j1 p hp
    obtain ⟨e, s1⟩ := p
    cases e with
    | nm =>
      have g := hb s1 x x1
      obtain ⟨q, hq⟩ := List.exists_mem_of_ne_nil _ g.ne
      exact ⟨q, x2 q hq, (g.ab q hq).1.1⟩
    | ex id =>
      simp only [Option.some.injEq] at x1; subst x1
      exact ⟨_, x2 _ (by simp), Nat.le_refl _⟩
    | rt =>
      simp only [Option.some.injEq] at x1; subst x1
      exact ⟨_, x2 _ (by simp), Nat.le_refl _⟩
  refine ⟨?_, fun q hq => ?_, fun M a w r Q st rd fr k => ?_⟩
  · obtain ⟨p, hp⟩ := List.exists_mem_of_ne_nil _ ha.ne
    obtain ⟨q, hq, _⟩ := some_q p hp
    exact List.ne_nil_of_mem hq
  · obtain ⟨p, hp, x, x1, x2⟩ := j2 q hq
    obtain ⟨⟨a1, a2⟩, a3, a4⟩ := ha.ab p hp
    obtain ⟨e, s1⟩ := p
    cases e with
    | nm =>
      obtain ⟨⟨b1, b2⟩, b3, b4⟩ := (hb s1 x x1).ab q x2
      exact ⟨⟨Nat.le_trans a1 b1, a2.trans b2⟩, b3.trans a3, b4.trans a4⟩
    | ex id =>
      simp only [Option.some.injEq] at x1; subst x1
      simp only [List.mem_singleton] at x2; subst x2
      exact ⟨⟨a1, a2⟩, a3, a4⟩
    | rt =>
      simp only [Option.some.injEq] at x1; subst x1
      simp only [List.mem_singleton] at x2; subst x2
      exact ⟨⟨a1, a2⟩, a3, a4⟩
  · refine hs r Q a w (ha.run M a w r _ st rd (fun p hp => ?_) (fun p hp M' a' w' st' f' => ?_))
    · obtain ⟨q, hq, hle⟩ := some_q p hp
      exact (fr q hq).left hle
    · obtain ⟨x, x1, x2⟩ := j1 p hp
      obtain ⟨⟨a1, a2⟩, a3, a4⟩ := ha.ab p hp
      obtain ⟨e, s1⟩ := p
      cases e with
      | nm =>
        have g := hb s1 x x1
        exact (g.run M' a' w' r Q st' (by rw [show s1.rd = s.rd from a4]; exact rd.mono f'.ext) (fun q hq => Fresh.right (fr q (x2 q hq)) a1 f') (fun q hq M2 a2 w2 st2 f2 => k q (x2 q hq) M2 a2 w2 st2 (f'.trans a1 (g.ab q hq).1.1 f2)))
      | ex id =>
        simp only [Option.some.injEq] at x1; subst x1
        exact k _ (x2 _ (by simp)) M' a' w' st' f'
      | rt =>
        simp only [Option.some.injEq] at x1; subst x1
        exact k _ (x2 _ (by simp)) M' a' w' st' f'
theorem loopL_ok {f : St → Option (List (AX × St))} {c : Code} (hf : ∀ s l, f s = some l → GdW (WC P c) s l) : ∀ (m : Nat) (s : St) (l : List (AX × St)), loopL f m s = some l → GdW (fun r Q a w => Code.roundsIn (FW r) 0 P c Q m a w) s l
  | 0, s, l, h => by simp [loopL] at h
  | m + 1, s, l, h => by
    simp only [loopL] at h
    split at h
    · rename_i la hla
      exact join_ok (hf s la hla) (fun s x hx => loopL_ok hf m s x hx) h (fun r Q a w q => by rw [roundsIn_succ]; exact q)
    · cases h
theorem GdW.one {c : Code} {s s' : St} {x : AX} (h : (s.h.nx ≤ s'.h.nx ∧ Ab s.h s'.h) ∧ s'.sz = s.sz ∧ s'.rd = s.rd ∧
    ∀ (M : Mp) (a : Act) (w : World) (r : Option Nat) (Q : Exit → Act → World → Prop), StR M s a w → RdR M s.rd r → Fresh M s.h s'.h →
      (∀ M' a' w', StR M' s' a' w' → Fr s.h s'.h M M' w w' → Ab s.h s'.h → Q (exitOf x) a' w') → c.wpIn (FW r) 0 P Q a w) : GdW (WC P c) s [(x, s')] :=
  ⟨by simp, fun p hp => by
    simp only [List.mem_singleton] at hp; subst hp
    exact ⟨h.1, h.2.1, h.2.2.1⟩, fun M a w r Q st rd fr k => h.2.2.2 M a w r Q st rd (fr (x, s') (by simp)) (fun M' a' w' st' f' _ => k (x, s') (by simp) M' a' w' st' f')⟩
theorem execL_ok (hm : P.follows .mixedOrders = true) {sm : FuncId → Option Sm} (hs : SmOK P sm) : ∀ (n : Nat) (c : Code) (s : St) (l : List (AX × St)), execL P sm n c s = some l → GdW (WC P c) s l
  | 0, c, s, l, h => by simp [execL] at h
  | n + 1, c, s, l, h => by
    have G := exec_good hm hs n
    unfold execL at h
    split at h
    · rename_i a b
      split at h
      · rename_i la hla
        exact join_ok (execL_ok hm hs n a s la hla) (fun s x hx => execL_ok hm hs n b s x hx) h (fun r Q a w q => wpIn_seq q)
      · cases h
    · rename_i id c
      split at h
      · rename_i la hla
        simp only [Option.some.injEq] at h; subst h
        have g := execL_ok hm hs n c s la hla
        have e2 : ∀ p : AX × St, (blkE id p).2 = p.2 := fun p => by
          unfold blkE
          split
          · cases Nat.beq _ id <;> rfl
          · rfl
        refine ⟨by simpa using g.ne, fun p hp => ?_, fun M a w r Q st rd fr k => wpIn_block (g.run M a w r _ st rd (fun p hp => ?_) (fun p hp M' a' w' st' f' => ?_))⟩
        · obtain ⟨q, hq, rfl⟩ := List.mem_map.1 hp
          rw [e2]; exact g.ab q hq
        · have := fr _ (List.mem_map.2 ⟨p, hp, rfl⟩)
          rwa [e2] at this
        · have := k _ (List.mem_map.2 ⟨p, hp, rfl⟩) M' a' w' (by rw [e2]; exact st') (by rw [e2]; exact f')
          obtain ⟨e, s1⟩ := p
          cases e with
          | nm => exact this
          | rt => exact this
          | ex j =>
            simp only [blkE, nbeq, Bool.cond_decide] at this
            by_cases hj : j = id
            · simp only [hj, if_true] at this
              simp only [exitOf, Exit.inBlock, hj, if_true]
              exact this
            · simp only [hj, if_false] at this
              simp only [exitOf, Exit.inBlock, hj, if_false]
              exact this
      · cases h
    · rename_i t a b
      split at h
      · rename_i q hq
        have hc : ∀ (M : Mp) (ac : Act) (w : World), StR M s ac w → ac.eval t = .bool q := fun M ac w st => by
          have := ev_ok st.tm t
          rw [hq] at this
          simpa only [AV.R] using this
        cases q with
        | true =>
          have g := execL_ok hm hs n a s l h
          exact ⟨g.ne, g.ab, fun M ac w r Q st rd fr k => wpIn_cond_true (hc M ac w st) (g.run M ac w r Q st rd fr k)⟩
        | false =>
          have g := execL_ok hm hs n b s l h
          exact ⟨g.ne, g.ab, fun M ac w r Q st rd fr k => wpIn_cond_false (hc M ac w st) (g.run M ac w r Q st rd fr k)⟩
      · cases h
    · rename_i c
      have g := execL_ok hm hs n c s l h
      refine ⟨g.ne, g.ab, fun M a w r Q st rd fr k => wpIn_scope (g.run M a w r _ st rd fr (fun p hp M' a' w' st' f' => ?_))⟩
      have := k p hp M' a' w' st' f'
      obtain ⟨e, s1⟩ := p
      cases e <;> exact this
    · rename_i c
      have g := loopL_ok (fun s l h => execL_ok hm hs n c s l h) n s l h
      exact ⟨g.ne, g.ab, fun M a w r Q st rd fr k => wpIn_loop_rounds n (g.run M a w r Q st rd fr k)⟩
    · rename_i id ops
      split at h
      · rename_i s' hd
        simp only [Option.some.injEq] at h; subst h
        obtain ⟨o1, o2, o3, o4⟩ := draw_ok (id := id) hm G hd
        exact GdW.one ⟨o1, o2, o3, fun M a w r Q st rd fr k => o4 M a w r Q st fr k⟩
      · split at h
        case h_2 => cases h
        rename_i A B hF
        split at h
        case h_2 => cases h
        rename_i x y hx hy
        simp only [Option.some.injEq] at h; subst h
        obtain ⟨i, j, σ, τ, hij, TA, TB⟩ := forkOps_ok hF
        obtain ⟨a1, a2, a3, a4⟩ := draw_okA (ops := A.toArray) G hx
        obtain ⟨b1, b2, b3, b4⟩ := draw_okA (ops := B.toArray) G hy
        refine ⟨by simp, fun p hp => ?_, fun M a w r Q st rd fr k => two_region hm TA TB hij ?_ ?_⟩
        · simp only [List.mem_cons, List.not_mem_nil, or_false] at hp
          rcases hp with rfl | rfl
          · exact ⟨a1, a2, a3⟩
          · exact ⟨b1, b2, b3⟩
        · exact a4 M a w r Q st (fr (.nm, x) (by simp)) (fun M' a' w' st' f' _ => k (.nm, x) (by simp) M' a' w' st' f')
        · exact b4 M a w r Q st (fr (.nm, y) (by simp)) (fun M' a' w' st' f' _ => k (.nm, y) (by simp) M' a' w' st' f')
    · split at h
      · rename_i r hr
        simp only [Option.some.injEq] at h; subst h
        obtain ⟨x, s'⟩ := r
        exact GdW.one (G.code _ _ _ _ hr)
      · cases h

/-! A function that answers the same in all states in which it may end. -/
def nilL {α : Type} : List α → Bool | [] => true | _ :: _ => false
def okF (P : Program) (fn : Func) (q : Bool) (p : AX × St) : Bool :=
  match p.1 with
  | .ex _ => false
  | _ => nilL p.2.df && nilL p.2.h.wl && match resA P p.2.tm p.2.h fn.results.toList with | some (.b x) => (x == q) | _ => false
def mxN : List (AX × St) → Nat → Nat
  | [], n => n
  | p :: l, n => mxN l (bif Nat.ble n p.2.h.nx then p.2.h.nx else n)
def forkG (P : Program) (sm : FuncId → Option Sm) (n : Nat) (f : FuncId) (q : Bool) (args : List AV) (h : AH) : Option (AV × AH) :=
  match P.funcs[f]? with
  | some fn => bif okFn fn then match fn.body with
    | some c => match initT .lf 0 args with
      | some tm => match execL P sm n c ⟨tm, max fn.ntmps args.length, [], none, ⟨h.t, h.nx, h.nx, []⟩⟩ with
        | some l => bif l.all (okF P fn q) then some (.b q, ⟨h.t, mxN l h.nx, h.bs, h.wl⟩) else none
        | none => none
      | none => none
    | none => none
    else none
  | none => none
theorem mxN_le : ∀ {l : List (AX × St)} {n : Nat}, n ≤ mxN l n ∧ ∀ p ∈ l, p.2.h.nx ≤ mxN l n
  | [], n => ⟨Nat.le_refl _, by simp⟩
  | p :: l, n => by
    obtain ⟨i1, i2⟩ := mxN_le (l := l) (n := bif Nat.ble n p.2.h.nx then p.2.h.nx else n)
    have h0 : n ≤ (bif Nat.ble n p.2.h.nx then p.2.h.nx else n) ∧ p.2.h.nx ≤ (bif Nat.ble n p.2.h.nx then p.2.h.nx else n) := by
      simp only [nble, Bool.cond_decide]
      split <;> omega
    refine ⟨Nat.le_trans h0.1 i1, fun q hq => ?_⟩
    rcases List.mem_cons.1 hq with rfl | hq
    · exact Nat.le_trans h0.2 i1
    · exact i2 q hq
theorem forkG_ok (hm : P.follows .mixedOrders = true) {sm : FuncId → Option Sm} (hs : SmOK P sm) {n f : Nat} {q : Bool} : SmCall P f (forkG P sm n f q) := by
  intro args h v h' hg
  unfold forkG at hg
  split at hg
  case h_2 => cases hg
  rename_i fn hf
  cases hok : okFn fn with
  | false => rw [hok] at hg; cases hg
  | true =>
    rw [hok, cond_true] at hg
    split at hg
    case h_2 => cases hg
    rename_i c hb
    split at hg
    case h_2 => cases hg
    rename_i tm htm
    split at hg
    case h_2 => cases hg
    rename_i l hl
    cases hall : l.all (okF P fn q) with
    | false => rw [hall] at hg; cases hg
    | true =>
      rw [hall, cond_true] at hg
      simp only [Option.some.injEq, Prod.mk.injEq] at hg
      obtain ⟨rfl, rfl⟩ := hg
      obtain ⟨m1, m2⟩ := mxN_le (l := l) (n := h.nx)
      have g := execL_ok hm hs n c _ l hl
      have hget : ∀ k x, (⟨h.t, k, h.bs, h.wl⟩ : AH).get x = h.get x := fun _ _ => rfl
      refine ⟨⟨m1, m1, rfl, fun _ e => e, fun _ _ _ _ => rfl, fun x hx => .inl hx⟩, fun M us w r R ra rr fr k => ⟨?_, ?_⟩⟩
      · have hnn : ¬ (fn.name = "runtime.NumGoroutine") := by simpa [okFn] using hok
        simp [callFunc, hf, hnn, hb]
      · show CallsIn (FW none) 0 P f us.toArray w R
        refine callsIn_of_wp_marks hf hb trivial ?_
        have hln := RL_length ra
        have rr2 : Rel M ⟨h.t, h.nx, h.nx, []⟩ w := ⟨rr.obj, rr.inj, rr.wf, rr.gw, rr.gf⟩
        refine g.run M _ w none _ ⟨?_, ?_, rfl, rr2⟩ rfl (fun p hp id e1 e2 => fr id e1 (Nat.lt_of_lt_of_le e2 (m2 p hp))) ?_
        · simp only
          exact initT_TR htm ra
        · simp only [Array.size_append, List.size_toArray, Array.size_replicate, hln]; omega
        · intro p hp M' a' w' st f1
          obtain ⟨⟨_, ab⟩, _, _⟩ := g.ab p hp
          have hp2 := List.all_eq_true.1 hall p hp
          obtain ⟨x, s⟩ := p
          have fin : nilL s.df = true → nilL s.h.wl = true → (match resA P s.tm s.h fn.results.toList with | some (.b x) => (x == q) | _ => false) = true → LeavesInM (FW none) 0 P fn a'.tmps R a'.defers .returning w' := fun h1 h2 h3 => by
            have hd : s.df = [] := by cases hq : s.df with | nil => rfl | cons _ _ => rw [hq] at h1; cases h1
            have hw : s.h.wl = [] := by cases hq : s.h.wl with | nil => rfl | cons _ _ => rw [hq] at h2; cases h2
            split at h3
            · rename_i b hres
              obtain rfl : b = q := by simpa using h3
              have tk := takeAll_ok (M := M') (fn := fn) (tmps := a'.tmps) (R := R) (r := none) (P := P) (l := s.df) (h := s.h) (h' := s.h) (by rw [hd]; rfl) st.df st.h
              have same : ∀ id, id < h.nx → s.h.get id = h.get id := fun id hid => ab.log id hid hid (by rw [hw]; simp)
              have mm : ∀ id, id < h.nx → M' id = M id := fun id hid => by
                rcases Classical.em (M' id = M id) with e | e
                · exact e
                · have := (f1.only id e).1
                  have : h.nx ≤ id := this
                  omega
              refine tk.2 (fun w2 t1 t2 t3 => ?_)
              obtain ⟨u, e1, e2⟩ := resA_ok (a := a') hres st.tm t1
              have f3 := f1.trans ab.nx t3.nx t2
              refine ⟨u, e1, k M' u w2 e2 ⟨fun id o ho => ?_, fun i j b κ κ' o hi hr hj => ?_, fun id hid => Nat.lt_of_lt_of_le (rr.wf id hid) m1, t1.gw, fun id b κ hid => ?_⟩ ⟨f3.os, f3.tape, f3.output, f3.size, f3.ext, fun id e => ?_, f3.keep, fun id b κ o' ho hM => ?_⟩ ⟨m1, rfl, fun _ e => e, fun _ _ _ _ => rfl, fun x hx => .inl hx⟩⟩
              · rw [hget] at ho
                exact t1.obj id o (by rw [same id (rr.wf id (by rw [ho]; simp))]; exact ho)
              · rw [hget] at hi hj
                exact t1.inj i j b κ κ' o (by rw [same i (rr.wf i (by rw [hi]; simp))]; exact hi) hr (by rw [same j (rr.wf j hj)]; exact hj)
              · rw [hget] at hid
                exact t1.gf id b κ (by rw [same id (rr.wf id hid)]; exact hid)
              · obtain ⟨q1, q2⟩ := f3.only id e
                exact ⟨q1, Nat.lt_of_lt_of_le q2 (m2 _ hp)⟩
              · rw [hget] at ho
                have hid := rr.wf id (by rw [ho]; simp)
                exact .inr ⟨id, κ, o', ho, by rw [← mm id hid]; exact hM, fun e => e⟩
            · cases h3
          cases x with
          | ex id => simp [okF] at hp2
          | nm =>
            simp only [okF, Bool.and_eq_true] at hp2
            exact fin hp2.1.1 hp2.1.2 hp2.2
          | rt =>
            simp only [okF, Bool.and_eq_true] at hp2
            exact fin hp2.1.1 hp2.1.2 hp2.2
end
end Go.Proofs.YtfcbclalfpcpmaaGreatDoor.Ex
