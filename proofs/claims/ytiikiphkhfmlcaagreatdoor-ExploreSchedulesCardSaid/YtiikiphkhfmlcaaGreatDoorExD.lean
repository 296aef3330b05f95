/- The abstract machine: what its states mean, and how they stay true. The abstract machine: lists of cells, and the steps of memory. -/
import Derived.Test.YtiikiphkhfmlcaaGreatDoorExB
import Derived.Laws.CopyRow
import Derived.Deep.AppendSrc
noncomputable section
namespace Go.Proofs.YtiikiphkhfmlcaaGreatDoor.Ex
open Go

theorem nbeq (a b : Nat) : Nat.beq a b = decide (a = b) := by
  rw [Bool.eq_iff_iff]; simp
theorem nblt (a b : Nat) : Nat.blt a b = decide (a < b) := by
  rw [Bool.eq_iff_iff]; simp [Nat.blt, Nat.lt_iff_add_one_le]
theorem nble (a b : Nat) : Nat.ble a b = decide (a ≤ b) := by
  rw [Bool.eq_iff_iff]; simp

theorem Tr.get_set {α : Type} : ∀ (f : Nat) (t : Tr α) (p : Nat) (v : Option α) (t' : Tr α), Tr.set f t p v = some t' → ∀ q, t'.get q = if q = p then v else t.get q := by
  intro f
  induction f with
  | zero => intro t p v t' h; simp [Tr.set_zero] at h
  | succ f ih =>
    intro t p v t' h q
    have hd : ∀ a : Nat, Nat.div a 2 = a / 2 := fun _ => rfl
    have hm : ∀ a : Nat, Nat.mod a 2 = a % 2 := fun _ => rfl
    cases t with
    | lf =>
      simp only [Tr.set_eq, nbeq, Bool.cond_decide] at h
      split at h
      · rename_i hp; subst hp; simp only [Option.some.injEq] at h; subst h
        simp only [Tr.get_lf, Tr.get_nd, nbeq, Bool.cond_decide]
        split
        · rfl
        · split <;> rfl
      · rename_i hp
        split at h
        · rename_i he
          split at h
          · rename_i l hl
            simp only [Option.some.injEq] at h; subst h
            have := ih _ _ _ _ hl
            simp only [Tr.get_lf, Tr.get_nd, nbeq, Bool.cond_decide]
            by_cases hq : q = 1
            · subst hq; simp; omega
            · simp only [hq, if_false]
              split
              · rename_i hqe; rw [this]; simp only [Tr.get_lf, Tr.get_nd, hd, hm] at *
                by_cases hqp : q = p
                · subst hqp; simp
                · have : q / 2 ≠ p / 2 := by omega
                  simp [this, hqp]
              · rename_i hqo; simp only [hm] at *
                have : q ≠ p := by intro e; subst e; exact hqo he
                simp [this]
          · cases h
        · rename_i he
          split at h
          · rename_i l hl
            simp only [Option.some.injEq] at h; subst h
            have := ih _ _ _ _ hl
            simp only [Tr.get_lf, Tr.get_nd, nbeq, Bool.cond_decide]
            by_cases hq : q = 1
            · subst hq; simp; omega
            · simp only [hq, if_false]
              split
              · rename_i hqe; simp only [hm] at *
                have : q ≠ p := by intro e; subst e; exact he hqe
                simp [this]
              · rename_i hqo; rw [this]; simp only [Tr.get_lf, Tr.get_nd, hd, hm] at *
                by_cases hqp : q = p
                · subst hqp; simp
                · have : q / 2 ≠ p / 2 := by omega
                  simp [this, hqp]
          · cases h
    | nd w l r =>
      simp only [Tr.set_eq, nbeq, Bool.cond_decide] at h
      split at h
      · rename_i hp; subst hp; simp only [Option.some.injEq] at h; subst h
        simp only [Tr.get_lf, Tr.get_nd, nbeq, Bool.cond_decide]
        split
        · rfl
        · rfl
      · rename_i hp
        split at h
        · rename_i he
          split at h
          · rename_i l hl
            simp only [Option.some.injEq] at h; subst h
            have := ih _ _ _ _ hl
            simp only [Tr.get_lf, Tr.get_nd, nbeq, Bool.cond_decide]
            by_cases hq : q = 1
            · subst hq; simp; omega
            · simp only [hq, if_false]
              split
              · rename_i hqe; rw [this]; simp only [hd, hm] at *
                by_cases hqp : q = p
                · subst hqp; simp
                · have : q / 2 ≠ p / 2 := by omega
                  simp [this, hqp]
              · rename_i hqo; simp only [hm] at *
                have : q ≠ p := by intro e; subst e; exact hqo he
                simp [this]
          · cases h
        · rename_i he
          split at h
          · rename_i l hl
            simp only [Option.some.injEq] at h; subst h
            have := ih _ _ _ _ hl
            simp only [Tr.get_lf, Tr.get_nd, nbeq, Bool.cond_decide]
            by_cases hq : q = 1
            · subst hq; simp; omega
            · simp only [hq, if_false]
              split
              · rename_i hqe; simp only [hm] at *
                have : q ≠ p := by intro e; subst e; exact he hqe
                simp [this]
              · rename_i hqo; rw [this]; simp only [hd, hm] at *
                by_cases hqp : q = p
                · subst hqp; simp
                · have : q / 2 ≠ p / 2 := by omega
                  simp [this, hqp]
          · cases h

theorem AH.get_put {h h' : AH} {id : Nat} {v : Option AO} (hp : h.put id v = some h') (q : Nat) : h'.get q = if q = id then v else h.get q := by
  unfold AH.put at hp
  split at hp
  · rename_i t ht
    simp only [Option.some.injEq] at hp
    subst hp
    have := Tr.get_set _ _ _ _ _ ht (Nat.succ q)
    simp only [AH.get, this, Nat.succ.injEq]
  · cases hp
theorem AH.put_nx {h h' : AH} {id : Nat} {v : Option AO} (hp : h.put id v = some h') : h'.nx = h.nx ∧ h'.bs = h.bs ∧ h'.wl = (bif Nat.blt id h.bs then (bif memN id h.wl then h.wl else id :: h.wl) else h.wl) := by
  unfold AH.put at hp
  split at hp
  · simp only [Option.some.injEq] at hp
    subst hp
    exact ⟨rfl, rfl, rfl⟩
  · cases hp
theorem AH.get_new {h h' : AH} {o : AO} (hp : h.new o = some h') (q : Nat) : h'.get q = if q = h.nx then some o else h.get q := by
  unfold AH.new at hp
  split at hp
  · rename_i t ht
    simp only [Option.some.injEq] at hp
    subst hp
    have := Tr.get_set _ _ _ _ _ ht (Nat.succ q)
    simp only [AH.get, this, Nat.succ.injEq]
  · cases hp
theorem AH.new_nx {h h' : AH} {o : AO} (hp : h.new o = some h') : h'.nx = h.nx + 1 ∧ h'.bs = h.bs ∧ h'.wl = h.wl := by
  unfold AH.new at hp
  split at hp
  · simp only [Option.some.injEq] at hp
    subst hp
    exact ⟨rfl, rfl, rfl⟩
  · cases hp
theorem memN_iff {x : Nat} {l : List Nat} : memN x l = true ↔ x ∈ l := by
  induction l with
  | nil => simp [memN_nil]
  | cons y l ih => simp only [memN_cons, nbeq, Bool.cond_decide]; split <;> simp_all

/-! Values. -/
/-- Which blocks the numbers stand for; and the blocks that nobody writes any more, with what is in their cells. -/
structure Mp where
  f : Nat → Option (Nat × Nat)
  z : Nat → Option (Array Value)
instance : CoeFun Mp (fun _ => Nat → Option (Nat × Nat)) := ⟨Mp.f⟩
abbrev noM : Mp := ⟨fun _ => none, fun _ => none⟩

mutual
def AV.R (M : Mp) : AV → Value → Prop
  | .b x, v => v = .bool x
  | .i k n, v => v = .int k n
  | .s l, v => v = .string ⟨l.toArray⟩
  | .ptr id off, v => ∃ b c, M id = some (b, c) ∧ v = .pointer (some ⟨b, off, none⟩)
  | .np, v => v = .pointer none
  | .sl id off len cap u, v => ∃ b c, M id = some (b, c) ∧ v = .slice (some ⟨b, off, none⟩) len (if u then c - cap else cap)
  | .ns, v => v = .slice none 0 0
  | .es, v => ∃ a c, v = .slice (some a) 0 c
  | .mp id, v => ∃ b c, M id = some (b, c) ∧ v = .map (some b)
  | .nm, v => v = .map none
  | .fn f caps, v => ∃ vs, AV.RL M caps vs ∧ v = .func (.func f) #[] vs.toArray
  | .yl id, v => ∃ b c, M id = some (b, c) ∧ v = .func (.yield b) #[] #[]
  | .nf, v => v = .nilFunc
  | .ifc t x, v => ∃ u, x.R M u ∧ v = .iface t u
  | .ni, v => v = .nilIface
  | .agg l, v => ∃ vs, AV.RL M l vs ∧ v = .agg vs.toArray
  | .tup l, v => ∃ vs, AV.RL M l vs ∧ v = .tuple vs.toArray
  | .o u, v => v = u
  | .gl g off, v => v = .pointer (some ⟨g, off, none⟩)
  | .y k n, v => v = .int k n
  | .yb x, v => v = .bool x
  | .ys l, v => v = .string ⟨l.toArray⟩
  | .ysl ro nil id z q n, v => (nil = true ∧ n = 0 ∧ v = .slice none 0 0) ∨ (nil = false ∧ n = 0 ∧ ∃ a c, v = .slice (some a) 0 c ∧ (ro = false → c = 0)) ∨
      (nil = false ∧ ∃ b κ c, M id = some (b, κ) ∧ v = .slice (some ⟨b, (if ro then κ else 0) + q * z, none⟩) n c ∧ n ≤ c ∧ 0 < n ∧ (ro = false → c = κ - q ∧ q + n ≤ κ))
  | .ypt ro id z p q, v => ∃ b κ, M id = some (b, κ) ∧ v = .pointer (some ⟨b, (if ro then κ else 0) + p * z + q, none⟩)
  | .ye nil, v => (nil = true ∧ v = .slice none 0 0) ∨ (nil = false ∧ ∃ a, v = .slice (some a) 0 0)
  | .lst x nil z n f, v => (nil = true ∧ n = 0 ∧ v = .slice none 0 0) ∨ (nil = false ∧ n = 0 ∧ ∃ a c, v = .slice (some a) 0 c ∧ (x = true → c = 0)) ∨
      (nil = false ∧ 0 < n ∧ ∃ b off c cs, v = .slice (some ⟨b, off, none⟩) n c ∧ n ≤ c ∧ (x = true → c = n) ∧ M.z b = some cs ∧
        ∀ i, i < n → ∀ j, j < z → ∃ u, cs[off + i * z + j]? = some u ∧ u.oneCell' = true ∧ AV.R M (f i j) u)
  | .jk, v => v.oneCell' = true
  | .lp z j g, v => ∃ b off cs, v = .pointer (some ⟨b, off + j, none⟩) ∧ M.z b = some cs ∧ ∀ q, q < z → ∃ u, cs[off + q]? = some u ∧ u.oneCell' = true ∧ AV.R M (g q) u
def AV.RL (M : Mp) : List AV → List Value → Prop
  | [], vs => vs = []
  | a :: l, vs => ∃ v vs', a.R M v ∧ AV.RL M l vs' ∧ vs = v :: vs'
end

structure Le (M M' : Mp) : Prop where
  f : ∀ id p, M id = some p → M' id = some p
  z : ∀ b cs, M.z b = some cs → M'.z b = some cs
instance {M M' : Mp} : CoeFun (Le M M') (fun _ => ∀ id p, M id = some p → M' id = some p) := ⟨Le.f⟩
theorem Le.refl (M : Mp) : Le M M := ⟨fun _ _ h => h, fun _ _ h => h⟩
theorem Le.trans {A B C : Mp} (h : Le A B) (k : Le B C) : Le A C := ⟨fun id p e => k id p (h id p e), fun b cs e => k.z b cs (h.z b cs e)⟩

mutual
theorem AV.R.mono {M M' : Mp} (h : Le M M') : ∀ (a : AV) (v : Value), a.R M v → a.R M' v
  | .b _, _, r | .i _ _, _, r | .s _, _, r | .np, _, r | .ns, _, r | .nm, _, r | .nf, _, r | .ni, _, r | .o _, _, r | .gl _ _, _, r => r
  | .es, _, r => r
  | .jk, _, r => r
  | .y _ _, _, r | .yb _, _, r | .ys _, _, r | .ye _, _, r => r
  | .ysl _ _ _ _ _ _, _, r => by
    simp only [AV.R] at r ⊢
    rcases r with r | r | ⟨h1, b, c, k, e, r⟩
    · exact .inl r
    · exact .inr (.inl r)
    · exact .inr (.inr ⟨h1, b, c, k, h _ _ e, r⟩)
  | .ypt _ _ _ _ _, _, r => by simp only [AV.R] at r ⊢; obtain ⟨b, c, e, r⟩ := r; exact ⟨b, c, h _ _ e, r⟩
  | .ptr _ _, _, r => by simp only [AV.R] at r ⊢; obtain ⟨b, c, e, r⟩ := r; exact ⟨b, c, h _ _ e, r⟩
  | .sl _ _ _ _ _, _, r => by simp only [AV.R] at r ⊢; obtain ⟨b, c, e, r⟩ := r; exact ⟨b, c, h _ _ e, r⟩
  | .mp _, _, r => by simp only [AV.R] at r ⊢; obtain ⟨b, c, e, r⟩ := r; exact ⟨b, c, h _ _ e, r⟩
  | .yl _, _, r => by simp only [AV.R] at r ⊢; obtain ⟨b, c, e, r⟩ := r; exact ⟨b, c, h _ _ e, r⟩
  | .lst _ _ _ _ f, _, r => by
    simp only [AV.R] at r ⊢
    rcases r with r | r | ⟨h1, h2, b, off, c, cs, r1, r2, r3, r4, r5⟩
    · exact .inl r
    · exact .inr (.inl r)
    · exact .inr (.inr ⟨h1, h2, b, off, c, cs, r1, r2, r3, h.z _ _ r4, fun i hi j hj => by obtain ⟨u, q1, q2, q3⟩ := r5 i hi j hj; exact ⟨u, q1, q2, AV.R.mono h (f i j) u q3⟩⟩)
  | .lp _ _ g, _, r => by
    simp only [AV.R] at r ⊢
    obtain ⟨b, off, cs, r1, r2, r3⟩ := r
    exact ⟨b, off, cs, r1, h.z _ _ r2, fun q hq => by obtain ⟨u, q1, q2, q3⟩ := r3 q hq; exact ⟨u, q1, q2, AV.R.mono h (g q) u q3⟩⟩
  | .fn _ caps, _, r => by simp only [AV.R] at r ⊢; obtain ⟨vs, e, r⟩ := r; exact ⟨vs, AV.RL.mono h caps vs e, r⟩
  | .ifc _ x, _, r => by simp only [AV.R] at r ⊢; obtain ⟨u, e, r⟩ := r; exact ⟨u, AV.R.mono h x u e, r⟩
  | .agg l, _, r => by simp only [AV.R] at r ⊢; obtain ⟨vs, e, r⟩ := r; exact ⟨vs, AV.RL.mono h l vs e, r⟩
  | .tup l, _, r => by simp only [AV.R] at r ⊢; obtain ⟨vs, e, r⟩ := r; exact ⟨vs, AV.RL.mono h l vs e, r⟩
theorem AV.RL.mono {M M' : Mp} (h : Le M M') : ∀ (l : List AV) (vs : List Value), AV.RL M l vs → AV.RL M' l vs
  | [], _, r => r
  | a :: l, _, r => by
    simp only [AV.RL] at r ⊢
    obtain ⟨v, vs', r1, r2, r3⟩ := r
    exact ⟨v, vs', AV.R.mono h a v r1, AV.RL.mono h l vs' r2, r3⟩
end

def TR (M : Mp) (tm : Tr AV) (tmps : Array Value) : Prop := ∀ n, ((tm.get (n + 1)).getD undefA).R M (tmps.getD n undef)
theorem TR.mono {M M' : Mp} (h : Le M M') {tm : Tr AV} {tmps : Array Value} (r : TR M tm tmps) : TR M' tm tmps := fun n => AV.R.mono h _ _ (r n)

def EL (M : Mp) : List (AV × AV × Nat) → List MapEntry → Prop
  | [], l => l = []
  | e :: es, l => ∃ k v l', e.1.R M k ∧ e.2.1.R M v ∧ EL M es l' ∧ l = { key := k, val := v, born := e.2.2 } :: l'
theorem EL.mono {M M' : Mp} (h : Le M M') : ∀ (es : List (AV × AV × Nat)) (l : List MapEntry), EL M es l → EL M' es l
  | [], _, r => r
  | _e :: es, _, ⟨k, v, l', r1, r2, r3, r4⟩ => ⟨k, v, l', AV.R.mono h _ _ r1, AV.R.mono h _ _ r2, EL.mono h es l' r3, r4⟩

/-- A map's entries are numbers at numbers, no key twice. -/
structure MapY (k kv : IntKind) (p : Int → Bool) (v : Int → Int) (l : List MapEntry) : Prop where
  ent : ∀ e, e ∈ l → ∃ n, e.key = .int k n ∧ e.val = .int kv (v n) ∧ p n = true
  has : ∀ n, p n = true → ∃ e, e ∈ l ∧ e.key = .int k n
  one : l.Pairwise fun a b => a.key ≠ b.key
def ObR (M : Mp) (κ : Nat) : AO → Obj → Prop
  | .cells c e g, o => ∃ vs rest, AV.RL M c vs ∧ o = .cells (vs ++ rest).toArray e (0, 0) ∧ (match g with | none => rest = [] | some z => (vs ++ rest).length = κ * z)
  | .map es ck, o => ∃ l, EL M es l ∧ o = .map l.toArray ck
  | .loop st pe tm sz ps asg bo D, o => ∃ fn tmps b c, M D = some (b, c) ∧ TR M tm tmps ∧ tmps.size = sz ∧
      o = .loop { state := st, pending := pe, fn, tmps, params := ps, assign := asg, body := bo, defers := b }
  | .dfr op, o => o = .deferred (if op then some [] else none)
  | .sit l pos, o => o = .stringIter ⟨l.toArray⟩ pos
  | .mapy k kv p v, o => ∃ l ck, o = .map l.toArray ck ∧ MapY k kv p v l
  | .arr true _ z n f, ob => ∃ cs e fr, ob = .cells cs e fr ∧ ∀ i, i < n → ∀ j, j < z → ∃ v, cs[κ + i * z + j]? = some v ∧ v.oneCell' = true ∧ (f i j).R M v
  | .arr false et z n f, ob => ∃ cs, ob = .cells cs et (0, 0) ∧ cs.size = κ * z ∧ n ≤ κ ∧ ∀ i, i < n → ∀ j, j < z → ∃ v, cs[i * z + j]? = some v ∧ v.oneCell' = true ∧ (f i j).R M v
theorem ObR.mono {M M' : Mp} (h : Le M M') {κ : Nat} : ∀ (a : AO) (o : Obj), ObR M κ a o → ObR M' κ a o
  | .cells c _ _, _, ⟨vs, rest, r, q⟩ => ⟨vs, rest, AV.RL.mono h c vs r, q⟩
  | .map es _, _, ⟨l, r, q⟩ => ⟨l, EL.mono h es l r, q⟩
  | .loop _ _ _ _ _ _ _ _, _, ⟨fn, tmps, b, c, r, t, q⟩ => ⟨fn, tmps, b, c, h _ _ r, t.mono h, q⟩
  | .dfr _, _, r => r
  | .sit _ _, _, r => r
  | .mapy _ _ _ _, _, r => r
  | .arr true _ _ _ _, _, ⟨cs, e, fr, r, q⟩ => ⟨cs, e, fr, r, fun i hi j hj => by obtain ⟨v, h1, h2, h3⟩ := q i hi j hj; exact ⟨v, h1, h2, AV.R.mono h _ _ h3⟩⟩
  | .arr false _ _ _ _, _, ⟨cs, r, q1, q2, q⟩ => ⟨cs, r, q1, q2, fun i hi j hj => by obtain ⟨v, h1, h2, h3⟩ := q i hi j hj; exact ⟨v, h1, h2, AV.R.mono h _ _ h3⟩⟩

/-- The package variables hold what they are said to hold. -/
def GW (w : World) : Prop := ∀ g c, GL g = some c → ∃ vs e fr, w.heap[g]? = some (.cells vs.toArray e fr) ∧ AV.RL noM c vs
/-- A block that is only read; a block of no elements, which need not be there. -/
def AO.ro : AO → Bool
  | .arr ro _ _ _ _ => ro
  | _ => false
def AO.Vac : AO → Prop
  | .arr _ _ _ n _ => n = 0
  | _ => False
/-- What the abstract heap says of a world. -/
structure Rel (M : Mp) (h : AH) (w : World) : Prop where
  obj : ∀ id o, h.get id = some o → (o.Vac ∧ M id = none) ∨ ∃ b κ ob, M id = some (b, κ) ∧ w.heap[b]? = some ob ∧ ObR M κ o ob
  inj : ∀ i j b κ κ' o, h.get i = some o → o.ro = false → h.get j ≠ none → M i = some (b, κ) → M j = some (b, κ') → i = j
  wf : ∀ x, h.get x ≠ none → x < h.nx
  gw : GW w
  gf : ∀ x b κ o, h.get x = some o → o.ro = false → M x = some (b, κ) → GL b = none
  fz : ∀ b cs, M.z b = some cs → ∃ e fr, w.heap[b]? = some (.cells cs e fr)
  fo : ∀ i b κ o, h.get i = some o → o.ro = false → M i = some (b, κ) → M.z b = none

/-- What a step of the abstract machine leaves of the heap. -/
structure Ab (h h' : AH) : Prop where
  nx : h.nx ≤ h'.nx
  bs : h'.bs = h.bs
  wl : ∀ x, x ∈ h.wl → x ∈ h'.wl
  log : ∀ x, x < h.bs → x < h.nx → x ∉ h'.wl → h'.get x = h.get x
  dom : ∀ x, h'.get x ≠ none → h.get x ≠ none ∨ (h.nx ≤ x ∧ x < h'.nx)

structure Fr (h h' : AH) (M M' : Mp) (w w' : World) : Prop where
  os : w'.os = w.os
  tape : w'.tape = w.tape
  output : w'.output = w.output
  size : w.heap.size ≤ w'.heap.size
  ext : Le M M'
  only : ∀ id, M' id ≠ M id → h.nx ≤ id ∧ id < h'.nx
  keep : ∀ k, k < w.heap.size → (∀ id κ o, h.get id = some o → o.ro = false → M id ≠ some (k, κ)) → w'.heap[k]? = w.heap[k]?
  range : ∀ id b κ o', h'.get id = some o' → M' id = some (b, κ) → w.heap.size ≤ b ∨ ∃ i κ' o, h.get i = some o ∧ M i = some (b, κ') ∧ (o'.ro = false → o.ro = false)
  zx : ∀ b cs, M'.z b = some cs → M.z b = some cs ∨ w.heap.size ≤ b ∨ ∃ i κ o, h.get i = some o ∧ o.ro = false ∧ M i = some (b, κ)

def Fresh (M : Mp) (h h' : AH) : Prop := ∀ id, h.nx ≤ id → id < h'.nx → M id = none

theorem Ab.refl (h : AH) : Ab h h := ⟨Nat.le_refl _, rfl, fun _ h => h, fun _ _ _ _ => rfl, fun _ h => .inl h⟩
theorem Ab.trans {a b c : AH} (h : Ab a b) (k : Ab b c) : Ab a c where
  nx := Nat.le_trans h.nx k.nx
  bs := k.bs.trans h.bs
  wl := fun x hx => k.wl x (h.wl x hx)
  log := fun x hx hy hn => (k.log x (by rw [h.bs]; exact hx) (Nat.lt_of_lt_of_le hy h.nx) hn).trans (h.log x hx hy (fun hm => hn (k.wl x hm)))
  dom := fun x hx => by
    rcases k.dom x hx with h1 | h1
    · rcases h.dom x h1 with h2 | h2
      · exact .inl h2
      · exact .inr ⟨h2.1, Nat.lt_of_lt_of_le h2.2 k.nx⟩
    · exact .inr ⟨Nat.le_trans h.nx h1.1, h1.2⟩
theorem Fr.refl (h : AH) (M : Mp) {w : World} {_k : Rel M h w} : Fr h h M M w w :=
  ⟨rfl, rfl, rfl, Nat.le_refl _, Le.refl M, fun _ e => absurd rfl e, fun _ _ _ => rfl, fun id _b κ o h1 h2 => .inr ⟨id, κ, o, h1, h2, fun e => e⟩, fun _ _ e => .inl e⟩
theorem Fr.same (h : AH) (M : Mp) (w : World) : Fr h h M M w w :=
  ⟨rfl, rfl, rfl, Nat.le_refl _, Le.refl M, fun _ e => absurd rfl e, fun _ _ _ => rfl, fun id _b κ o h1 h2 => .inr ⟨id, κ, o, h1, h2, fun e => e⟩, fun _ _ e => .inl e⟩
theorem Fr.trans {a b c : AH} {M N O : Mp} {u v w : World} (hab : a.nx ≤ b.nx) (hbc : b.nx ≤ c.nx) (h : Fr a b M N u v) (k : Fr b c N O v w) : Fr a c M O u w where
  os := k.os.trans h.os
  tape := k.tape.trans h.tape
  output := k.output.trans h.output
  size := Nat.le_trans h.size k.size
  ext := h.ext.trans k.ext
  only := fun id e => by
    by_cases hn : N id = M id
    · have := k.only id (by rw [hn]; exact e); omega
    · have := h.only id hn; omega
  keep := fun i hi hn => by
    rw [k.keep i (Nat.lt_of_lt_of_le hi h.size) (fun id κ o hg hr he => ?_), h.keep i hi hn]
    rcases h.range id i κ o hg he with h1 | ⟨j, κ', o2, h1, h2, h3⟩
    · omega
    · exact hn j κ' o2 h1 (h3 hr) h2
  range := fun id b' κ o hg he => by
    rcases k.range id b' κ o hg he with h1 | ⟨j, κ', o2, h1, h2, h3⟩
    · exact .inl (Nat.le_trans h.size h1)
    · rcases h.range j b' κ' o2 h1 h2 with q | ⟨i, κ2, o3, q1, q2, q3⟩
      · exact .inl q
      · exact .inr ⟨i, κ2, o3, q1, q2, fun e => q3 (h3 e)⟩
  zx := fun b cs e => by
    rcases k.zx b cs e with q | q | ⟨i, κ, o, q1, q2, q3⟩
    · exact h.zx b cs q
    · exact .inr (.inl (Nat.le_trans h.size q))
    · rcases h.range i b κ o q1 q3 with r | ⟨j, κ', o', r1, r2, r3⟩
      · exact .inr (.inl r)
      · exact .inr (.inr ⟨j, κ', o', r1, r3 q2, r2⟩)
theorem Fresh.left {M : Mp} {a b c : AH} (h : Fresh M a c) (k : b.nx ≤ c.nx) : Fresh M a b := fun id h1 h2 => h id h1 (Nat.lt_of_lt_of_le h2 k)
theorem Fresh.right {M N : Mp} {a b c : AH} {u v : World} (h : Fresh M a c) (k : a.nx ≤ b.nx) (f : Fr a b M N u v) : Fresh N b c := fun id h1 h2 => by
  by_cases hn : N id = M id
  · rw [hn]; exact h id (Nat.le_trans k h1) h2
  · have := f.only id hn; omega
end Go.Proofs.YtiikiphkhfmlcaaGreatDoor.Ex
noncomputable section
namespace Go.Proofs.YtiikiphkhfmlcaaGreatDoor.Ex
open Go

section lists
variable {M : Mp}
theorem RL_length : ∀ {l : List AV} {vs : List Value}, AV.RL M l vs → vs.length = l.length
  | [], vs, r => by simp only [AV.RL] at r; subst r; rfl
  | a :: l, vs, r => by simp only [AV.RL] at r; obtain ⟨v, vs', _, r2, rfl⟩ := r; simp [RL_length r2]
theorem RL_append : ∀ {l k : List AV} {vs us : List Value}, AV.RL M l vs → AV.RL M k us → AV.RL M (l ++ k) (vs ++ us)
  | [], _, vs, _, r, s => by simp only [AV.RL] at r; subst r; exact s
  | a :: l, _, vs, _, r, s => by
    simp only [AV.RL] at r; obtain ⟨v, vs', r1, r2, rfl⟩ := r
    simp only [List.cons_append, AV.RL]
    exact ⟨v, _, r1, RL_append r2 s, rfl⟩
theorem RL_take : ∀ {l : List AV} {vs : List Value} (n : Nat), AV.RL M l vs → AV.RL M (l.take n) (vs.take n)
  | _, _, 0, _ => by simp [AV.RL]
  | [], vs, n + 1, r => by simp only [AV.RL] at r; subst r; simp [AV.RL]
  | a :: l, vs, n + 1, r => by
    simp only [AV.RL] at r; obtain ⟨v, vs', r1, r2, rfl⟩ := r
    simp only [List.take_succ_cons, AV.RL]
    exact ⟨v, _, r1, RL_take n r2, rfl⟩
theorem RL_drop : ∀ {l : List AV} {vs : List Value} (n : Nat), AV.RL M l vs → AV.RL M (l.drop n) (vs.drop n)
  | _, _, 0, r => by simpa using r
  | [], vs, n + 1, r => by simp only [AV.RL] at r; subst r; simp [AV.RL]
  | a :: l, vs, n + 1, r => by
    simp only [AV.RL] at r; obtain ⟨v, vs', r1, r2, rfl⟩ := r
    simp only [List.drop_succ_cons]
    exact RL_drop n r2
theorem nthA_get : ∀ {l : List AV} {n : Nat} {a : AV} {vs : List Value}, nthA l n = some a → AV.RL M l vs → ∃ v, vs[n]? = some v ∧ a.R M v
  | [], _, _, _, h, _ => by simp [nthA_nil] at h
  | x :: l, 0, a, vs, h, r => by
    simp only [nthA_cons, Option.some.injEq] at h; subst h
    simp only [AV.RL] at r; obtain ⟨v, vs', r1, r2, rfl⟩ := r
    exact ⟨v, rfl, r1⟩
  | x :: l, n + 1, a, vs, h, r => by
    simp only [nthA_cons] at h
    simp only [AV.RL] at r; obtain ⟨v, vs', r1, r2, rfl⟩ := r
    simpa using nthA_get h r2
theorem takeA_eq : ∀ {l : List AV} {n : Nat} {r : List AV}, takeA l n = some r → r = l.take n ∧ n ≤ l.length
  | _, 0, r, h => by simp [takeA_zero] at h; subst h; simp
  | [], n + 1, r, h => by simp [takeA_nil] at h
  | a :: l, n + 1, r, h => by
    simp only [takeA_cons] at h
    split at h
    · rename_i k hk
      obtain ⟨h1, h2⟩ := takeA_eq hk
      simp only [Option.some.injEq] at h; subst h; subst h1
      simp; omega
    · cases h
theorem sliceA_eq : ∀ {l : List AV} {o n : Nat} {r : List AV}, sliceA l o n = some r → r = (l.drop o).take n ∧ o + n ≤ l.length
  | l, 0, n, r, h => by
    simp only [sliceA] at h
    obtain ⟨h1, h2⟩ := takeA_eq h
    subst h1; simp; omega
  | [], o + 1, n, r, h => by simp [sliceA] at h
  | a :: l, o + 1, n, r, h => by
    simp only [sliceA] at h
    obtain ⟨h1, h2⟩ := sliceA_eq h
    subst h1; simp; omega
theorem spliceA_eq : ∀ {l : List AV} {o : Nat} {x r : List AV}, spliceA l o x = some r → r = l.take o ++ x ++ l.drop (o + x.length) ∧ o + x.length ≤ l.length
  | l, 0, [], r, h => by cases l <;> (simp [spliceA_done] at h; subst h; simp)
  | a :: l, 0, v :: vs, r, h => by
    simp only [spliceA_here] at h
    split at h
    · rename_i k hk
      obtain ⟨h1, h2⟩ := spliceA_eq hk
      simp only [Option.some.injEq] at h; subst h; subst h1
      simp at h2 ⊢; omega
    · cases h
  | [], 0, v :: vs, r, h => by simp [spliceA_nil] at h
  | [], o + 1, x, r, h => by simp [spliceA_off] at h
  | a :: l, o + 1, x, r, h => by
    have h' : (spliceA l o x).map (a :: ·) = some r := by
      cases x <;> (simp only [spliceA_cons] at h; split at h <;> simp_all)
    cases hk : spliceA l o x
    · rw [hk] at h'; cases h'
    · rename_i k
      rw [hk] at h'
      obtain ⟨h1, h2⟩ := spliceA_eq hk
      simp only [Option.map_some, Option.some.injEq] at h'; subst h'; subst h1
      have e : o + 1 + x.length = (o + x.length) + 1 := by omega
      rw [e]
      simp; omega
theorem RL_splice {l x r : List AV} {vs us : List Value} {o : Nat} (h : spliceA l o x = some r) (hl : AV.RL M l vs) (hx : AV.RL M x us) :
    AV.RL M r (vs.take o ++ us ++ vs.drop (o + us.length)) ∧ o + us.length ≤ vs.length := by
  obtain ⟨h1, h2⟩ := spliceA_eq h
  have e1 := RL_length hl
  have e2 := RL_length hx
  subst h1
  rw [e2]
  exact ⟨RL_append (RL_append (RL_take _ hl) hx) (RL_drop _ hl), by omega⟩
theorem splice_rest {vs us rest : List Value} {o : Nat} (h : o + us.length ≤ vs.length) :
    (vs ++ rest).take o ++ us ++ (vs ++ rest).drop (o + us.length) = (vs.take o ++ us ++ vs.drop (o + us.length)) ++ rest := by
  rw [List.take_append_of_le_length (by omega), List.drop_append_of_le_length h]; simp [List.append_assoc]
theorem splice_len {vs us : List Value} {o : Nat} (h : o + us.length ≤ vs.length) : (vs.take o ++ us ++ vs.drop (o + us.length)).length = vs.length := by
  simp; omega
theorem RL_map_o : ∀ (l : List Value), AV.RL M (l.map .o) l
  | [] => by simp [AV.RL]
  | v :: l => by simp only [List.map_cons, AV.RL]; exact ⟨v, l, rfl, RL_map_o l, rfl⟩
end lists

theorem ofV_R (M : Mp) : ∀ (n : Nat) (v : Value), (ofV n v).R M v := by
  have hl : ∀ (n : Nat), (∀ v, (ofV n v).R M v) → ∀ l : List Value, AV.RL M (l.map (ofV n)) l := by
    intro n h l
    induction l with
    | nil => simp [AV.RL]
    | cons v l ih => simp only [List.map_cons, AV.RL]; exact ⟨v, l, h v, ih, rfl⟩
  intro n
  induction n with
  | zero =>
    intro v
    unfold ofV
    split <;> first | rfl | simp_all
  | succ n ih =>
    intro v
    unfold ofV
    split <;> first | rfl | (simp_all [AV.R]; done) | skip
    · rename_i hh
      simp only [AV.R]
      simp only [Nat.succ.injEq] at hh
      subst hh
      exact ⟨_, hl _ ih _, by simp⟩

theorem cellsA_R {M : Mp} {a : AV} {v : Value} (h : a.R M v) : AV.RL M (cellsA a) v.cells.toList := by
  unfold cellsA
  split
  · simp only [AV.R] at h
    obtain ⟨vs, r, rfl⟩ := h
    simpa [Value.cells] using r
  · simp only [AV.R] at h; subst h
    simp only [Value.cells]
    exact RL_map_o _
  · rename_i h1 h2
    have : v.cells = #[v] := by
      cases a <;> simp only [AV.R] at h <;> first
        | (subst h; first | rfl | (cases v <;> first | rfl | (exfalso; exact h2 _ rfl)))
        | (exfalso; exact h1 _ rfl)
        | (rcases h with ⟨_, _, rfl⟩ | ⟨_, _, _, _, rfl, _⟩ | ⟨_, _, _, _, _, rfl, _⟩ <;> rfl)
        | (rcases h with ⟨_, _, rfl⟩ | ⟨_, _, _, _, rfl, _⟩ | ⟨_, _, _, _, _, _, rfl, _⟩ <;> rfl)
        | (rcases h with ⟨_, rfl⟩ | ⟨_, _, rfl⟩ <;> rfl)
        | (obtain ⟨_, _, _, rfl, _⟩ := h; rfl)
        | (obtain ⟨_, _, _, rfl⟩ := h; rfl)
        | (obtain ⟨_, _, rfl⟩ := h; rfl)
        | (cases v <;> first | rfl | (cases h; done))
    rw [this]
    simp only [AV.RL]
    exact ⟨v, [], h, rfl, rfl⟩
theorem isCell_one {M : Mp} {a : AV} {v : Value} (h : a.R M v) (hc : isCell a = true) : v.oneCell' = true := by
  cases a <;> simp only [AV.R] at h <;> first
    | exact h
    | (subst h; first | rfl | (simp [isCell] at hc; done) | (cases v <;> first | rfl | (simp [isCell] at hc; done)))
    | (simp [isCell] at hc; done)
    | (rcases h with ⟨_, _, rfl⟩ | ⟨_, _, _, _, rfl, _⟩ | ⟨_, _, _, _, _, rfl, _⟩ <;> rfl)
    | (rcases h with ⟨_, _, rfl⟩ | ⟨_, _, _, _, rfl, _⟩ | ⟨_, _, _, _, _, _, rfl, _⟩ <;> rfl)
    | (rcases h with ⟨_, rfl⟩ | ⟨_, _, rfl⟩ <;> rfl)
    | (obtain ⟨_, _, _, rfl, _⟩ := h; rfl)
    | (obtain ⟨_, _, _, rfl⟩ := h; rfl)
    | (obtain ⟨_, _, rfl⟩ := h; rfl)
theorem allCell_one {M : Mp} : ∀ {l : List AV} {vs : List Value}, AV.RL M l vs → allCell l = true → ∀ v ∈ vs, v.oneCell' = true
  | [], vs, r, _ => by simp only [AV.RL] at r; subst r; simp
  | a :: l, vs, r, h => by
    simp only [AV.RL] at r; obtain ⟨v, vs', r1, r2, rfl⟩ := r
    simp only [allCell_cons] at h
    have ha : isCell a = true := by cases hh : isCell a <;> simp_all
    rw [ha] at h
    intro u hu
    rcases List.mem_cons.1 hu with rfl | hu
    · exact isCell_one r1 ha
    · exact allCell_one r2 h u hu

/-! Memory. -/
def updM (M : Mp) (id : Nat) (p : Nat × Nat) : Mp := ⟨fun i => if i = id then some p else M i, M.z⟩
theorem Le_updM {M : Mp} {id : Nat} {p : Nat × Nat} (h : M id = none) : Le M (updM M id p) := ⟨fun i q e => by
  unfold updM
  simp only
  split
  · rename_i hi; subst hi; rw [h] at e; cases e
  · exact e, fun _ _ e => e⟩
theorem heap_lt0 {w : World} {b : Nat} {o : Obj} (h : w.heap[b]? = some o) : b < w.heap.size := (Array.getElem?_eq_some_iff.1 h).1
theorem Rel.fz_lt {M : Mp} {h : AH} {w : World} (r : Rel M h w) {b : Nat} {cs : Array Value} (e : M.z b = some cs) : b < w.heap.size := by
  obtain ⟨_, _, h1⟩ := r.fz b cs e
  exact heap_lt0 h1
theorem Rel.fz_none {M : Mp} {h : AH} {w : World} (r : Rel M h w) {b : Nat} (e : w.heap.size ≤ b) : M.z b = none := by
  cases hz : M.z b with
  | none => rfl
  | some cs => have := r.fz_lt hz; omega
/-- The frozen blocks stand as they stood. -/
theorem fz_kept {M : Mp} {h : AH} {w w' : World} (r : Rel M h w) (k : ∀ b, b < w.heap.size → M.z b ≠ none → w'.heap[b]? = w.heap[b]?) : ∀ b cs, M.z b = some cs → ∃ e fr, w'.heap[b]? = some (.cells cs e fr) := fun b cs e => by
  obtain ⟨t, fr, h1⟩ := r.fz b cs e
  exact ⟨t, fr, by rw [k b (heap_lt0 h1) (by rw [e]; simp)]; exact h1⟩

theorem heap_lt {w : World} {b : Nat} {o : Obj} (h : w.heap[b]? = some o) : b < w.heap.size := (Array.getElem?_eq_some_iff.1 h).1

theorem Rel.lt {M : Mp} {h : AH} {w : World} (r : Rel M h w) {id b κ : Nat} (hg : h.get id ≠ none) (hM : M id = some (b, κ)) : b < w.heap.size := by
  cases hh : h.get id with
  | none => exact absurd hh hg
  | some o =>
    rcases r.obj id o hh with ⟨_, hv⟩ | ⟨b', κ', ob, h1, h2, _⟩
    · rw [hM] at hv; cases hv
    rw [hM] at h1
    simp only [Option.some.injEq, Prod.mk.injEq] at h1
    rw [h1.1]
    exact heap_lt h2

theorem new_ok {M : Mp} {h h' : AH} {w : World} {ao : AO} {ob : Obj} {κ : Nat} (r : Rel M h w) (hn : h.new ao = some h') (hM : M h.nx = none) (ho : ObR M κ ao ob) :
    Rel (updM M h.nx (w.heap.size, κ)) h' (w.alloc ob) ∧ Fr h h' M (updM M h.nx (w.heap.size, κ)) w (w.alloc ob) ∧ Ab h h' := by
  have hle : Le M (updM M h.nx (w.heap.size, κ)) := Le_updM hM
  have hg := AH.get_new hn
  obtain ⟨hnx, hbs, hwl⟩ := AH.new_nx hn
  have hsame : ∀ b, b < w.heap.size → (w.alloc ob).heap[b]? = w.heap[b]? := fun b hb => by
    show (w.heap.push ob)[b]? = _
    simp [Array.getElem?_push]; omega
  have hother : ∀ id o, id ≠ h.nx → updM M h.nx (w.heap.size, κ) id = some o → M id = some o := fun id o hne e => by simpa [updM, hne] using e
  refine ⟨⟨fun id o e => ?_, fun i j b κ1 κ2 oi h0 hro h2 e1 e2 => ?_, fun x hx => ?_, fun g c hg => ?_, fun x b κ' o hx hro hM' => ?_, fz_kept (M := M) r (fun b hb _ => hsame b hb), fun i b κ' o e1 hro e2 => ?_⟩, ⟨rfl, rfl, rfl, by show _ ≤ (w.heap.push ob).size; simp, hle, fun id e => ?_, fun k hk _ => hsame k hk, fun id b κ' o' e1 e2 => ?_, fun _ _ e => .inl e⟩, ⟨by omega, hbs, fun x hx => by rw [hwl]; exact hx, fun x hx hy hn => ?_, fun x hx => ?_⟩⟩
  · rw [hg] at e
    split at e
    · rename_i hid
      simp only [Option.some.injEq] at e; subst e
      refine .inr ⟨w.heap.size, κ, ob, by simp [updM, hid], by show (w.heap.push ob)[w.heap.size]? = _; simp, ObR.mono hle _ _ ho⟩
    · rename_i hid
      rcases r.obj id o e with ⟨hv, h1⟩ | ⟨b, κ', ob', h1, h2, h3⟩
      · exact .inl ⟨hv, by simpa [updM, hid] using h1⟩
      · exact .inr ⟨b, κ', ob', hle _ _ h1, by rw [hsame b (heap_lt h2)]; exact h2, ObR.mono hle _ _ h3⟩
  · have h1 : h'.get i ≠ none := by simp [h0]
    rw [hg] at h0 h1 h2
    by_cases hi : i = h.nx <;> by_cases hj : j = h.nx
    · omega
    · have e2' := hother j _ hj e2
      have hjg : h.get j ≠ none := by simpa [hj] using h2
      have := r.lt hjg e2'
      simp [updM, hi] at e1; omega
    · have e1' := hother i _ hi e1
      have hig : h.get i ≠ none := by simpa [hi] using h1
      have := r.lt hig e1'
      simp [updM, hj] at e2; omega
    · exact r.inj i j b κ1 κ2 oi (by simpa [hi] using h0) hro (by simpa [hj] using h2) (hother i _ hi e1) (hother j _ hj e2)
  · rw [hg] at hx
    by_cases hid : x = h.nx
    · omega
    · have := r.wf x (by simpa [hid] using hx); omega
  · obtain ⟨vs, e, fr, h1, h2⟩ := r.gw g c hg
    exact ⟨vs, e, fr, by rw [hsame g (heap_lt h1)]; exact h1, h2⟩
  · rw [hg] at hx
    by_cases hid : x = h.nx
    · simp [updM, hid] at hM'
      cases hgl : GL b with
      | none => rfl
      | some c =>
        obtain ⟨vs, e, fr, h1, _⟩ := r.gw b c hgl
        have := heap_lt h1; omega
    · exact r.gf x b κ' o (by simpa [hid] using hx) hro (hother x _ hid hM')
  · by_cases hid : i = h.nx
    · simp [updM, hid] at e2
      exact r.fz_none (by omega)
    · exact r.fo i b κ' o (by rw [hg] at e1; simpa [hid] using e1) hro (hother i _ hid e2)
  · by_cases hid : id = h.nx
    · omega
    · exact absurd (by simp [updM, hid]) e
  · by_cases hid : id = h.nx
    · left; simp [updM, hid] at e2; omega
    · right; exact ⟨id, κ', o', by rw [hg] at e1; simpa [hid] using e1, hother id _ hid e2, fun e => e⟩
  · rw [hg]
    by_cases hid : x = h.nx
    · omega
    · simp [hid]
  · rw [hg] at hx
    by_cases hid : x = h.nx
    · right; omega
    · left; simpa [hid] using hx

/-- w' is w but for block b, which holds ob. -/
structure Upd (w w' : World) (b : Nat) (ob : Obj) : Prop where
  os : w'.os = w.os
  tape : w'.tape = w.tape
  output : w'.output = w.output
  size : w'.heap.size = w.heap.size
  other : ∀ k, k ≠ b → w'.heap[k]? = w.heap[k]?
  at_ : w'.heap[b]? = some ob

theorem put_ok {M : Mp} {h h' : AH} {w w' : World} {id b κ : Nat} {old ao : AO} {ob : Obj} (r : Rel M h w) (hg : h.get id = some old) (hp : h.put id (some ao) = some h')
    (hM : M id = some (b, κ)) (u : Upd w w' b ob) (ho : ObR M κ ao ob) (hro : old.ro = false := by rfl) : Rel M h' w' ∧ Fr h h' M M w w' ∧ Ab h h' := by
  have hgp := AH.get_put hp
  obtain ⟨hnx, hbs, hwl⟩ := AH.put_nx hp
  have hdom : ∀ x, h'.get x ≠ none ↔ h.get x ≠ none := fun x => by
    rw [hgp]; split
    · rename_i e; subst e; simp [hg]
    · exact Iff.rfl
  refine ⟨⟨fun x o e => ?_, fun i j c κ1 κ2 oi h1 hr h2 => by
      rw [hgp] at h1
      split at h1
      · rename_i hi; subst hi; exact r.inj i j c κ1 κ2 old hg hro ((hdom j).1 h2)
      · exact r.inj i j c κ1 κ2 oi h1 hr ((hdom j).1 h2), fun x hx => by rw [hnx]; exact r.wf x ((hdom x).1 hx), fun g c hgl => by
      obtain ⟨vs, e, fr, h1, h2⟩ := r.gw g c hgl
      have hgb : g ≠ b := fun e2 => by
        have := r.gf id b κ old hg hro hM
        rw [← e2, hgl] at this; cases this
      exact ⟨vs, e, fr, by rw [u.other g hgb]; exact h1, h2⟩, fun x c κ' o e1 hr e2 => by
      rw [hgp] at e1
      split at e1
      · rename_i hi; subst hi; exact r.gf x c κ' old hg hro e2
      · exact r.gf x c κ' o e1 hr e2, fz_kept r (fun c hc hz => u.other c (fun ec => hz (by rw [ec]; exact r.fo id b κ old hg hro hM))), fun x c κ' o e1 hr e2 => by
      rw [hgp] at e1
      split at e1
      · rename_i hi; subst hi; exact r.fo x c κ' old hg hro e2
      · exact r.fo x c κ' o e1 hr e2⟩, ⟨u.os, u.tape, u.output, Nat.le_of_eq u.size.symm, Le.refl M, fun _ e => absurd rfl e, fun k hk hn => u.other k (fun e => hn id κ old hg hro (by rw [e]; exact hM)), fun x c κ' o' e1 e2 => by
      rw [hgp] at e1
      split at e1
      · rename_i hi; subst hi; exact .inr ⟨x, κ', old, hg, e2, fun _ => hro⟩
      · exact .inr ⟨x, κ', o', e1, e2, fun e => e⟩, fun _ _ e => .inl e⟩, ⟨by omega, hbs, fun x hx => ?_, fun x hx _ hn => ?_, fun x hx => .inl ((hdom x).1 hx)⟩⟩
  · rw [hgp] at e
    split at e
    · rename_i hid
      simp only [Option.some.injEq] at e; subst e
      exact .inr ⟨b, κ, ob, by rw [hid]; exact hM, u.at_, ho⟩
    · rename_i hid
      rcases r.obj x o e with hv | ⟨c, κ', ob', h1, h2, h3⟩
      · exact .inl hv
      refine .inr ⟨c, κ', ob', h1, ?_, h3⟩
      rw [u.other c (fun ec => hid (r.inj id x b κ κ' old hg hro (by simp [e]) hM (by rw [← ec]; exact h1)).symm)]
      exact h2
  · rw [hwl]
    rw [nblt, Bool.cond_decide]
    split
    · cases hm : memN id h.wl <;> simp [hx]
    · exact hx
  · rw [hgp]
    split
    · rename_i e; subst e
      exfalso; apply hn
      rw [hwl, nblt, Bool.cond_decide, if_pos hx]
      cases hm : memN x h.wl
      · simp
      · simpa using memN_iff.1 hm
    · rfl

theorem del_ok {M : Mp} {h h' : AH} {w : World} {id : Nat} (r : Rel M h w) (hp : h.put id none = some h') : Rel M h' w ∧ Fr h h' M M w w ∧ Ab h h' := by
  have hgp := AH.get_put hp
  obtain ⟨hnx, hbs, hwl⟩ := AH.put_nx hp
  have hdom : ∀ x, h'.get x ≠ none → h.get x ≠ none := fun x => by
    rw [hgp]; split
    · intro e; exact absurd rfl e
    · exact fun e => e
  refine ⟨⟨fun x o e => ?_, fun i j c κ1 κ2 oi h1 hr h2 => by
      rw [hgp] at h1
      split at h1
      · cases h1
      · exact r.inj i j c κ1 κ2 oi h1 hr (hdom j h2), fun x hx => by rw [hnx]; exact r.wf x (hdom x hx), r.gw, fun x c κ' o e1 hr e2 => by
      rw [hgp] at e1
      split at e1
      · cases e1
      · exact r.gf x c κ' o e1 hr e2, r.fz, fun x c κ' o e1 hr e2 => by
      rw [hgp] at e1
      split at e1
      · cases e1
      · exact r.fo x c κ' o e1 hr e2⟩, ⟨rfl, rfl, rfl, Nat.le_refl _, Le.refl M, fun _ e => absurd rfl e, fun _ _ _ => rfl, fun x c κ' o' e1 e2 => by
      rw [hgp] at e1
      split at e1
      · cases e1
      · exact .inr ⟨x, κ', o', e1, e2, fun e => e⟩, fun _ _ e => .inl e⟩, ⟨by omega, hbs, fun x hx => ?_, fun x hx _ hn => ?_, fun x hx => .inl (hdom x hx)⟩⟩
  · rw [hgp] at e
    split at e
    · cases e
    · exact r.obj x o e
  · rw [hwl]
    rw [nblt, Bool.cond_decide]
    split
    · cases hm : memN id h.wl <;> simp [hx]
    · exact hx
  · rw [hgp]
    split
    · rename_i e; subst e
      exfalso; apply hn
      rw [hwl, nblt, Bool.cond_decide, if_pos hx]
      cases hm : memN x h.wl
      · simp
      · simpa using memN_iff.1 hm
    · rfl

theorem Rel.same {M : Mp} {h : AH} {w w' : World} (r : Rel M h w) (e : w'.heap = w.heap) : Rel M h w' :=
  ⟨fun id o g => by rw [e]; exact r.obj id o g, r.inj, r.wf, fun g c hg => by rw [e]; exact r.gw g c hg, r.gf, fun b cs hz => by rw [e]; exact r.fz b cs hz, r.fo⟩
theorem Fr.drew {h h' : AH} {M M' : Mp} {w w' : World} (f : Fr h h' M M' w.drew w') : Fr h h' M M' w w' :=
  ⟨f.os, f.tape, f.output, f.size, f.ext, f.only, f.keep, f.range, f.zx⟩

theorem upd_setRow {w : World} {g : Nat} {cur cs : Array Value} {t : TypeId} (hg : w.heap[g]? = some (.cells cur t (0, 0))) : Upd w (w.setRow g cs) g (.cells cs t (0, 0)) where
  os := rfl
  tape := rfl
  output := rfl
  size := by simp [World.setRow]
  other := fun k hk => by
    simp only [World.setRow, Array.getElem?_modify]
    rw [if_neg (fun e => hk e.symm)]
  at_ := setRow_heap w g cur cs t (0, 0) hg

/-- Reading cells. -/
def RowR (M : Mp) (c : List AV) (ob : Obj) : Prop := ∃ vs rest e fr, AV.RL M c vs ∧ ob = .cells (vs ++ rest).toArray e fr
theorem ObR.row {M : Mp} {κ : Nat} {c : List AV} {e : TypeId} {g : Option Nat} {ob : Obj} (h : ObR M κ (.cells c e g) ob) : RowR M c ob := by
  obtain ⟨vs, rest, r, rfl, _⟩ := h
  exact ⟨vs, rest, e, _, r, rfl⟩
theorem GW.row {M : Mp} {w : World} (h : GW w) {g : Nat} {c : List AV} (hg : GL g = some c) : ∃ ob, w.heap[g]? = some ob ∧ RowR M c ob := by
  obtain ⟨vs, e, fr, h1, h2⟩ := h g c hg
  exact ⟨_, h1, vs, [], e, fr, AV.RL.mono ⟨fun _ _ e => (by cases e), fun _ _ e => (by cases e)⟩ c vs h2, by simp⟩
theorem cell_ok {M : Mp} {w : World} {b off : Nat} {c : List AV} {ob : Obj} {a : AV} (hb : w.heap[b]? = some ob) (ho : RowR M c ob)
    (hn : nthA c off = some a) : ∃ v, w.cell? ⟨b, off, none⟩ = some v ∧ a.R M v := by
  obtain ⟨vs, rest, e, fr, r, rfl⟩ := ho
  obtain ⟨v, h1, h2⟩ := nthA_get hn r
  refine ⟨v, ?_, h2⟩
  have hlt : off < vs.length := (List.getElem?_eq_some_iff.1 h1).1
  simp [World.cell?, hb, List.getElem?_append_left hlt, h1]

theorem addr_add (b off n : Nat) : (⟨b, off, none⟩ : Addr).add n = ⟨b, off + n, none⟩ := by
  unfold Addr.add; split <;> simp_all

theorem cells_ok {P : Program} {M : Mp} {w : World} {b off n : Nat} {c : List AV} {ob : Obj} {l : List AV} (hb : w.heap[b]? = some ob) (ho : RowR M c ob)
    (hn : sliceA c off n = some l) : ∃ vs, (∀ w' : World, w'.heap = w.heap → (loadCells ⟨b, off, none⟩ n).run P w' = .ok vs.toArray w') ∧ AV.RL M l vs ∧ vs.length = n ∧ ∀ j v, vs[j]? = some v → w.cell? (⟨b, off + j, none⟩) = some v := by
  obtain ⟨vs, rest, e, fr, r, rfl⟩ := ho
  obtain ⟨h1, h2⟩ := sliceA_eq hn
  have hl := RL_length r
  subst h1
  have key : ∀ (w' : World), w'.heap = w.heap → ∀ j v, ((vs.drop off).take n)[j]? = some v → w'.cell? (⟨b, off + j, none⟩) = some v := fun w' hw j v hj => by
    rw [List.getElem?_take] at hj
    split at hj
    · rw [List.getElem?_drop] at hj
      have hlt : off + j < vs.length := (List.getElem?_eq_some_iff.1 hj).1
      simp [World.cell?, hw, hb, List.getElem?_append_left hlt, hj]
    · cases hj
  have hlen : ((vs.drop off).take n).length = n := by simp; omega
  refine ⟨(vs.drop off).take n, fun w' hw => ?_, RL_take n (RL_drop off r), hlen, key w rfl⟩
  have := run_loadCells_list (P := P) w' ⟨b, off, none⟩ ((vs.drop off).take n) (fun j v hj => by rw [addr_add]; exact key w' hw j v hj)
  rw [hlen] at this
  exact this

/-- Writing cells. -/
theorem splice_ok {P : Program} {M : Mp} {h h' : AH} {w : World} {id off : Nat} {c c' x : List AV} {us : List Value} {e : TypeId} {g : Option Nat} (r : Rel M h w) (hg : h.get id = some (.cells c e g))
    (hs : spliceA c off x = some c') (hp : h.put id (some (.cells c' e g)) = some h') (hx : AV.RL M x us) (h1 : ∀ v ∈ us, v.oneCell' = true) :
    ∃ b κ w', M id = some (b, κ) ∧ (storeCells ⟨b, off, none⟩ us).run P w = .ok () w' ∧ Rel M h' w' ∧ Fr h h' M M w w' ∧ Ab h h' := by
  rcases r.obj id _ hg with ⟨hv, _⟩ | ⟨b, κ, ob, hM, hb, vs, rest, rl, rfl, hgr⟩
  · exact absurd hv (by simp [AO.Vac])
  obtain ⟨r2, hle⟩ := RL_splice hs rl hx
  have hst := run_storeCells_at P b off e us 0 (vs ++ rest).toArray w hb (by simp; omega) h1
  refine ⟨b, κ, _, hM, by simpa using hst, ?_⟩
  refine put_ok r hg hp hM (upd_setRow hb) ⟨_, rest, r2, ?_, ?_⟩
  · have := splice_rest (rest := rest) hle
    rw [← this, List.append_assoc]
  · cases g with
    | none => exact hgr
    | some z =>
      simp only at hgr ⊢
      rw [← hgr]
      simp; omega
end Go.Proofs.YtiikiphkhfmlcaaGreatDoor.Ex
