/- The abstract machine: what its states mean, and how they stay true. -/
import Derived.Test.YtlfehgagnelbhaaGreatDoorExB
namespace Go.Proofs.YtlfehgagnelbhaaGreatDoor.Ex
open Go

theorem nbeq (a b : Nat) : Nat.beq a b = decide (a = b) := by
  rw [Bool.eq_iff_iff]; simp
theorem nblt (a b : Nat) : Nat.blt a b = decide (a < b) := by
  rw [Bool.eq_iff_iff]; simp [Nat.blt, Nat.lt_iff_add_one_le]
theorem nble (a b : Nat) : Nat.ble a b = decide (a ≤ b) := by
  rw [Bool.eq_iff_iff]; simp

theorem Tr.get_set {α : Type} : ∀ (f : Nat) (t : Tr α) (p : Nat) (v : Option α) (t' : Tr α), Tr.set f t p v = some t' → ∀ q, t'.get q = if q = p then v else t.get q := by
  intro f
  induction f with
  | zero => intro t p v t' h; simp [Tr.set] at h
  | succ f ih =>
    intro t p v t' h q
    have hd : ∀ a : Nat, Nat.div a 2 = a / 2 := fun _ => rfl
    have hm : ∀ a : Nat, Nat.mod a 2 = a % 2 := fun _ => rfl
    cases t with
    | lf =>
      simp only [Tr.set, nbeq, Bool.cond_decide] at h
      split at h
      · rename_i hp; subst hp; simp only [Option.some.injEq] at h; subst h
        simp only [Tr.get, nbeq, Bool.cond_decide]
        split
        · rfl
        · split <;> rfl
      · rename_i hp
        split at h
        · rename_i he
          split at h
          · rename_i l hl
            simp only [Option.some.injEq] at h; subst h
            have := ih _ _ _ _ hl
            simp only [Tr.get, nbeq, Bool.cond_decide]
            by_cases hq : q = 1
            · subst hq; simp; omega
            · simp only [hq, if_false]
              split
              · rename_i hqe; rw [this]; simp only [Tr.get, hd, hm] at *
                by_cases hqp : q = p
                · subst hqp; simp
                · have : q / 2 ≠ p / 2 := by omega
                  simp [this, hqp]
              · rename_i hqo; simp only [hm] at *
                have : q ≠ p := by intro e; subst e; exact hqo he
                simp [this]
          · cases h
        · rename_i he
          split at h
          · rename_i l hl
            simp only [Option.some.injEq] at h; subst h
            have := ih _ _ _ _ hl
            simp only [Tr.get, nbeq, Bool.cond_decide]
            by_cases hq : q = 1
            · subst hq; simp; omega
            · simp only [hq, if_false]
              split
              · rename_i hqe; simp only [hm] at *
                have : q ≠ p := by intro e; subst e; exact he hqe
                simp [this]
              · rename_i hqo; rw [this]; simp only [Tr.get, hd, hm] at *
                by_cases hqp : q = p
                · subst hqp; simp
                · have : q / 2 ≠ p / 2 := by omega
                  simp [this, hqp]
          · cases h
    | nd w l r =>
      simp only [Tr.set, nbeq, Bool.cond_decide] at h
      split at h
      · rename_i hp; subst hp; simp only [Option.some.injEq] at h; subst h
        simp only [Tr.get, nbeq, Bool.cond_decide]
        split
        · rfl
        · rfl
      · rename_i hp
        split at h
        · rename_i he
          split at h
          · rename_i l hl
            simp only [Option.some.injEq] at h; subst h
            have := ih _ _ _ _ hl
            simp only [Tr.get, nbeq, Bool.cond_decide]
            by_cases hq : q = 1
            · subst hq; simp; omega
            · simp only [hq, if_false]
              split
              · rename_i hqe; rw [this]; simp only [hd, hm] at *
                by_cases hqp : q = p
                · subst hqp; simp
                · have : q / 2 ≠ p / 2 := by omega
                  simp [this, hqp]
              · rename_i hqo; simp only [hm] at *
                have : q ≠ p := by intro e; subst e; exact hqo he
                simp [this]
          · cases h
        · rename_i he
          split at h
          · rename_i l hl
            simp only [Option.some.injEq] at h; subst h
            have := ih _ _ _ _ hl
            simp only [Tr.get, nbeq, Bool.cond_decide]
            by_cases hq : q = 1
            · subst hq; simp; omega
            · simp only [hq, if_false]
              split
              · rename_i hqe; simp only [hm] at *
                have : q ≠ p := by intro e; subst e; exact he hqe
                simp [this]
              · rename_i hqo; rw [this]; simp only [hd, hm] at *
                by_cases hqp : q = p
                · subst hqp; simp
                · have : q / 2 ≠ p / 2 := by omega
                  simp [this, hqp]
          · cases h

theorem AH.get_put {h h' : AH} {id : Nat} {v : Option AO} (hp : h.put id v = some h') (q : Nat) : h'.get q = if q = id then v else h.get q := by
  unfold AH.put at hp
  split at hp
  · rename_i t ht
    simp only [Option.some.injEq] at hp
    subst hp
    have := Tr.get_set _ _ _ _ _ ht (Nat.succ q)
    simp only [AH.get, this, Nat.succ.injEq]
  · cases hp
theorem AH.put_nx {h h' : AH} {id : Nat} {v : Option AO} (hp : h.put id v = some h') : h'.nx = h.nx ∧ h'.bs = h.bs ∧ h'.wl = (bif Nat.blt id h.bs then (bif memN id h.wl then h.wl else id :: h.wl) else h.wl) := by
  unfold AH.put at hp
  split at hp
  · simp only [Option.some.injEq] at hp
    subst hp
    exact ⟨rfl, rfl, rfl⟩
  · cases hp
theorem AH.get_new {h h' : AH} {o : AO} (hp : h.new o = some h') (q : Nat) : h'.get q = if q = h.nx then some o else h.get q := by
  unfold AH.new at hp
  split at hp
  · rename_i t ht
    simp only [Option.some.injEq] at hp
    subst hp
    have := Tr.get_set _ _ _ _ _ ht (Nat.succ q)
    simp only [AH.get, this, Nat.succ.injEq]
  · cases hp
theorem AH.new_nx {h h' : AH} {o : AO} (hp : h.new o = some h') : h'.nx = h.nx + 1 ∧ h'.bs = h.bs ∧ h'.wl = h.wl := by
  unfold AH.new at hp
  split at hp
  · simp only [Option.some.injEq] at hp
    subst hp
    exact ⟨rfl, rfl, rfl⟩
  · cases hp
theorem memN_iff {x : Nat} {l : List Nat} : memN x l = true ↔ x ∈ l := by
  induction l with
  | nil => simp [memN]
  | cons y l ih => simp only [memN, nbeq, Bool.cond_decide]; split <;> simp_all

/-! Values. -/
/-- Which blocks the numbers stand for; and the blocks that nobody writes any more, with what is in their cells. -/
structure Mp where
  f : Nat → Option (Nat × Nat)
  z : Nat → Option (Array Value)
instance : CoeFun Mp (fun _ => Nat → Option (Nat × Nat)) := ⟨Mp.f⟩
abbrev noM : Mp := ⟨fun _ => none, fun _ => none⟩

mutual
def AV.R (M : Mp) : AV → Value → Prop
  | .b x, v => v = .bool x
  | .i k n, v => v = .int k n
  | .s l, v => v = .string ⟨l.toArray⟩
  | .ptr id off, v => ∃ b c, M id = some (b, c) ∧ v = .pointer (some ⟨b, off, none⟩)
  | .np, v => v = .pointer none
  | .sl id off len cap u, v => ∃ b c, M id = some (b, c) ∧ v = .slice (some ⟨b, off, none⟩) len (if u then c - cap else cap)
  | .ns, v => v = .slice none 0 0
  | .es, v => ∃ a c, v = .slice (some a) 0 c
  | .mp id, v => ∃ b c, M id = some (b, c) ∧ v = .map (some b)
  | .nm, v => v = .map none
  | .fn f caps, v => ∃ vs, AV.RL M caps vs ∧ v = .func (.func f) #[] vs.toArray
  | .yl id, v => ∃ b c, M id = some (b, c) ∧ v = .func (.yield b) #[] #[]
  | .nf, v => v = .nilFunc
  | .ifc t x, v => ∃ u, x.R M u ∧ v = .iface t u
  | .ni, v => v = .nilIface
  | .agg l, v => ∃ vs, AV.RL M l vs ∧ v = .agg vs.toArray
  | .tup l, v => ∃ vs, AV.RL M l vs ∧ v = .tuple vs.toArray
  | .o u, v => v = u
  | .gl g off, v => v = .pointer (some ⟨g, off, none⟩)
  | .y k n, v => v = .int k n
  | .yb x, v => v = .bool x
  | .ys l, v => v = .string ⟨l.toArray⟩
  | .ysl ro nil id z q n, v => (nil = true ∧ n = 0 ∧ v = .slice none 0 0) ∨ (nil = false ∧ n = 0 ∧ ∃ a c, v = .slice (some a) 0 c ∧ (ro = false → c = 0)) ∨
      (nil = false ∧ ∃ b κ c, M id = some (b, κ) ∧ v = .slice (some ⟨b, (if ro then κ else 0) + q * z, none⟩) n c ∧ n ≤ c ∧ 0 < n ∧ (ro = false → c = κ - q ∧ q + n ≤ κ))
  | .ypt ro id z p q, v => ∃ b κ, M id = some (b, κ) ∧ v = .pointer (some ⟨b, (if ro then κ else 0) + p * z + q, none⟩)
  | .ye nil, v => (nil = true ∧ v = .slice none 0 0) ∨ (nil = false ∧ ∃ a, v = .slice (some a) 0 0)
  | .lst x nil z n f, v => (nil = true ∧ n = 0 ∧ v = .slice none 0 0) ∨ (nil = false ∧ n = 0 ∧ ∃ a c, v = .slice (some a) 0 c ∧ (x = true → c = 0)) ∨
      (nil = false ∧ 0 < n ∧ ∃ b off c cs, v = .slice (some ⟨b, off, none⟩) n c ∧ n ≤ c ∧ (x = true → c = n) ∧ M.z b = some cs ∧
        ∀ i, i < n → ∀ j, j < z → ∃ u, cs[off + i * z + j]? = some u ∧ u.oneCell' = true ∧ AV.R M (f i j) u)
  | .lp z j g, v => ∃ b off cs, v = .pointer (some ⟨b, off + j, none⟩) ∧ M.z b = some cs ∧ ∀ q, q < z → ∃ u, cs[off + q]? = some u ∧ u.oneCell' = true ∧ AV.R M (g q) u
def AV.RL (M : Mp) : List AV → List Value → Prop
  | [], vs => vs = []
  | a :: l, vs => ∃ v vs', a.R M v ∧ AV.RL M l vs' ∧ vs = v :: vs'
end

structure Le (M M' : Mp) : Prop where
  f : ∀ id p, M id = some p → M' id = some p
  z : ∀ b cs, M.z b = some cs → M'.z b = some cs
instance {M M' : Mp} : CoeFun (Le M M') (fun _ => ∀ id p, M id = some p → M' id = some p) := ⟨Le.f⟩
theorem Le.refl (M : Mp) : Le M M := ⟨fun _ _ h => h, fun _ _ h => h⟩
theorem Le.trans {A B C : Mp} (h : Le A B) (k : Le B C) : Le A C := ⟨fun id p e => k id p (h id p e), fun b cs e => k.z b cs (h.z b cs e)⟩

mutual
theorem AV.R.mono {M M' : Mp} (h : Le M M') : ∀ (a : AV) (v : Value), a.R M v → a.R M' v
  | .b _, _, r | .i _ _, _, r | .s _, _, r | .np, _, r | .ns, _, r | .nm, _, r | .nf, _, r | .ni, _, r | .o _, _, r | .gl _ _, _, r => r
  | .es, _, r => r
  | .y _ _, _, r | .yb _, _, r | .ys _, _, r | .ye _, _, r => r
  | .ysl _ _ _ _ _ _, _, r => by
    simp only [AV.R] at r ⊢
    rcases r with r | r | ⟨h1, b, c, k, e, r⟩
    · exact .inl r
    · exact .inr (.inl r)
    · exact .inr (.inr ⟨h1, b, c, k, h _ _ e, r⟩)
  | .ypt _ _ _ _ _, _, r => by simp only [AV.R] at r ⊢; obtain ⟨b, c, e, r⟩ := r; exact ⟨b, c, h _ _ e, r⟩
  | .ptr _ _, _, r => by simp only [AV.R] at r ⊢; obtain ⟨b, c, e, r⟩ := r; exact ⟨b, c, h _ _ e, r⟩
  | .sl _ _ _ _ _, _, r => by simp only [AV.R] at r ⊢; obtain ⟨b, c, e, r⟩ := r; exact ⟨b, c, h _ _ e, r⟩
  | .mp _, _, r => by simp only [AV.R] at r ⊢; obtain ⟨b, c, e, r⟩ := r; exact ⟨b, c, h _ _ e, r⟩
  | .yl _, _, r => by simp only [AV.R] at r ⊢; obtain ⟨b, c, e, r⟩ := r; exact ⟨b, c, h _ _ e, r⟩
  | .lst _ _ _ _ f, _, r => by
    simp only [AV.R] at r ⊢
    rcases r with r | r | ⟨h1, h2, b, off, c, cs, r1, r2, r3, r4, r5⟩
    · exact .inl r
    · exact .inr (.inl r)
    · exact .inr (.inr ⟨h1, h2, b, off, c, cs, r1, r2, r3, h.z _ _ r4, fun i hi j hj => by obtain ⟨u, q1, q2, q3⟩ := r5 i hi j hj; exact ⟨u, q1, q2, AV.R.mono h (f i j) u q3⟩⟩)
  | .lp _ _ g, _, r => by
    simp only [AV.R] at r ⊢
    obtain ⟨b, off, cs, r1, r2, r3⟩ := r
    exact ⟨b, off, cs, r1, h.z _ _ r2, fun q hq => by obtain ⟨u, q1, q2, q3⟩ := r3 q hq; exact ⟨u, q1, q2, AV.R.mono h (g q) u q3⟩⟩
  | .fn _ caps, _, r => by simp only [AV.R] at r ⊢; obtain ⟨vs, e, r⟩ := r; exact ⟨vs, AV.RL.mono h caps vs e, r⟩
  | .ifc _ x, _, r => by simp only [AV.R] at r ⊢; obtain ⟨u, e, r⟩ := r; exact ⟨u, AV.R.mono h x u e, r⟩
  | .agg l, _, r => by simp only [AV.R] at r ⊢; obtain ⟨vs, e, r⟩ := r; exact ⟨vs, AV.RL.mono h l vs e, r⟩
  | .tup l, _, r => by simp only [AV.R] at r ⊢; obtain ⟨vs, e, r⟩ := r; exact ⟨vs, AV.RL.mono h l vs e, r⟩
theorem AV.RL.mono {M M' : Mp} (h : Le M M') : ∀ (l : List AV) (vs : List Value), AV.RL M l vs → AV.RL M' l vs
  | [], _, r => r
  | a :: l, _, r => by
    simp only [AV.RL] at r ⊢
    obtain ⟨v, vs', r1, r2, r3⟩ := r
    exact ⟨v, vs', AV.R.mono h a v r1, AV.RL.mono h l vs' r2, r3⟩
end

def TR (M : Mp) (tm : Tr AV) (tmps : Array Value) : Prop := ∀ n, ((tm.get (n + 1)).getD undefA).R M (tmps.getD n undef)
theorem TR.mono {M M' : Mp} (h : Le M M') {tm : Tr AV} {tmps : Array Value} (r : TR M tm tmps) : TR M' tm tmps := fun n => AV.R.mono h _ _ (r n)

def EL (M : Mp) : List (AV × AV × Nat) → List MapEntry → Prop
  | [], l => l = []
  | e :: es, l => ∃ k v l', e.1.R M k ∧ e.2.1.R M v ∧ EL M es l' ∧ l = { key := k, val := v, born := e.2.2 } :: l'
theorem EL.mono {M M' : Mp} (h : Le M M') : ∀ (es : List (AV × AV × Nat)) (l : List MapEntry), EL M es l → EL M' es l
  | [], _, r => r
  | _e :: es, _, ⟨k, v, l', r1, r2, r3, r4⟩ => ⟨k, v, l', AV.R.mono h _ _ r1, AV.R.mono h _ _ r2, EL.mono h es l' r3, r4⟩

/-- A map's entries are numbers at numbers, no key twice. -/
structure MapY (k kv : IntKind) (p : Int → Bool) (v : Int → Int) (l : List MapEntry) : Prop where
  ent : ∀ e, e ∈ l → ∃ n, e.key = .int k n ∧ e.val = .int kv (v n) ∧ p n = true
  has : ∀ n, p n = true → ∃ e, e ∈ l ∧ e.key = .int k n
  one : l.Pairwise fun a b => a.key ≠ b.key
def ObR (M : Mp) (κ : Nat) : AO → Obj → Prop
  | .cells c e g, o => ∃ vs rest, AV.RL M c vs ∧ o = .cells (vs ++ rest).toArray e (0, 0) ∧ (match g with | none => rest = [] | some z => (vs ++ rest).length = κ * z)
  | .map es ck, o => ∃ l, EL M es l ∧ o = .map l.toArray ck
  | .loop st pe tm sz ps asg bo D, o => ∃ fn tmps b c, M D = some (b, c) ∧ TR M tm tmps ∧ tmps.size = sz ∧
      o = .loop { state := st, pending := pe, fn, tmps, params := ps, assign := asg, body := bo, defers := b }
  | .dfr op, o => o = .deferred (if op then some [] else none)
  | .sit l pos, o => o = .stringIter ⟨l.toArray⟩ pos
  | .mapy k kv p v, o => ∃ l ck, o = .map l.toArray ck ∧ MapY k kv p v l
  | .arr true _ z n f, ob => ∃ cs e fr, ob = .cells cs e fr ∧ ∀ i, i < n → ∀ j, j < z → ∃ v, cs[κ + i * z + j]? = some v ∧ v.oneCell' = true ∧ (f i j).R M v
  | .arr false et z n f, ob => ∃ cs, ob = .cells cs et (0, 0) ∧ cs.size = κ * z ∧ n ≤ κ ∧ ∀ i, i < n → ∀ j, j < z → ∃ v, cs[i * z + j]? = some v ∧ v.oneCell' = true ∧ (f i j).R M v
theorem ObR.mono {M M' : Mp} (h : Le M M') {κ : Nat} : ∀ (a : AO) (o : Obj), ObR M κ a o → ObR M' κ a o
  | .cells c _ _, _, ⟨vs, rest, r, q⟩ => ⟨vs, rest, AV.RL.mono h c vs r, q⟩
  | .map es _, _, ⟨l, r, q⟩ => ⟨l, EL.mono h es l r, q⟩
  | .loop _ _ _ _ _ _ _ _, _, ⟨fn, tmps, b, c, r, t, q⟩ => ⟨fn, tmps, b, c, h _ _ r, t.mono h, q⟩
  | .dfr _, _, r => r
  | .sit _ _, _, r => r
  | .mapy _ _ _ _, _, r => r
  | .arr true _ _ _ _, _, ⟨cs, e, fr, r, q⟩ => ⟨cs, e, fr, r, fun i hi j hj => by obtain ⟨v, h1, h2, h3⟩ := q i hi j hj; exact ⟨v, h1, h2, AV.R.mono h _ _ h3⟩⟩
  | .arr false _ _ _ _, _, ⟨cs, r, q1, q2, q⟩ => ⟨cs, r, q1, q2, fun i hi j hj => by obtain ⟨v, h1, h2, h3⟩ := q i hi j hj; exact ⟨v, h1, h2, AV.R.mono h _ _ h3⟩⟩

/-- The package variables hold what they are said to hold. -/
def GW (w : World) : Prop := ∀ g c, GL g = some c → ∃ vs e fr, w.heap[g]? = some (.cells vs.toArray e fr) ∧ AV.RL noM c vs
/-- A block that is only read; a block of no elements, which need not be there. -/
def AO.ro : AO → Bool
  | .arr ro _ _ _ _ => ro
  | _ => false
def AO.Vac : AO → Prop
  | .arr _ _ _ n _ => n = 0
  | _ => False
/-- What the abstract heap says of a world. -/
structure Rel (M : Mp) (h : AH) (w : World) : Prop where
  obj : ∀ id o, h.get id = some o → (o.Vac ∧ M id = none) ∨ ∃ b κ ob, M id = some (b, κ) ∧ w.heap[b]? = some ob ∧ ObR M κ o ob
  inj : ∀ i j b κ κ' o, h.get i = some o → o.ro = false → h.get j ≠ none → M i = some (b, κ) → M j = some (b, κ') → i = j
  wf : ∀ x, h.get x ≠ none → x < h.nx
  gw : GW w
  gf : ∀ x b κ o, h.get x = some o → o.ro = false → M x = some (b, κ) → GL b = none
  fz : ∀ b cs, M.z b = some cs → ∃ e fr, w.heap[b]? = some (.cells cs e fr)
  fo : ∀ i b κ o, h.get i = some o → o.ro = false → M i = some (b, κ) → M.z b = none

/-- What a step of the abstract machine leaves of the heap. -/
structure Ab (h h' : AH) : Prop where
  nx : h.nx ≤ h'.nx
  bs : h'.bs = h.bs
  wl : ∀ x, x ∈ h.wl → x ∈ h'.wl
  log : ∀ x, x < h.bs → x < h.nx → x ∉ h'.wl → h'.get x = h.get x
  dom : ∀ x, h'.get x ≠ none → h.get x ≠ none ∨ (h.nx ≤ x ∧ x < h'.nx)

structure Fr (h h' : AH) (M M' : Mp) (w w' : World) : Prop where
  os : w'.os = w.os
  tape : w'.tape = w.tape
  output : w'.output = w.output
  size : w.heap.size ≤ w'.heap.size
  ext : Le M M'
  only : ∀ id, M' id ≠ M id → h.nx ≤ id ∧ id < h'.nx
  keep : ∀ k, k < w.heap.size → (∀ id κ o, h.get id = some o → o.ro = false → M id ≠ some (k, κ)) → w'.heap[k]? = w.heap[k]?
  range : ∀ id b κ o', h'.get id = some o' → M' id = some (b, κ) → w.heap.size ≤ b ∨ ∃ i κ' o, h.get i = some o ∧ M i = some (b, κ') ∧ (o'.ro = false → o.ro = false)
  zx : ∀ b cs, M'.z b = some cs → M.z b = some cs ∨ w.heap.size ≤ b ∨ ∃ i κ o, h.get i = some o ∧ o.ro = false ∧ M i = some (b, κ)

def Fresh (M : Mp) (h h' : AH) : Prop := ∀ id, h.nx ≤ id → id < h'.nx → M id = none

theorem Ab.refl (h : AH) : Ab h h := ⟨Nat.le_refl _, rfl, fun _ h => h, fun _ _ _ _ => rfl, fun _ h => .inl h⟩
theorem Ab.trans {a b c : AH} (h : Ab a b) (k : Ab b c) : Ab a c where
  nx := Nat.le_trans h.nx k.nx
  bs := k.bs.trans h.bs
  wl := fun x hx => k.wl x (h.wl x hx)
  log := fun x hx hy hn => (k.log x (by rw [h.bs]; exact hx) (Nat.lt_of_lt_of_le hy h.nx) hn).trans (h.log x hx hy (fun hm => hn (k.wl x hm)))
  dom := fun x hx => by
    rcases k.dom x hx with h1 | h1
    · rcases h.dom x h1 with h2 | h2
      · exact .inl h2
      · exact .inr ⟨h2.1, Nat.lt_of_lt_of_le h2.2 k.nx⟩
    · exact .inr ⟨Nat.le_trans h.nx h1.1, h1.2⟩
theorem Fr.refl (h : AH) (M : Mp) {w : World} {_k : Rel M h w} : Fr h h M M w w :=
  ⟨rfl, rfl, rfl, Nat.le_refl _, Le.refl M, fun _ e => absurd rfl e, fun _ _ _ => rfl, fun id _b κ o h1 h2 => .inr ⟨id, κ, o, h1, h2, fun e => e⟩, fun _ _ e => .inl e⟩
theorem Fr.same (h : AH) (M : Mp) (w : World) : Fr h h M M w w :=
  ⟨rfl, rfl, rfl, Nat.le_refl _, Le.refl M, fun _ e => absurd rfl e, fun _ _ _ => rfl, fun id _b κ o h1 h2 => .inr ⟨id, κ, o, h1, h2, fun e => e⟩, fun _ _ e => .inl e⟩
theorem Fr.trans {a b c : AH} {M N O : Mp} {u v w : World} (hab : a.nx ≤ b.nx) (hbc : b.nx ≤ c.nx) (h : Fr a b M N u v) (k : Fr b c N O v w) : Fr a c M O u w where
  os := k.os.trans h.os
  tape := k.tape.trans h.tape
  output := k.output.trans h.output
  size := Nat.le_trans h.size k.size
  ext := h.ext.trans k.ext
  only := fun id e => by
    by_cases hn : N id = M id
    · have := k.only id (by rw [hn]; exact e); omega
    · have := h.only id hn; omega
  keep := fun i hi hn => by
    rw [k.keep i (Nat.lt_of_lt_of_le hi h.size) (fun id κ o hg hr he => ?_), h.keep i hi hn]
    rcases h.range id i κ o hg he with h1 | ⟨j, κ', o2, h1, h2, h3⟩
    · omega
    · exact hn j κ' o2 h1 (h3 hr) h2
  range := fun id b' κ o hg he => by
    rcases k.range id b' κ o hg he with h1 | ⟨j, κ', o2, h1, h2, h3⟩
    · exact .inl (Nat.le_trans h.size h1)
    · rcases h.range j b' κ' o2 h1 h2 with q | ⟨i, κ2, o3, q1, q2, q3⟩
      · exact .inl q
      · exact .inr ⟨i, κ2, o3, q1, q2, fun e => q3 (h3 e)⟩
  zx := fun b cs e => by
    rcases k.zx b cs e with q | q | ⟨i, κ, o, q1, q2, q3⟩
    · exact h.zx b cs q
    · exact .inr (.inl (Nat.le_trans h.size q))
    · rcases h.range i b κ o q1 q3 with r | ⟨j, κ', o', r1, r2, r3⟩
      · exact .inr (.inl r)
      · exact .inr (.inr ⟨j, κ', o', r1, r3 q2, r2⟩)
theorem Fresh.left {M : Mp} {a b c : AH} (h : Fresh M a c) (k : b.nx ≤ c.nx) : Fresh M a b := fun id h1 h2 => h id h1 (Nat.lt_of_lt_of_le h2 k)
theorem Fresh.right {M N : Mp} {a b c : AH} {u v : World} (h : Fresh M a c) (k : a.nx ≤ b.nx) (f : Fr a b M N u v) : Fresh N b c := fun id h1 h2 => by
  by_cases hn : N id = M id
  · rw [hn]; exact h id (Nat.le_trans k h1) h2
  · have := f.only id hn; omega
end Go.Proofs.YtlfehgagnelbhaaGreatDoor.Ex
