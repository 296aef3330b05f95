/- Walks by symbols: which temporaries a piece of code writes; how one state is found in another. -/
import Derived.Test.YtiikiphkhfmlcaaGreatDoorWa
noncomputable section
namespace Go.Proofs.YtiikiphkhfmlcaaGreatDoor.Ex
open Go

def wrO (o : Oper) : List Nat := o.dst.toList
def wrC : Code → List Nat
  | .region _ ops _ => ops.toList.flatMap wrO
  | .seq a b => wrC a ++ wrC b
  | .cond _ a b => wrC a ++ wrC b
  | .block _ c => wrC c
  | .loop c => wrC c
  | .scope c => wrC c
  | _ => []
section
variable {P : Program}

theorem putA_tm {s s' : St} {dst : Option Tmp} {v : AV} (h : putA s dst v = some s') (t : Nat) (ht : t ∉ dst.toList) : s'.tm.get (t + 1) = s.tm.get (t + 1) := by
  rw [putA_eq] at h
  split at h
  · simp only [Option.some.injEq] at h; subst h; rfl
  · rename_i d
    simp only [Bool.cond_eq_ite] at h
    split at h
    · split at h
      · rename_i tm htm
        simp only [Option.some.injEq] at h; subst h
        rw [Tr.get_set _ _ _ _ _ htm, if_neg (by simp at ht; omega)]
      · cases h
    · cases h
theorem opsA_wr {rec : Rc} {ops : List Oper} : ∀ {l : List Oper} {s s' : St}, opsA P rec ops l s = some s' → ∀ t, t ∉ l.flatMap wrO → s'.tm.get (t + 1) = s.tm.get (t + 1)
  | [], s, s', h, t, _ => by simp only [opsA_nil, Option.some.injEq] at h; subst h; rfl
  | o :: rest, s, s', h, t, ht => by
    simp only [List.flatMap_cons, List.mem_append, not_or] at ht
    rw [opsA_cons] at h
    split at h
    · split at h
      · split at h
        · rename_i s1 hp
          rw [opsA_wr h t ht.2, putA_tm hp t ht.1]
        · cases h
      · cases h
    · split at h
      · rename_i s1 hp
        rw [opsA_wr h t ht.2, putA_tm hp t ht.1]
      · cases h
    · cases h
theorem drawA_wr {rec : Rc} {ops : List Oper} : ∀ {l : List Oper} {i : Nat} {recs : List DR} {s s' : St}, drawA P rec ops l i recs s = some s' → ∀ t, t ∉ l.flatMap wrO → s'.tm.get (t + 1) = s.tm.get (t + 1)
  | [], _, _, s, s', h, t, _ => by simp only [drawA, Option.some.injEq] at h; subst h; rfl
  | o :: rest, i, recs, s, s', h, t, ht => by
    simp only [List.flatMap_cons, List.mem_append, not_or] at ht
    rw [drawA_cons] at h
    simp only at h
    split at h
    · cases h
    · simp only [Bool.cond_eq_ite] at h
      split at h
      · split at h
        · split at h
          · split at h
            · split at h
              · rename_i s1 hp
                rw [drawA_wr h t ht.2, putA_tm hp t ht.1]
              · cases h
            · cases h
          · cases h
        · split at h
          · rename_i s1 hp
            rw [drawA_wr h t ht.2, putA_tm hp t ht.1]
          · cases h
        · cases h
      · cases h
theorem loopA_wr {rec : Rc} {c : Code} (hr : ∀ s x s', rec.code c s = some (x, s') → ∀ t, t ∉ wrC c → s'.tm.get (t + 1) = s.tm.get (t + 1)) : ∀ {m : Nat} {s s' : St} {x : AX}, loopA rec m c s = some (x, s') → ∀ t, t ∉ wrC c → s'.tm.get (t + 1) = s.tm.get (t + 1)
  | 0, s, s', x, h, _, _ => by simp [loopA] at h
  | m + 1, s, s', x, h, t, ht => by
    simp only [loopA] at h
    split at h
    · rename_i s1 h1
      rw [loopA_wr hr h t ht, hr _ _ _ h1 t ht]
    · exact hr _ _ _ h t ht
theorem exec_wr {sm : FuncId → Option Sm} : ∀ (n : Nat) (c : Code) (s : St) (x : AX) (s' : St), exec P sm n c s = some (x, s') → ∀ t, t ∉ wrC c → s'.tm.get (t + 1) = s.tm.get (t + 1)
  | 0, c, s, x, s', h, _, _ => by simp [exec] at h
  | n + 1, c, s, x, s', h, t, ht => by
    have h : execStep P ⟨exec P sm n, sm⟩ n c s = some (x, s') := h
    have ih := exec_wr (sm := sm) n
    rw [execStep_eq] at h
    split at h
    · simp only [Option.some.injEq, Prod.mk.injEq] at h; obtain ⟨_, rfl⟩ := h; rfl
    · simp only [Option.some.injEq, Prod.mk.injEq] at h; obtain ⟨_, rfl⟩ := h; rfl
    · rename_i a b
      simp only [wrC, List.mem_append, not_or] at ht
      split at h
      · rename_i s1 h1
        rw [ih _ _ _ _ h t ht.2, ih _ _ _ _ h1 t ht.1]
      · exact ih _ _ _ _ h t ht.1
    · rename_i c a b
      simp only [wrC, List.mem_append, not_or] at ht
      split at h
      · simp only [Bool.cond_eq_ite] at h
        split at h
        · exact ih _ _ _ _ h t ht.1
        · exact ih _ _ _ _ h t ht.2
      · simp only [Bool.cond_eq_ite] at h
        split at h
        · exact ih _ _ _ _ h t ht.1
        · exact ih _ _ _ _ h t ht.2
      · cases h
    · rename_i id c
      simp only [wrC] at ht
      split at h
      · rename_i j s1 h1
        simp only [Bool.cond_eq_ite] at h
        split at h <;> (simp only [Option.some.injEq, Prod.mk.injEq] at h; obtain ⟨_, rfl⟩ := h; exact ih _ _ _ _ h1 t ht)
      · exact ih _ _ _ _ h t ht
    · exact loopA_wr (fun s x s' h => ih _ s x s' h) h t ht
    · simp only [Option.some.injEq, Prod.mk.injEq] at h; obtain ⟨_, rfl⟩ := h; rfl
    · simp only [Option.some.injEq, Prod.mk.injEq] at h; obtain ⟨_, rfl⟩ := h; rfl
    · rename_i id ops
      split at h
      · rename_i s1 h1
        simp only [Option.some.injEq, Prod.mk.injEq] at h; obtain ⟨_, rfl⟩ := h
        exact opsA_wr h1 t ht
      · cases h
    · rename_i id ops
      split at h
      · rename_i s1 h1
        simp only [Option.some.injEq, Prod.mk.injEq] at h; obtain ⟨_, rfl⟩ := h
        exact drawA_wr h1 t ht
      · cases h
    · have hj : ∀ c s, (c = .ret ∨ ∃ id, c = .exit id) → ∀ x s', exec P sm n c s = some (x, s') → s' = s := fun c s hc x s' e => by
        cases n with
        | zero => simp [exec] at e
        | succ n =>
          rcases hc with rfl | ⟨id, rfl⟩
          · simp only [exec, execStep_eq, Option.some.injEq, Prod.mk.injEq] at e; exact e.2.symm
          · simp only [exec, execStep_eq, Option.some.injEq, Prod.mk.injEq] at e; exact e.2.symm
      unfold rangeFuncA at h
      split at h
      · split at h
        · split at h
          · split at h
            · split at h
              · cases h
              · split at h
                · split at h
                  · simp only [Option.some.injEq, Prod.mk.injEq] at h; obtain ⟨_, rfl⟩ := h; rfl
                  · rw [hj _ _ (.inl rfl) _ _ h]
                  · rw [hj _ _ (.inr ⟨_, rfl⟩) _ _ h]
                  · cases h
                · cases h
              · cases h
            · cases h
          · cases h
        · cases h
      · cases h
    · exact ih _ _ _ _ h t ht
    · cases h
end

/-! One value, one block, in another heap: by which other numbers blocks go. -/
abbrev Ren := List (Nat × Nat)
def Ren.at (ρ : Ren) (id : Nat) : Option Nat :=
  match ρ with
  | [] => none
  | (c, a) :: l => bif Nat.beq c id then some a else Ren.at l id
def bindR (x0 c a : Nat) (ρ : Ren) (K : Ren → Prop) : Prop :=
  bif Nat.blt c x0 then (bif Nat.beq c a then K ρ else False) else bif Nat.blt c 4294967296 then (match ρ.at c with
  | some a' => bif Nat.beq a a' then K ρ else False
  | none => K ((c, a) :: ρ)) else False
/-- A block that nobody writes from here on: so it stands among the others. -/
def frzM (a : Nat) : Nat := Nat.add 4294967296 a
def bindF (a : Nat) (ρ : Ren) (K : Ren → Prop) : Prop :=
  match ρ.at (frzM a) with
  | some a' => bif Nat.beq a a' then K ρ else False
  | none => K ((frzM a, a) :: ρ)
/-- Scalars. -/
def cmpC (c a : AV) : Prop :=
  match yI c, yI a with
  | some (k, n), some (k', m) => bif eqK k k' then n = m else False
  | _, _ => match yB c, yB a with
    | some x, some y => x = y
    | _, _ => match yS c, yS a with
      | some x, some y => x = y
      | _, _ => False
def cmpJ (p : AV → AV → Prop) (f g : Nat → AV) : Nat → Nat → Prop
  | 0, _ => True
  | n + 1, j => p (f j) (g j) ∧ cmpJ p f g n (Nat.succ j)
/-- Values without blocks of their own. -/
def cmpP : Nat → AV → AV → Prop
  | 0, _, _ => False
  | d + 1, c, a => match c with
    | .lst x nil z n f => match a with
      | .lst x' nil' z' n' f' => bif Nat.beq z z' && (bif x then x' else true) then nil = nil' ∧ n = n' ∧ ∀ i, i < n → cmpJ (cmpP d) (f i) (f' i) z 0 else False
      | .ns => nil = true ∧ n = 0
      | _ => False
    | .np => match a with | .np => True | _ => False
    | .ns => match a with | .ns => True | _ => False
    | .ni => match a with | .ni => True | _ => False
    | c => cmpC c a
def litG (l : List AV) (j : Nat) : AV := match nthA l j with | some v => v | none => .np
/-- Elements that are written out. -/
def cmpEs (z : Nat) (f : Nat → Nat → AV) : Nat → Nat → List AV → Prop
  | 0, _, _ => True
  | n + 1, i, l => cmpJ (cmpP 3) (f i) (litG l) z 0 ∧ cmpEs z f n (Nat.succ i) (l.drop z)
def roomOk (u : Bool) (g : Option Nat) (z cap len n : Nat) : Bool :=
  match u with
  | false => Nat.ble len cap
  | true => match g with | some z' => Nat.beq z z' && Nat.blt 0 z && Nat.ble ((cap + len) * z) n | none => false
def cmpI (k : IntKind) (n : Int) (a : AV) (ρ : Ren) (K : Ren → Prop) : Prop :=
  match yI a with
  | some (k', m) => bif eqK k k' then n = m ∧ K ρ else False
  | none => False
def cmpB (b : Bool) (a : AV) (ρ : Ren) (K : Ren → Prop) : Prop := match yB a with | some y => b = y ∧ K ρ | none => False
def cmpS (l : List UInt8) (a : AV) (ρ : Ren) (K : Ren → Prop) : Prop := match yS a with | some y => l = y ∧ K ρ | none => False
mutual
def cmpV (x0 : Nat) (h : AH) : AV → AV → Ren → (Ren → Prop) → Prop
  | .i k n, a, ρ, K => cmpI k n a ρ K
  | .y k n, a, ρ, K => cmpI k n a ρ K
  | .b x, a, ρ, K => cmpB x a ρ K
  | .yb x, a, ρ, K => cmpB x a ρ K
  | .s l, a, ρ, K => cmpS l a ρ K
  | .ys l, a, ρ, K => cmpS l a ρ K
  | .ptr id off, a, ρ, K => match a with | .ptr id' off' => bif Nat.beq off off' then bindR x0 id id' ρ K else False | _ => False
  | .np, a, ρ, K => match a with | .np => K ρ | _ => False
  | .jk, a, ρ, K => bif isCell a then K ρ else False
  | .ns, a, ρ, K => match a with | .ns => K ρ | _ => False
  | .es, a, ρ, K => match a with | .es => K ρ | _ => False
  | .nm, a, ρ, K => match a with | .nm => K ρ | _ => False
  | .nf, a, ρ, K => match a with | .nf => K ρ | _ => False
  | .ni, a, ρ, K => match a with | .ni => K ρ | _ => False
  | .sl id off len cap u, a, ρ, K => match a with
    | .sl id' off' len' cap' u' => bif Nat.beq off off' && Nat.beq len len' && Nat.beq cap cap' && (u == u') then bindR x0 id id' ρ K else False
    | _ => False
  | .mp id, a, ρ, K => match a with | .mp id' => bindR x0 id id' ρ K | _ => False
  | .yl id, a, ρ, K => match a with | .yl id' => bindR x0 id id' ρ K | _ => False
  | .fn f caps, a, ρ, K => match a with | .fn f' caps' => bif Nat.beq f f' then cmpL x0 h caps caps' ρ K else False | _ => False
  | .ifc t v, a, ρ, K => match a with | .ifc t' v' => bif Nat.beq t t' then cmpV x0 h v v' ρ K else False | _ => False
  | .agg l, a, ρ, K => match a with | .agg l' => cmpL x0 h l l' ρ K | _ => False
  | .tup l, a, ρ, K => match a with | .tup l' => cmpL x0 h l l' ρ K | _ => False
  | .o _, _, _, _ => False
  | .gl g off, a, ρ, K => match a with | .gl g' off' => bif Nat.beq g g' && Nat.beq off off' then K ρ else False | _ => False
  | .ysl ro nil id z o n, a, ρ, K => match a with
    | .ysl ro' nil' id' z' o' n' => bif (ro == ro') && Nat.beq z z' then nil = nil' ∧ o = o' ∧ n = n' ∧ bindR x0 id id' ρ K else False
    | .ns => nil = true ∧ n = 0 ∧ K ρ
    | .sl id' 0 len 0 true => match h.get id' with
      | some (.cells c _ (some z')) => bif !ro && Nat.beq z z' && Nat.blt 0 z && Nat.beq c.length (len * z) && Nat.blt 0 len then nil = false ∧ o = 0 ∧ n = len ∧ bindR x0 id id' ρ K else False
      | _ => False
    | _ => False
  | .ypt ro id z i j, a, ρ, K => match a with
    | .ypt ro' id' z' i' j' => bif (ro == ro') && Nat.beq z z' && Nat.beq j j' then i = i' ∧ bindR x0 id id' ρ K else False
    | _ => False
  | .ye nil, a, ρ, K => match a with | .ye nil' => nil = nil' ∧ K ρ | _ => False
  | .lst x nil z n f, a, ρ, K => match a with
    | .lst x' nil' z' n' f' => cmpP 3 (.lst x nil z n f) (.lst x' nil' z' n' f') ∧ K ρ
    | .ns => nil = true ∧ n = 0 ∧ K ρ
    | .es => bif x then False else nil = false ∧ n = 0 ∧ K ρ
    | .ye nil' => nil = nil' ∧ n = 0 ∧ K ρ
    | .ysl false nil' id z' o n' => match h.get id with
      | some (.arr false _ z2 n2 g) => bif Nat.beq z z' && Nat.beq z z2 && !x then nil = nil' ∧ n = n' ∧ yNadd o n' ≤ n2 ∧ (∀ i, i < n → cmpJ (cmpP 3) (f i) (g (yNadd o i)) z 0) ∧ bindF id ρ K else False
      | _ => False
    | .sl id off len cap u => bif Nat.beq len 0 && !x then nil = false ∧ n = 0 ∧ K ρ else match h.get id with
      | some (.cells c _ g) => match sliceA c off (len * z) with
        | some l => bif (bif x then !u && Nat.beq len cap else true) && Nat.blt 0 len && roomOk u g z cap len c.length && allCell l then nil = false ∧ n = len ∧ cmpEs z f len 0 l ∧ bindF id ρ K else False
        | none => False
      | _ => False
    | _ => False
  | .lp _ _ _, _, _, _ => False
def cmpL (x0 : Nat) (h : AH) : List AV → List AV → Ren → (Ren → Prop) → Prop
  | [], l, ρ, K => match l with | [] => K ρ | _ => False
  | c :: l, as, ρ, K => match as with | a :: as' => cmpV x0 h c a ρ (fun ρ' => cmpL x0 h l as' ρ' K) | [] => False
end

def cmpM (x0 : Nat) (h : AH) : List (AV × AV × Nat) → List (AV × AV × Nat) → Ren → (Ren → Prop) → Prop
  | [], l, ρ, K => match l with | [] => K ρ | _ => False
  | (k, v, b) :: l, as, ρ, K => match as with | (k', v', b') :: as' => cmpV x0 h k k' ρ (fun ρ1 => cmpV x0 h v v' ρ1 (fun ρ2 => b = b' ∧ cmpM x0 h l as' ρ2 K)) | [] => False
def sameG : Option Nat → Option Nat → Bool
  | none, none => true
  | some a, some b => Nat.beq a b
  | _, _ => false
def cmpO (x0 : Nat) (h : AH) (c a : AO) (ρ : Ren) (K : Ren → Prop) : Prop :=
  match c, a with
  | .cells l e g, .cells l' e' g' => bif Nat.beq e e' && sameG g g' then cmpL x0 h l l' ρ K else False
  | .arr ro e z n f, .arr ro' e' z' n' f' => bif (ro == ro') && Nat.beq e e' && Nat.beq z z' then n = n' ∧ (∀ i, i < n → cmpJ (cmpP 3) (f i) (f' i) z 0) ∧ K ρ else False
  | .arr false e z n f, .cells l e' (some z') => bif Nat.beq e e' && Nat.beq z z' && Nat.blt 0 z && Nat.beq (l.length / z * z) l.length then n = l.length / z ∧ cmpEs z f (l.length / z) 0 l ∧ K ρ else False
  | .map es ck, .map es' ck' => ck = ck' ∧ cmpM x0 h es es' ρ K
  | .mapy k kv p v, .mapy k' kv' p' v' => bif eqK k k' && eqK kv kv' then (∀ x, p x = p' x ∧ (p x = true → v x = v' x)) ∧ K ρ else False
  | .mapy _ _ p _, .map [] _ => (∀ x, p x = false) ∧ K ρ
  | .dfr b, .dfr b' => bif b == b' then K ρ else False
  | _, _ => False

theorem beqN {a b : Nat} (h : Nat.beq a b = true) : a = b := Nat.eq_of_beq_eq_true h
/-- Is it frozen? -/
def frzB (ρ : Ren) (M : Mp) (b : Nat) : Bool := ρ.any fun p => Nat.beq p.1 (frzM p.2) && (match ρ.at p.1 with | some a => Nat.beq a p.2 | none => false) && (match M p.2 with | some (b', _) => Nat.beq b b' | none => false)
theorem Ren.at_mem {ρ : Ren} {c a : Nat} (h : ρ.at c = some a) : (c, a) ∈ ρ := by
  induction ρ with
  | nil => simp [Ren.at] at h
  | cons p l ih =>
    obtain ⟨c', b⟩ := p
    unfold Ren.at at h
    simp only [nbeq, Bool.cond_decide] at h
    split at h
    · rename_i e; subst e; simp only [Option.some.injEq] at h; subst h; simp
    · exact List.mem_cons_of_mem _ (ih h)
theorem frzB_iff {ρ : Ren} {M : Mp} {b : Nat} : frzB ρ M b = true ↔ ∃ a κ, ρ.at (frzM a) = some a ∧ M a = some (b, κ) := by
  unfold frzB
  rw [List.any_eq_true]
  constructor
  · rintro ⟨⟨c, a⟩, _, h⟩
    simp only [Bool.and_eq_true, nbeq, decide_eq_true_eq] at h
    obtain ⟨⟨rfl, h2⟩, h3⟩ := h
    split at h2
    · rename_i a' ha
      simp only [decide_eq_true_eq] at h2; subst h2
      split at h3
      · rename_i b' κ hM
        simp only [decide_eq_true_eq] at h3; subst h3
        exact ⟨a', κ, ha, hM⟩
      · cases h3
    · cases h2
  · rintro ⟨a, κ, h1, h2⟩
    exact ⟨(frzM a, a), Ren.at_mem h1, by simp [h1, h2]⟩
def cellsW (w : World) (b : Nat) : Option (Array Value) := match w.heap[b]? with | some (.cells cs _ _) => some cs | _ => none
def MR (x0 : Nat) (ρ : Ren) (M : Mp) (C : Nat → Option (Array Value)) : Mp :=
  ⟨fun id => if id < x0 then M id else if 4294967296 ≤ id then none else match ρ.at id with | some a => M a | none => none, fun b => match M.z b with | some cs => some cs | none => if frzB ρ M b then C b else none⟩
def Ext (ρ ρ' : Ren) : Prop := ∀ c a, ρ.at c = some a → ρ'.at c = some a
theorem Ext.refl (ρ : Ren) : Ext ρ ρ := fun _ _ h => h
theorem Ext.trans {a b c : Ren} (h : Ext a b) (k : Ext b c) : Ext a c := fun x y e => k x y (h x y e)
theorem MR_le {x0 : Nat} {ρ ρ' : Ren} (h : Ext ρ ρ') (M : Mp) {C : Nat → Option (Array Value)} : Le (MR x0 ρ M C) (MR x0 ρ' M C) := ⟨fun id p e => by
  unfold MR at e ⊢
  simp only at e ⊢
  split
  · rename_i hlt; rw [if_pos hlt] at e; exact e
  · rename_i hlt
    rw [if_neg hlt] at e
    split
    · rename_i h2; rw [if_pos h2] at e; exact e
    · rename_i h2
      rw [if_neg h2] at e
      cases ha : ρ.at id with
      | none => rw [ha] at e; cases e
      | some a => rw [ha] at e; rw [h _ _ ha]; exact e, fun b cs e => by
  unfold MR at e ⊢
  simp only at e ⊢
  cases hz : M.z b with
  | some cs' => rw [hz] at e; exact e
  | none =>
    rw [hz] at e
    simp only at e ⊢
    split at e
    · rename_i hf
      obtain ⟨a, κ, h1, h2⟩ := frzB_iff.1 hf
      rw [if_pos (frzB_iff.2 ⟨a, κ, h _ _ h1, h2⟩)]; exact e
    · cases e⟩
theorem MR_zm {x0 : Nat} {ρ : Ren} {M : Mp} {C : Nat → Option (Array Value)} {b : Nat} {cs : Array Value} (e : M.z b = some cs) : (MR x0 ρ M C).z b = some cs := by
  unfold MR; simp only [e]
theorem MR_zf {x0 : Nat} {ρ : Ren} {M : Mp} {h : AH} {w : World} {a b κ : Nat} {cs : Array Value} {e : TypeId} {fr : Nat × Nat} (r : Rel M h w) (h1 : ρ.at (frzM a) = some a) (h2 : M a = some (b, κ)) (h3 : w.heap[b]? = some (.cells cs e fr)) : (MR x0 ρ M (cellsW w)).z b = some cs := by
  unfold MR
  cases hz : M.z b with
  | some cs' =>
    obtain ⟨_, _, h4⟩ := r.fz b cs' hz
    rw [h3] at h4
    simp only [Option.some.injEq, Obj.cells.injEq] at h4
    simp only [hz, h4.1]
  | none => simp only [hz, frzB_iff.2 ⟨a, κ, h1, h2⟩, if_true, cellsW, h3]
theorem bindF_ok {a : Nat} {ρ : Ren} {K : Ren → Prop} (h : bindF a ρ K) : ∃ ρ', Ext ρ ρ' ∧ K ρ' ∧ ρ'.at (frzM a) = some a := by
  unfold bindF at h
  split at h
  · rename_i a' ha
    simp only [nbeq, Bool.cond_decide] at h
    split at h
    · rename_i e; subst e; exact ⟨ρ, Ext.refl ρ, h, ha⟩
    · exact h.elim
  · rename_i ha
    refine ⟨(frzM a, a) :: ρ, fun c' a' e => ?_, h, by simp [Ren.at]⟩
    unfold Ren.at
    by_cases hc : frzM a = c'
    · subst hc; rw [ha] at e; cases e
    · simp only [nbeq, hc, decide_false, cond_false]; exact e
theorem bindR_ok {x0 c a : Nat} {ρ : Ren} {K : Ren → Prop} (h : bindR x0 c a ρ K) : ∃ ρ', Ext ρ ρ' ∧ K ρ' ∧ ∀ M C p, M.f a = some p → MR x0 ρ' M C c = some p := by
  unfold bindR at h
  simp only [nblt, nbeq, Bool.cond_decide] at h
  split at h
  · rename_i hlt
    split at h
    · rename_i e; subst e
      exact ⟨ρ, Ext.refl ρ, h, fun M C p e => by unfold MR; simp only; rw [if_pos hlt]; exact e⟩
    · exact h.elim
  · rename_i hlt
    split at h
    case isFalse => exact h.elim
    rename_i hlt2
    have hlt2 : ¬ 4294967296 ≤ c := by omega
    split at h
    · rename_i a' ha
      split at h
      · rename_i e; subst e
        exact ⟨ρ, Ext.refl ρ, h, fun M C p e => by unfold MR; simp only; rw [if_neg hlt, if_neg hlt2, ha]; exact e⟩
      · exact h.elim
    · rename_i ha
      refine ⟨(c, a) :: ρ, fun c' a' e => ?_, h, fun M C p e => ?_⟩
      · unfold Ren.at
        by_cases hc : c = c'
        · subst hc; rw [ha] at e; cases e
        · simp only [nbeq, hc, decide_false, cond_false]; exact e
      · unfold MR; simp only; rw [if_neg hlt, if_neg hlt2]; simp only [Ren.at, nbeq, decide_true, cond_true]; exact e
theorem cmpC_ok {c a : AV} (h : cmpC c a) {M M' : Mp} {u : Value} (r : a.R M u) : c.R M' u ∧ u.oneCell' = true := by
  have hi : ∀ {c : AV} {k n}, yI c = some (k, n) → c.R M' (.int k n) := fun {c k n} hc => by
    unfold yI at hc
    split at hc <;> first | (cases hc; done) | (simp only [Option.some.injEq, Prod.mk.injEq] at hc; obtain ⟨rfl, rfl⟩ := hc; rfl)
  have hb : ∀ {c : AV} {b}, yB c = some b → c.R M' (.bool b) := fun {c b} hc => by
    unfold yB at hc
    split at hc <;> first | (cases hc; done) | (simp only [Option.some.injEq] at hc; subst hc; rfl)
  have hs : ∀ {c : AV} {b}, yS c = some b → c.R M' (.string ⟨b.toArray⟩) := fun {c b} hc => by
    unfold yS at hc
    split at hc <;> first | (cases hc; done) | (simp only [Option.some.injEq] at hc; subst hc; rfl)
  unfold cmpC at h
  split at h
  · rename_i k n k' m h1 h2
    simp only [Bool.cond_eq_ite] at h
    split at h
    · rename_i hk
      subst h
      obtain rfl := eqK_eq hk
      obtain rfl := yI_ok h2 r
      exact ⟨hi h1, rfl⟩
    · exact h.elim
  · split at h
    · rename_i x y h1 h2
      subst h
      obtain rfl := yB_ok h2 r
      exact ⟨hb h1, rfl⟩
    · split at h
      · rename_i x y h1 h2
        subst h
        obtain rfl := yS_ok h2 r
        exact ⟨hs h1, rfl⟩
      · exact h.elim
theorem cmpJ_ok {p : AV → AV → Prop} {f g : Nat → AV} : ∀ {n j : Nat}, cmpJ p f g n j → ∀ q, j ≤ q → q < j + n → p (f q) (g q)
  | 0, j, _, q, h1, h2 => by omega
  | n + 1, j, h, q, h1, h2 => by
    by_cases e : q = j
    · subst e; exact h.1
    · exact cmpJ_ok h.2 q (by omega) (by omega)
theorem bifF {c : Bool} {p : Prop} (h : bif c then p else False) : c = true ∧ p := by
  cases c with
  | true => exact ⟨rfl, h⟩
  | false => exact h.elim
theorem cmpP_ok {M M' : Mp} (hz : ∀ b cs, M.z b = some cs → M'.z b = some cs) : ∀ (d : Nat) {c a : AV} {u : Value}, cmpP d c a → a.R M u → c.R M' u ∧ u.oneCell' = true
  | 0, _, _, _, h, _ => h.elim
  | d + 1, c, a, u, h, r => by
    unfold cmpP at h
    split at h
    · rename_i x nil z n f
      split at h
      · rename_i x' nil' z' n' f'
        obtain ⟨hc, h9⟩ := bifF h
        clear h
        simp only [Bool.and_eq_true, nbeq, decide_eq_true_eq] at hc
        obtain ⟨rfl, hx⟩ := hc
        obtain ⟨rfl, rfl, h⟩ := h9
        have hx : x = true → x' = true := fun e => by subst e; exact hx
        simp only [AV.R] at r ⊢
        rcases r with ⟨h1, h2, rfl⟩ | ⟨h1, h2, a, c, rfl, h3⟩ | ⟨h1, h2, b, off, c, cs, rfl, r2, r3, r4, r5⟩
        · exact ⟨.inl ⟨h1, h2, rfl⟩, rfl⟩
        · exact ⟨.inr (.inl ⟨h1, h2, a, c, rfl, fun e => h3 (hx e)⟩), rfl⟩
        · refine ⟨.inr (.inr ⟨h1, h2, b, off, c, cs, rfl, r2, fun e => r3 (hx e), hz _ _ r4, fun i hi j hj => ?_⟩), rfl⟩
          obtain ⟨u, q1, q2, q3⟩ := r5 i hi j hj
          exact ⟨u, q1, q2, (cmpP_ok hz d (cmpJ_ok (h i hi) j (by omega) (by omega)) q3).1⟩
      · obtain ⟨rfl, rfl⟩ := h
        simp only [AV.R] at r ⊢
        subst r
        exact ⟨.inl ⟨trivial, trivial, rfl⟩, rfl⟩
      · exact h.elim
    · split at h
      · simp only [AV.R] at r ⊢; subst r; exact ⟨rfl, rfl⟩
      · exact h.elim
    · split at h
      · simp only [AV.R] at r ⊢; subst r; exact ⟨rfl, rfl⟩
      · exact h.elim
    · split at h
      · simp only [AV.R] at r ⊢; subst r; exact ⟨rfl, rfl⟩
      · exact h.elim
    · exact cmpC_ok h r
theorem cmpP_np {d : Nat} {c : AV} (h : cmpP d c .np) : c = .np := by
  cases d with
  | zero => exact h.elim
  | succ d =>
    unfold cmpP at h
    split at h
    · exact h.elim
    · rfl
    · exact h.elim
    · exact h.elim
    · exfalso; revert h; unfold cmpC; cases yI c <;> cases yB c <;> cases yS c <;> simp [yI, yB, yS]
theorem cmpEs_ok {z : Nat} {f : Nat → Nat → AV} {M M' : Mp} (hz : ∀ b cs, M.z b = some cs → M'.z b = some cs) : ∀ {n i : Nat} {l : List AV} {vs : List Value}, cmpEs z f n i l → AV.RL M l vs → n * z ≤ l.length → ∀ p, p < n → ∀ j, j < z → ∃ v, vs[p * z + j]? = some v ∧ v.oneCell' = true ∧ (f (i + p) j).R M' v
  | 0, i, l, vs, _, _, _, p, hp, _, _ => by omega
  | n + 1, i, l, vs, h, r, hl, p, hp, j, hj => by
    have hl1 : n * z + z ≤ l.length := by rw [Nat.add_mul] at hl; omega
    cases p with
    | zero =>
      have h1 := cmpJ_ok h.1 j (by omega) (by omega)
      obtain ⟨a, hn⟩ := nthA_lt (l := l) (k := j) (by omega)
      unfold litG at h1
      rw [hn] at h1
      obtain ⟨v, e1, e2⟩ := nthA_get hn r
      obtain ⟨q1, q2⟩ := cmpP_ok hz 3 h1 e2
      exact ⟨v, by simpa using e1, q2, q1⟩
    | succ p =>
      obtain ⟨v, e1, e2, e3⟩ := cmpEs_ok hz h.2 (RL_drop z r) (by simp; omega) p (by omega) j hj
      rw [List.getElem?_drop] at e1
      refine ⟨v, by rw [← e1]; congr 1; rw [Nat.add_mul]; omega, e2, ?_⟩
      rwa [show Nat.succ i + p = i + (p + 1) by omega] at e3
section
variable {x0 : Nat} {h : AH}
theorem cmpI_ok {k : IntKind} {n : Int} {c a : AV} {ρ : Ren} {K : Ren → Prop} (hc : yI c = some (k, n)) (e : cmpI k n a ρ K) : ∃ ρ', Ext ρ ρ' ∧ K ρ' ∧ ∀ M w u, Rel M h w → a.R M u → c.R (MR x0 ρ' M (cellsW w)) u := by
  unfold cmpI at e
  split at e
  · rename_i k' m ha
    simp only [Bool.cond_eq_ite] at e
    split at e
    · rename_i hk
      obtain ⟨rfl, hK⟩ := e
      obtain rfl := eqK_eq hk
      refine ⟨ρ, Ext.refl ρ, hK, fun M w u _ ra => ?_⟩
      obtain rfl := yI_ok ha ra
      unfold yI at hc
      split at hc <;> first | (cases hc; done) | (simp only [Option.some.injEq, Prod.mk.injEq] at hc; obtain ⟨rfl, rfl⟩ := hc; rfl)
    · exact e.elim
  · exact e.elim
theorem cmpB_ok {b : Bool} {c a : AV} {ρ : Ren} {K : Ren → Prop} (hc : yB c = some b) (e : cmpB b a ρ K) : ∃ ρ', Ext ρ ρ' ∧ K ρ' ∧ ∀ M w u, Rel M h w → a.R M u → c.R (MR x0 ρ' M (cellsW w)) u := by
  unfold cmpB at e
  split at e
  · rename_i y ha
    obtain ⟨rfl, hK⟩ := e
    refine ⟨ρ, Ext.refl ρ, hK, fun M w u _ ra => ?_⟩
    obtain rfl := yB_ok ha ra
    unfold yB at hc
    split at hc <;> first | (cases hc; done) | (simp only [Option.some.injEq] at hc; subst hc; rfl)
  · exact e.elim
theorem cmpS_ok {b : List UInt8} {c a : AV} {ρ : Ren} {K : Ren → Prop} (hc : yS c = some b) (e : cmpS b a ρ K) : ∃ ρ', Ext ρ ρ' ∧ K ρ' ∧ ∀ M w u, Rel M h w → a.R M u → c.R (MR x0 ρ' M (cellsW w)) u := by
  unfold cmpS at e
  split at e
  · rename_i y ha
    obtain ⟨rfl, hK⟩ := e
    refine ⟨ρ, Ext.refl ρ, hK, fun M w u _ ra => ?_⟩
    obtain rfl := yS_ok ha ra
    unfold yS at hc
    split at hc <;> first | (cases hc; done) | (simp only [Option.some.injEq] at hc; subst hc; rfl)
  · exact e.elim
theorem same_ok {c a : AV} {ρ : Ren} {K : Ren → Prop} (hK : K ρ) (hr : ∀ (M M' : Mp) u, a.R M u → c.R M' u) : ∃ ρ', Ext ρ ρ' ∧ K ρ' ∧ ∀ M w u, Rel M h w → a.R M u → c.R (MR x0 ρ' M (cellsW w)) u :=
  ⟨ρ, Ext.refl ρ, hK, fun M _ u _ ra => hr M _ u ra⟩
mutual
theorem cmpV_ok : ∀ (c a : AV) (ρ : Ren) (K : Ren → Prop), cmpV x0 h c a ρ K → ∃ ρ', Ext ρ ρ' ∧ K ρ' ∧ ∀ M w u, Rel M h w → a.R M u → c.R (MR x0 ρ' M (cellsW w)) u
  | .i k n, a, ρ, K, e => cmpI_ok rfl e
  | .y k n, a, ρ, K, e => cmpI_ok rfl e
  | .b x, a, ρ, K, e => cmpB_ok rfl e
  | .yb x, a, ρ, K, e => cmpB_ok rfl e
  | .s l, a, ρ, K, e => cmpS_ok rfl e
  | .ys l, a, ρ, K, e => cmpS_ok rfl e
  | .ptr id off, a, ρ, K, e => by
    simp only [cmpV] at e
    split at e
    · simp only [Bool.cond_eq_ite] at e
      split at e
      · rename_i ho
        obtain rfl := beqN ho
        obtain ⟨ρ', h1, h2, h3⟩ := bindR_ok e
        refine ⟨ρ', h1, h2, fun M w u _ ra => ?_⟩
        simp only [AV.R] at ra ⊢
        obtain ⟨b, κ, hM, rfl⟩ := ra
        exact ⟨b, κ, h3 M _ _ hM, rfl⟩
      · exact e.elim
    · exact e.elim
  | .jk, a, ρ, K, e => by
    simp only [cmpV, Bool.cond_eq_ite] at e
    split at e
    · rename_i hc
      exact same_ok e fun _ _ _ r => isCell_one r hc
    · exact e.elim
  | .np, a, ρ, K, e => by
    simp only [cmpV] at e
    split at e
    · exact same_ok e fun _ _ _ r => r
    · exact e.elim
  | .ns, a, ρ, K, e => by
    simp only [cmpV] at e
    split at e
    · exact same_ok e fun _ _ _ r => r
    · exact e.elim
  | .es, a, ρ, K, e => by
    simp only [cmpV] at e
    split at e
    · exact same_ok e fun _ _ _ r => r
    · exact e.elim
  | .nm, a, ρ, K, e => by
    simp only [cmpV] at e
    split at e
    · exact same_ok e fun _ _ _ r => r
    · exact e.elim
  | .nf, a, ρ, K, e => by
    simp only [cmpV] at e
    split at e
    · exact same_ok e fun _ _ _ r => r
    · exact e.elim
  | .ni, a, ρ, K, e => by
    simp only [cmpV] at e
    split at e
    · exact same_ok e fun _ _ _ r => r
    · exact e.elim
  | .sl id off len cap u, a, ρ, K, e => by
    simp only [cmpV] at e
    split at e
    · simp only [Bool.cond_eq_ite] at e
      split at e
      · rename_i ho
        simp only [Bool.and_eq_true, beq_iff_eq, nbeq, decide_eq_true_eq] at ho
        obtain ⟨⟨⟨rfl, rfl⟩, rfl⟩, rfl⟩ := ho
        obtain ⟨ρ', h1, h2, h3⟩ := bindR_ok e
        refine ⟨ρ', h1, h2, fun M w u _ ra => ?_⟩
        simp only [AV.R] at ra ⊢
        obtain ⟨b, κ, hM, rfl⟩ := ra
        exact ⟨b, κ, h3 M _ _ hM, rfl⟩
      · exact e.elim
    · exact e.elim
  | .mp id, a, ρ, K, e => by
    simp only [cmpV] at e
    split at e
    · obtain ⟨ρ', h1, h2, h3⟩ := bindR_ok e
      refine ⟨ρ', h1, h2, fun M w u _ ra => ?_⟩
      simp only [AV.R] at ra ⊢
      obtain ⟨b, κ, hM, rfl⟩ := ra
      exact ⟨b, κ, h3 M _ _ hM, rfl⟩
    · exact e.elim
  | .yl id, a, ρ, K, e => by
    simp only [cmpV] at e
    split at e
    · obtain ⟨ρ', h1, h2, h3⟩ := bindR_ok e
      refine ⟨ρ', h1, h2, fun M w u _ ra => ?_⟩
      simp only [AV.R] at ra ⊢
      obtain ⟨b, κ, hM, rfl⟩ := ra
      exact ⟨b, κ, h3 M _ _ hM, rfl⟩
    · exact e.elim
  | .fn f caps, a, ρ, K, e => by
    simp only [cmpV] at e
    split at e
    · simp only [Bool.cond_eq_ite] at e
      split at e
      · rename_i ho
        obtain rfl := beqN ho
        obtain ⟨ρ', h1, h2, h3⟩ := cmpL_ok caps _ ρ K e
        refine ⟨ρ', h1, h2, fun M w u rr ra => ?_⟩
        simp only [AV.R] at ra ⊢
        obtain ⟨vs, r1, rfl⟩ := ra
        exact ⟨vs, h3 M w vs rr r1, rfl⟩
      · exact e.elim
    · exact e.elim
  | .ifc t v, a, ρ, K, e => by
    simp only [cmpV] at e
    split at e
    · simp only [Bool.cond_eq_ite] at e
      split at e
      · rename_i ho
        obtain rfl := beqN ho
        obtain ⟨ρ', h1, h2, h3⟩ := cmpV_ok v _ ρ K e
        refine ⟨ρ', h1, h2, fun M w u rr ra => ?_⟩
        simp only [AV.R] at ra ⊢
        obtain ⟨x, r1, rfl⟩ := ra
        exact ⟨x, h3 M w x rr r1, rfl⟩
      · exact e.elim
    · exact e.elim
  | .agg l, a, ρ, K, e => by
    simp only [cmpV] at e
    split at e
    · obtain ⟨ρ', h1, h2, h3⟩ := cmpL_ok l _ ρ K e
      refine ⟨ρ', h1, h2, fun M w u rr ra => ?_⟩
      simp only [AV.R] at ra ⊢
      obtain ⟨vs, r1, rfl⟩ := ra
      exact ⟨vs, h3 M w vs rr r1, rfl⟩
    · exact e.elim
  | .tup l, a, ρ, K, e => by
    simp only [cmpV] at e
    split at e
    · obtain ⟨ρ', h1, h2, h3⟩ := cmpL_ok l _ ρ K e
      refine ⟨ρ', h1, h2, fun M w u rr ra => ?_⟩
      simp only [AV.R] at ra ⊢
      obtain ⟨vs, r1, rfl⟩ := ra
      exact ⟨vs, h3 M w vs rr r1, rfl⟩
    · exact e.elim
  | .o _, a, ρ, K, e => by simp only [cmpV] at e
  | .gl g off, a, ρ, K, e => by
    simp only [cmpV] at e
    split at e
    · simp only [Bool.cond_eq_ite] at e
      split at e
      · rename_i ho
        simp only [Bool.and_eq_true, nbeq, decide_eq_true_eq] at ho
        obtain ⟨rfl, rfl⟩ := ho
        exact same_ok e fun _ _ _ r => r
      · exact e.elim
    · exact e.elim
  | .ysl ro nil id z o n, a, ρ, K, e => by
    simp only [cmpV] at e
    split at e
    · simp only [Bool.cond_eq_ite] at e
      split at e
      · rename_i ho
        simp only [Bool.and_eq_true, beq_iff_eq, nbeq, decide_eq_true_eq] at ho
        obtain ⟨rfl, rfl⟩ := ho
        obtain ⟨rfl, rfl, rfl, e⟩ := e
        obtain ⟨ρ', h1, h2, h3⟩ := bindR_ok e
        refine ⟨ρ', h1, h2, fun M w u _ ra => ?_⟩
        simp only [AV.R] at ra ⊢
        rcases ra with ra | ra | ⟨q1, b, κ, c, hM, q2⟩
        · exact .inl ra
        · exact .inr (.inl ra)
        · exact .inr (.inr ⟨q1, b, κ, c, h3 M _ _ hM, q2⟩)
      · exact e.elim
    · obtain ⟨rfl, rfl, e⟩ := e
      refine same_ok e fun M M' u ra => ?_
      simp only [AV.R] at ra ⊢
      exact .inl ⟨trivial, trivial, ra⟩
    · rename_i id' len
      split at e
      · rename_i c et z' hg
        simp only [Bool.cond_eq_ite] at e
        split at e
        · rename_i ho
          simp only [Bool.and_eq_true, nbeq, nblt, decide_eq_true_eq, Bool.not_eq_true'] at ho
          obtain ⟨⟨⟨⟨rfl, rfl⟩, hz⟩, hl⟩, hl0⟩ := ho
          obtain ⟨rfl, rfl, rfl, e⟩ := e
          obtain ⟨ρ', h1, h2, h3⟩ := bindR_ok e
          refine ⟨ρ', h1, h2, fun M w u rr ra => ?_⟩
          simp only [AV.R] at ra ⊢
          obtain ⟨b, κ, hM, rfl⟩ := ra
          obtain ⟨ob, hb, vs, rest, rl, rfl, hκ⟩ := Ob_of rr hg hM
          simp only at hκ
          have hvl := RL_length rl
          have hle : n ≤ κ := by
            have : n * z ≤ κ * z := by rw [← hκ, ← hl, ← hvl]; simp
            exact Nat.le_of_mul_le_mul_right this hz
          exact .inr (.inr ⟨trivial, b, κ, κ, h3 M _ _ hM, by simp, hle, hl0, fun _ => ⟨by simp, by omega⟩⟩)
        · exact e.elim
      · exact e.elim
    · exact e.elim
  | .ypt ro id z i j, a, ρ, K, e => by
    simp only [cmpV] at e
    split at e
    · simp only [Bool.cond_eq_ite] at e
      split at e
      · rename_i ho
        simp only [Bool.and_eq_true, beq_iff_eq, nbeq, decide_eq_true_eq] at ho
        obtain ⟨⟨rfl, rfl⟩, rfl⟩ := ho
        obtain ⟨rfl, e⟩ := e
        obtain ⟨ρ', h1, h2, h3⟩ := bindR_ok e
        refine ⟨ρ', h1, h2, fun M w u _ ra => ?_⟩
        simp only [AV.R] at ra ⊢
        obtain ⟨b, κ, hM, rfl⟩ := ra
        exact ⟨b, κ, h3 M _ _ hM, rfl⟩
      · exact e.elim
    · exact e.elim
  | .ye nil, a, ρ, K, e => by
    simp only [cmpV] at e
    split at e
    · obtain ⟨rfl, e⟩ := e
      exact same_ok e fun _ _ _ r => r
    · exact e.elim
  | .lp _ _ _, a, ρ, K, e => by simp only [cmpV] at e
  | .lst x nil z n f, a, ρ, K, e => by
    simp only [cmpV] at e
    split at e
    · obtain ⟨e1, e2⟩ := e
      exact ⟨ρ, Ext.refl ρ, e2, fun M w u _ ra => (cmpP_ok (fun b cs e => MR_zm e) 3 e1 ra).1⟩
    · obtain ⟨rfl, rfl, e⟩ := e
      refine same_ok e fun M M' u ra => ?_
      simp only [AV.R] at ra ⊢
      exact .inl ⟨trivial, trivial, ra⟩
    · cases x with
      | true => exact e.elim
      | false =>
        obtain ⟨rfl, rfl, e⟩ := e
        refine same_ok e fun M M' u ra => ?_
        simp only [AV.R] at ra ⊢
        obtain ⟨a, c, rfl⟩ := ra
        exact .inr (.inl ⟨trivial, trivial, a, c, rfl, fun e => by cases e⟩)
    · obtain ⟨rfl, rfl, e⟩ := e
      refine same_ok e fun M M' u ra => ?_
      simp only [AV.R] at ra ⊢
      rcases ra with ⟨h1, rfl⟩ | ⟨h1, a, rfl⟩
      · exact .inl ⟨h1, trivial, rfl⟩
      · exact .inr (.inl ⟨h1, trivial, a, 0, rfl, fun _ => rfl⟩)
    · rename_i nil' id z' o n'
      split at e
      case h_2 => exact e.elim
      rename_i et z2 n2 g hg
      simp only [Bool.cond_eq_ite] at e
      split at e
      case isFalse => exact e.elim
      rename_i hc
      simp only [Bool.and_eq_true, nbeq, decide_eq_true_eq, Bool.not_eq_true'] at hc
      obtain ⟨⟨rfl, rfl⟩, rfl⟩ := hc
      obtain ⟨rfl, rfl, hon, hcs, e⟩ := e
      obtain ⟨ρ', h1, h2, h3⟩ := bindF_ok e
      refine ⟨ρ', h1, h2, fun M w u rr ra => ?_⟩
      have hon : o + n ≤ n2 := hon
      simp only [AV.R] at ra ⊢
      rcases ra with ra | ⟨q1, q2, a, c, rfl, q3⟩ | ⟨q1, b, κ, c, hM, rfl, q2, q3, q4⟩
      · exact .inl ra
      · exact .inr (.inl ⟨q1, q2, a, c, rfl, fun e => by cases e⟩)
      · obtain ⟨ob, hb, cs, rfl, hcs2, _, q⟩ := Ob_of rr hg hM
        refine .inr (.inr ⟨q1, q3, b, 0 + o * z, c, cs, by simp, q2, (fun e => by cases e), MR_zf rr h3 hM hb, fun i hi j hj => ?_⟩)
        obtain ⟨v, p1, p2, p3⟩ := q (o + i) (by omega) j hj
        refine ⟨v, by rw [← p1]; congr 1; rw [Nat.add_mul]; omega, p2, (cmpP_ok (fun b cs e => MR_zm e) 3 (cmpJ_ok (hcs i hi) j (by omega) (by omega)) p3).1⟩
    · rename_i id off len cap un
      rcases hz : (Nat.beq len 0 && !x) with _ | _
      rotate_left
      · rw [hz, cond_true] at e
        simp only [Bool.and_eq_true, nbeq, decide_eq_true_eq, Bool.not_eq_true'] at hz
        obtain ⟨rfl, rfl⟩ := hz
        obtain ⟨rfl, rfl, e⟩ := e
        refine same_ok e fun M M' u ra => ?_
        simp only [AV.R] at ra ⊢
        obtain ⟨b, κ, _, rfl⟩ := ra
        exact .inr (.inl ⟨trivial, trivial, _, _, rfl, fun e => by cases e⟩)
      rw [hz, cond_false] at e
      clear hz
      split at e
      case h_2 => exact e.elim
      rename_i c et g hg
      split at e
      case h_2 => exact e.elim
      rename_i l hl
      obtain ⟨hc, e⟩ := bifF e
      simp only [Bool.and_eq_true, nblt, decide_eq_true_eq] at hc
      obtain ⟨⟨⟨hx, hl0⟩, hroom⟩, hall⟩ := hc
      obtain ⟨rfl, rfl, hcs, e⟩ := e
      obtain ⟨ρ', h1, h2, h3⟩ := bindF_ok e
      refine ⟨ρ', h1, h2, fun M w u rr ra => ?_⟩
      simp only [AV.R] at ra ⊢
      obtain ⟨b, κ, hM, rfl⟩ := ra
      obtain ⟨ob, hb, vs, rest, rl, rfl, hκ⟩ := Ob_of rr hg hM
      have hvl := RL_length rl
      obtain ⟨e1, e2⟩ := sliceA_eq hl
      have rl2 : AV.RL M l ((vs.drop off).take (n * z)) := by rw [e1]; exact RL_take _ (RL_drop _ rl)
      have hln : l.length = n * z := by rw [e1]; simp; omega
      have hroom2 : n ≤ (if un = true then κ - cap else cap) := by
        unfold roomOk at hroom
        cases un with
        | false => simpa [nble] using hroom
        | true =>
          simp only at hroom
          cases g with
          | none => cases hroom
          | some z' =>
            simp only [Bool.and_eq_true, nbeq, nblt, nble, decide_eq_true_eq] at hroom
            obtain ⟨⟨hz1, hz⟩, hle⟩ := hroom
            subst hz1
            simp only at hκ
            have : (cap + n) * z ≤ κ * z := by
              rw [← hκ]; refine Nat.le_trans hle ?_; rw [← hvl]; simp
            have := Nat.le_of_mul_le_mul_right this hz
            simp only [if_true]; omega
      refine .inr (.inr ⟨trivial, hl0, b, off, _, (vs ++ rest).toArray, rfl, hroom2, fun e => ?_, MR_zf rr h3 hM hb, fun i hi j hj => ?_⟩)
      · subst e
        have hx : (!un && Nat.beq n cap) = true := hx
        simp only [Bool.and_eq_true, Bool.not_eq_true', nbeq, decide_eq_true_eq] at hx
        obtain ⟨rfl, rfl⟩ := hx
        rfl
      · obtain ⟨v, q1, q2, q3⟩ := cmpEs_ok (M' := MR x0 ρ' M (cellsW w)) (fun b cs e => MR_zm e) hcs rl2 (by omega) i hi j hj
        rw [Nat.zero_add] at q3
        refine ⟨v, ?_, q2, q3⟩
        have hp := place_lt hi hj
        rw [List.getElem?_take, if_pos hp, List.getElem?_drop] at q1
        have hlt := (List.getElem?_eq_some_iff.1 q1).1
        rw [List.getElem?_toArray, Nat.add_assoc, List.getElem?_append_left hlt]; exact q1
    · exact e.elim
theorem cmpL_ok : ∀ (cs as : List AV) (ρ : Ren) (K : Ren → Prop), cmpL x0 h cs as ρ K → ∃ ρ', Ext ρ ρ' ∧ K ρ' ∧ ∀ M w us, Rel M h w → AV.RL M as us → AV.RL (MR x0 ρ' M (cellsW w)) cs us
  | [], as, ρ, K, e => by
    simp only [cmpL] at e
    split at e
    · exact ⟨ρ, Ext.refl ρ, e, fun M w us _ ra => ra⟩
    · exact e.elim
  | c :: l, as, ρ, K, e => by
    simp only [cmpL] at e
    split at e
    · rename_i a as'
      obtain ⟨ρ1, h1, h2, h3⟩ := cmpV_ok c a ρ _ e
      obtain ⟨ρ2, k1, k2, k3⟩ := cmpL_ok l as' ρ1 K h2
      refine ⟨ρ2, h1.trans k1, k2, fun M w us rr ra => ?_⟩
      simp only [AV.RL] at ra ⊢
      obtain ⟨v, vs, r1, r2, rfl⟩ := ra
      exact ⟨v, vs, AV.R.mono (MR_le k1 M) c v (h3 M w v rr r1), k3 M w vs rr r2, rfl⟩
    · exact e.elim
end
end
end Go.Proofs.YtiikiphkhfmlcaaGreatDoor.Ex
