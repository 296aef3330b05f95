/- Walks by symbols: which temporaries a piece of code writes; how one state is found in another. -/
import Derived.Test.YtfpokmglhaenaaaDoorWa
namespace Go.Proofs.YtfpokmglhaenaaaDoor.Ex
open Go

def wrO (o : Oper) : List Nat := o.dst.toList
def wrC : Code → List Nat
  | .region _ ops _ => ops.toList.flatMap wrO
  | .seq a b => wrC a ++ wrC b
  | .cond _ a b => wrC a ++ wrC b
  | .block _ c => wrC c
  | .loop c => wrC c
  | .scope c => wrC c
  | _ => []
section
variable {P : Program}

theorem putA_tm {s s' : St} {dst : Option Tmp} {v : AV} (h : putA s dst v = some s') (t : Nat) (ht : t ∉ dst.toList) : s'.tm.get (t + 1) = s.tm.get (t + 1) := by
  unfold putA at h
  split at h
  · simp only [Option.some.injEq] at h; subst h; rfl
  · rename_i d
    simp only [Bool.cond_eq_ite] at h
    split at h
    · split at h
      · rename_i tm htm
        simp only [Option.some.injEq] at h; subst h
        rw [Tr.get_set _ _ _ _ _ htm, if_neg (by simp at ht; omega)]
      · cases h
    · cases h
theorem opsA_wr {rec : Rc} {ops : List Oper} : ∀ {l : List Oper} {s s' : St}, opsA P rec ops l s = some s' → ∀ t, t ∉ l.flatMap wrO → s'.tm.get (t + 1) = s.tm.get (t + 1)
  | [], s, s', h, t, _ => by simp only [opsA, Option.some.injEq] at h; subst h; rfl
  | o :: rest, s, s', h, t, ht => by
    simp only [List.flatMap_cons, List.mem_append, not_or] at ht
    unfold opsA at h
    split at h
    · split at h
      · split at h
        · rename_i s1 hp
          rw [opsA_wr h t ht.2, putA_tm hp t ht.1]
        · cases h
      · cases h
    · split at h
      · rename_i s1 hp
        rw [opsA_wr h t ht.2, putA_tm hp t ht.1]
      · cases h
    · cases h
theorem drawA_wr {rec : Rc} {ops : List Oper} : ∀ {l : List Oper} {i : Nat} {recs : List DR} {s s' : St}, drawA P rec ops l i recs s = some s' → ∀ t, t ∉ l.flatMap wrO → s'.tm.get (t + 1) = s.tm.get (t + 1)
  | [], _, _, s, s', h, t, _ => by simp only [drawA, Option.some.injEq] at h; subst h; rfl
  | o :: rest, i, recs, s, s', h, t, ht => by
    simp only [List.flatMap_cons, List.mem_append, not_or] at ht
    unfold drawA at h
    split at h
    · cases h
    · simp only [Bool.cond_eq_ite] at h
      split at h
      · split at h
        · split at h
          · split at h
            · split at h
              · rename_i s1 hp
                rw [drawA_wr h t ht.2, putA_tm hp t ht.1]
              · cases h
            · cases h
          · cases h
        · split at h
          · rename_i s1 hp
            rw [drawA_wr h t ht.2, putA_tm hp t ht.1]
          · cases h
        · cases h
      · cases h
theorem loopA_wr {rec : Rc} {c : Code} (hr : ∀ s x s', rec.code c s = some (x, s') → ∀ t, t ∉ wrC c → s'.tm.get (t + 1) = s.tm.get (t + 1)) : ∀ {m : Nat} {s s' : St} {x : AX}, loopA rec m c s = some (x, s') → ∀ t, t ∉ wrC c → s'.tm.get (t + 1) = s.tm.get (t + 1)
  | 0, s, s', x, h, _, _ => by simp [loopA] at h
  | m + 1, s, s', x, h, t, ht => by
    simp only [loopA] at h
    split at h
    · rename_i s1 h1
      rw [loopA_wr hr h t ht, hr _ _ _ h1 t ht]
    · exact hr _ _ _ h t ht
theorem exec_wr {sm : FuncId → Option Sm} : ∀ (n : Nat) (c : Code) (s : St) (x : AX) (s' : St), exec P sm n c s = some (x, s') → ∀ t, t ∉ wrC c → s'.tm.get (t + 1) = s.tm.get (t + 1)
  | 0, c, s, x, s', h, _, _ => by simp [exec] at h
  | n + 1, c, s, x, s', h, t, ht => by
    have h : execStep P ⟨exec P sm n, sm⟩ n c s = some (x, s') := h
    have ih := exec_wr (sm := sm) n
    unfold execStep at h
    split at h
    · simp only [Option.some.injEq, Prod.mk.injEq] at h; obtain ⟨_, rfl⟩ := h; rfl
    · simp only [Option.some.injEq, Prod.mk.injEq] at h; obtain ⟨_, rfl⟩ := h; rfl
    · rename_i a b
      simp only [wrC, List.mem_append, not_or] at ht
      split at h
      · rename_i s1 h1
        rw [ih _ _ _ _ h t ht.2, ih _ _ _ _ h1 t ht.1]
      · exact ih _ _ _ _ h t ht.1
    · rename_i c a b
      simp only [wrC, List.mem_append, not_or] at ht
      split at h
      · simp only [Bool.cond_eq_ite] at h
        split at h
        · exact ih _ _ _ _ h t ht.1
        · exact ih _ _ _ _ h t ht.2
      · simp only [Bool.cond_eq_ite] at h
        split at h
        · exact ih _ _ _ _ h t ht.1
        · exact ih _ _ _ _ h t ht.2
      · cases h
    · rename_i id c
      simp only [wrC] at ht
      split at h
      · rename_i j s1 h1
        simp only [Bool.cond_eq_ite] at h
        split at h <;> (simp only [Option.some.injEq, Prod.mk.injEq] at h; obtain ⟨_, rfl⟩ := h; exact ih _ _ _ _ h1 t ht)
      · exact ih _ _ _ _ h t ht
    · exact loopA_wr (fun s x s' h => ih _ s x s' h) h t ht
    · simp only [Option.some.injEq, Prod.mk.injEq] at h; obtain ⟨_, rfl⟩ := h; rfl
    · simp only [Option.some.injEq, Prod.mk.injEq] at h; obtain ⟨_, rfl⟩ := h; rfl
    · rename_i id ops
      split at h
      · rename_i s1 h1
        simp only [Option.some.injEq, Prod.mk.injEq] at h; obtain ⟨_, rfl⟩ := h
        exact opsA_wr h1 t ht
      · cases h
    · rename_i id ops
      split at h
      · rename_i s1 h1
        simp only [Option.some.injEq, Prod.mk.injEq] at h; obtain ⟨_, rfl⟩ := h
        exact drawA_wr h1 t ht
      · cases h
    · have hj : ∀ c s, (c = .ret ∨ ∃ id, c = .exit id) → ∀ x s', exec P sm n c s = some (x, s') → s' = s := fun c s hc x s' e => by
        cases n with
        | zero => simp [exec] at e
        | succ n =>
          rcases hc with rfl | ⟨id, rfl⟩
          · simp only [exec, execStep, Option.some.injEq, Prod.mk.injEq] at e; exact e.2.symm
          · simp only [exec, execStep, Option.some.injEq, Prod.mk.injEq] at e; exact e.2.symm
      unfold rangeFuncA at h
      split at h
      · split at h
        · split at h
          · split at h
            · split at h
              · cases h
              · split at h
                · split at h
                  · simp only [Option.some.injEq, Prod.mk.injEq] at h; obtain ⟨_, rfl⟩ := h; rfl
                  · rw [hj _ _ (.inl rfl) _ _ h]
                  · rw [hj _ _ (.inr ⟨_, rfl⟩) _ _ h]
                  · cases h
                · cases h
              · cases h
            · cases h
          · cases h
        · cases h
      · cases h
    · exact ih _ _ _ _ h t ht
    · cases h
end

/-! One value, one block, in another heap: by which other numbers blocks go. -/
abbrev Ren := List (Nat × Nat)
def Ren.at (ρ : Ren) (id : Nat) : Option Nat :=
  match ρ with
  | [] => none
  | (c, a) :: l => bif Nat.beq c id then some a else Ren.at l id
def bindR (x0 c a : Nat) (ρ : Ren) (K : Ren → Prop) : Prop :=
  bif Nat.blt c x0 then (bif Nat.beq c a then K ρ else False) else match ρ.at c with
  | some a' => bif Nat.beq a a' then K ρ else False
  | none => K ((c, a) :: ρ)
def cmpI (k : IntKind) (n : Int) (a : AV) (ρ : Ren) (K : Ren → Prop) : Prop :=
  match yI a with
  | some (k', m) => bif eqK k k' then n = m ∧ K ρ else False
  | none => False
def cmpB (b : Bool) (a : AV) (ρ : Ren) (K : Ren → Prop) : Prop := match yB a with | some y => b = y ∧ K ρ | none => False
def cmpS (l : List UInt8) (a : AV) (ρ : Ren) (K : Ren → Prop) : Prop := match yS a with | some y => l = y ∧ K ρ | none => False
mutual
def cmpV (x0 : Nat) (h : AH) : AV → AV → Ren → (Ren → Prop) → Prop
  | .i k n, a, ρ, K => cmpI k n a ρ K
  | .y k n, a, ρ, K => cmpI k n a ρ K
  | .b x, a, ρ, K => cmpB x a ρ K
  | .yb x, a, ρ, K => cmpB x a ρ K
  | .s l, a, ρ, K => cmpS l a ρ K
  | .ys l, a, ρ, K => cmpS l a ρ K
  | .ptr id off, a, ρ, K => match a with | .ptr id' off' => bif Nat.beq off off' then bindR x0 id id' ρ K else False | _ => False
  | .np, a, ρ, K => match a with | .np => K ρ | _ => False
  | .ns, a, ρ, K => match a with | .ns => K ρ | _ => False
  | .es, a, ρ, K => match a with | .es => K ρ | _ => False
  | .nm, a, ρ, K => match a with | .nm => K ρ | _ => False
  | .nf, a, ρ, K => match a with | .nf => K ρ | _ => False
  | .ni, a, ρ, K => match a with | .ni => K ρ | _ => False
  | .sl id off len cap u, a, ρ, K => match a with
    | .sl id' off' len' cap' u' => bif Nat.beq off off' && Nat.beq len len' && Nat.beq cap cap' && (u == u') then bindR x0 id id' ρ K else False
    | _ => False
  | .mp id, a, ρ, K => match a with | .mp id' => bindR x0 id id' ρ K | _ => False
  | .yl id, a, ρ, K => match a with | .yl id' => bindR x0 id id' ρ K | _ => False
  | .fn f caps, a, ρ, K => match a with | .fn f' caps' => bif Nat.beq f f' then cmpL x0 h caps caps' ρ K else False | _ => False
  | .ifc t v, a, ρ, K => match a with | .ifc t' v' => bif Nat.beq t t' then cmpV x0 h v v' ρ K else False | _ => False
  | .agg l, a, ρ, K => match a with | .agg l' => cmpL x0 h l l' ρ K | _ => False
  | .tup l, a, ρ, K => match a with | .tup l' => cmpL x0 h l l' ρ K | _ => False
  | .o _, _, _, _ => False
  | .gl g off, a, ρ, K => match a with | .gl g' off' => bif Nat.beq g g' && Nat.beq off off' then K ρ else False | _ => False
  | .ysl ro nil id z o n, a, ρ, K => match a with
    | .ysl ro' nil' id' z' o' n' => bif (ro == ro') && Nat.beq z z' then nil = nil' ∧ o = o' ∧ n = n' ∧ bindR x0 id id' ρ K else False
    | .ns => nil = true ∧ n = 0 ∧ K ρ
    | .sl id' 0 len 0 true => match h.get id' with
      | some (.cells c _ (some z')) => bif !ro && Nat.beq z z' && Nat.blt 0 z && Nat.beq c.length (len * z) && Nat.blt 0 len then nil = false ∧ o = 0 ∧ n = len ∧ bindR x0 id id' ρ K else False
      | _ => False
    | _ => False
  | .ypt ro id z i j, a, ρ, K => match a with
    | .ypt ro' id' z' i' j' => bif (ro == ro') && Nat.beq z z' && Nat.beq j j' then i = i' ∧ bindR x0 id id' ρ K else False
    | _ => False
  | .ye nil, a, ρ, K => match a with | .ye nil' => nil = nil' ∧ K ρ | _ => False
def cmpL (x0 : Nat) (h : AH) : List AV → List AV → Ren → (Ren → Prop) → Prop
  | [], l, ρ, K => match l with | [] => K ρ | _ => False
  | c :: l, as, ρ, K => match as with | a :: as' => cmpV x0 h c a ρ (fun ρ' => cmpL x0 h l as' ρ' K) | [] => False
end

/-- Scalars. -/
def cmpC (c a : AV) : Prop :=
  match yI c, yI a with
  | some (k, n), some (k', m) => bif eqK k k' then n = m else False
  | _, _ => match yB c, yB a with
    | some x, some y => x = y
    | _, _ => match yS c, yS a with
      | some x, some y => x = y
      | _, _ => False
def cmpCs (f g : Nat → AV) : Nat → Nat → Prop
  | 0, _ => True
  | n + 1, j => cmpC (f j) (g j) ∧ cmpCs f g n (Nat.succ j)
/-- Elements that are written out. -/
def cmpEs (z : Nat) (f : Nat → Nat → AV) : Nat → Nat → List AV → Prop
  | 0, _, _ => True
  | n + 1, i, l => cmpCs (f i) (fun j => match nthA l j with | some v => v | none => .np) z 0 ∧ cmpEs z f n (Nat.succ i) (l.drop z)
def cmpM (x0 : Nat) (h : AH) : List (AV × AV × Nat) → List (AV × AV × Nat) → Ren → (Ren → Prop) → Prop
  | [], l, ρ, K => match l with | [] => K ρ | _ => False
  | (k, v, b) :: l, as, ρ, K => match as with | (k', v', b') :: as' => cmpV x0 h k k' ρ (fun ρ1 => cmpV x0 h v v' ρ1 (fun ρ2 => b = b' ∧ cmpM x0 h l as' ρ2 K)) | [] => False
def sameG : Option Nat → Option Nat → Bool
  | none, none => true
  | some a, some b => Nat.beq a b
  | _, _ => false
def cmpO (x0 : Nat) (h : AH) (c a : AO) (ρ : Ren) (K : Ren → Prop) : Prop :=
  match c, a with
  | .cells l e g, .cells l' e' g' => bif Nat.beq e e' && sameG g g' then cmpL x0 h l l' ρ K else False
  | .arr ro e z n f, .arr ro' e' z' n' f' => bif (ro == ro') && Nat.beq e e' && Nat.beq z z' then n = n' ∧ (∀ i, i < n → cmpCs (f i) (f' i) z 0) ∧ K ρ else False
  | .arr false e z n f, .cells l e' (some z') => bif Nat.beq e e' && Nat.beq z z' && Nat.blt 0 z && Nat.beq (l.length / z * z) l.length then n = l.length / z ∧ cmpEs z f (l.length / z) 0 l ∧ K ρ else False
  | .map es ck, .map es' ck' => ck = ck' ∧ cmpM x0 h es es' ρ K
  | .dfr b, .dfr b' => bif b == b' then K ρ else False
  | _, _ => False

theorem beqN {a b : Nat} (h : Nat.beq a b = true) : a = b := Nat.eq_of_beq_eq_true h
def MR (x0 : Nat) (ρ : Ren) (M : Mp) : Mp := fun id => if id < x0 then M id else match ρ.at id with | some a => M a | none => none
def Ext (ρ ρ' : Ren) : Prop := ∀ c a, ρ.at c = some a → ρ'.at c = some a
theorem Ext.refl (ρ : Ren) : Ext ρ ρ := fun _ _ h => h
theorem Ext.trans {a b c : Ren} (h : Ext a b) (k : Ext b c) : Ext a c := fun x y e => k x y (h x y e)
theorem MR_le {x0 : Nat} {ρ ρ' : Ren} (h : Ext ρ ρ') (M : Mp) : Le (MR x0 ρ M) (MR x0 ρ' M) := fun id p e => by
  unfold MR at e ⊢
  split
  · rename_i hlt; rw [if_pos hlt] at e; exact e
  · rename_i hlt
    rw [if_neg hlt] at e
    cases ha : ρ.at id with
    | none => rw [ha] at e; cases e
    | some a => rw [ha] at e; rw [h _ _ ha]; exact e
theorem bindR_ok {x0 c a : Nat} {ρ : Ren} {K : Ren → Prop} (h : bindR x0 c a ρ K) : ∃ ρ', Ext ρ ρ' ∧ K ρ' ∧ ∀ M p, M a = some p → MR x0 ρ' M c = some p := by
  unfold bindR at h
  simp only [nblt, nbeq, Bool.cond_decide] at h
  split at h
  · rename_i hlt
    split at h
    · rename_i e; subst e
      exact ⟨ρ, Ext.refl ρ, h, fun M p e => by unfold MR; rw [if_pos hlt]; exact e⟩
    · exact h.elim
  · rename_i hlt
    split at h
    · rename_i a' ha
      split at h
      · rename_i e; subst e
        exact ⟨ρ, Ext.refl ρ, h, fun M p e => by unfold MR; rw [if_neg hlt, ha]; exact e⟩
      · exact h.elim
    · rename_i ha
      refine ⟨(c, a) :: ρ, fun c' a' e => ?_, h, fun M p e => ?_⟩
      · unfold Ren.at
        by_cases hc : c = c'
        · subst hc; rw [ha] at e; cases e
        · simp only [nbeq, hc, decide_false, cond_false]; exact e
      · unfold MR; rw [if_neg hlt]; simp only [Ren.at, nbeq, decide_true, cond_true]; exact e
section
variable {x0 : Nat} {h : AH}
def Kept (x0 : Nat) (h : AH) (ρ : Ren) (K : Ren → Prop) (A C : Mp → Prop) : Prop := ∃ ρ', Ext ρ ρ' ∧ K ρ' ∧ ∀ M w, Rel M h w → A M → C (MR x0 ρ' M)
theorem cmpI_ok {k : IntKind} {n : Int} {c a : AV} {ρ : Ren} {K : Ren → Prop} (hc : yI c = some (k, n)) (e : cmpI k n a ρ K) : ∃ ρ', Ext ρ ρ' ∧ K ρ' ∧ ∀ M w u, Rel M h w → a.R M u → c.R (MR x0 ρ' M) u := by
  unfold cmpI at e
  split at e
  · rename_i k' m ha
    simp only [Bool.cond_eq_ite] at e
    split at e
    · rename_i hk
      obtain ⟨rfl, hK⟩ := e
      obtain rfl := eqK_eq hk
      refine ⟨ρ, Ext.refl ρ, hK, fun M w u _ ra => ?_⟩
      obtain rfl := yI_ok ha ra
      unfold yI at hc
      split at hc <;> first | (cases hc; done) | (simp only [Option.some.injEq, Prod.mk.injEq] at hc; obtain ⟨rfl, rfl⟩ := hc; rfl)
    · exact e.elim
  · exact e.elim
theorem cmpB_ok {b : Bool} {c a : AV} {ρ : Ren} {K : Ren → Prop} (hc : yB c = some b) (e : cmpB b a ρ K) : ∃ ρ', Ext ρ ρ' ∧ K ρ' ∧ ∀ M w u, Rel M h w → a.R M u → c.R (MR x0 ρ' M) u := by
  unfold cmpB at e
  split at e
  · rename_i y ha
    obtain ⟨rfl, hK⟩ := e
    refine ⟨ρ, Ext.refl ρ, hK, fun M w u _ ra => ?_⟩
    obtain rfl := yB_ok ha ra
    unfold yB at hc
    split at hc <;> first | (cases hc; done) | (simp only [Option.some.injEq] at hc; subst hc; rfl)
  · exact e.elim
theorem cmpS_ok {b : List UInt8} {c a : AV} {ρ : Ren} {K : Ren → Prop} (hc : yS c = some b) (e : cmpS b a ρ K) : ∃ ρ', Ext ρ ρ' ∧ K ρ' ∧ ∀ M w u, Rel M h w → a.R M u → c.R (MR x0 ρ' M) u := by
  unfold cmpS at e
  split at e
  · rename_i y ha
    obtain ⟨rfl, hK⟩ := e
    refine ⟨ρ, Ext.refl ρ, hK, fun M w u _ ra => ?_⟩
    obtain rfl := yS_ok ha ra
    unfold yS at hc
    split at hc <;> first | (cases hc; done) | (simp only [Option.some.injEq] at hc; subst hc; rfl)
  · exact e.elim
theorem same_ok {c a : AV} {ρ : Ren} {K : Ren → Prop} (hK : K ρ) (hr : ∀ (M M' : Mp) u, a.R M u → c.R M' u) : ∃ ρ', Ext ρ ρ' ∧ K ρ' ∧ ∀ M w u, Rel M h w → a.R M u → c.R (MR x0 ρ' M) u :=
  ⟨ρ, Ext.refl ρ, hK, fun M _ u _ ra => hr M _ u ra⟩
mutual
theorem cmpV_ok : ∀ (c a : AV) (ρ : Ren) (K : Ren → Prop), cmpV x0 h c a ρ K → ∃ ρ', Ext ρ ρ' ∧ K ρ' ∧ ∀ M w u, Rel M h w → a.R M u → c.R (MR x0 ρ' M) u
  | .i k n, a, ρ, K, e => cmpI_ok rfl e
  | .y k n, a, ρ, K, e => cmpI_ok rfl e
  | .b x, a, ρ, K, e => cmpB_ok rfl e
  | .yb x, a, ρ, K, e => cmpB_ok rfl e
  | .s l, a, ρ, K, e => cmpS_ok rfl e
  | .ys l, a, ρ, K, e => cmpS_ok rfl e
  | .ptr id off, a, ρ, K, e => by
    simp only [cmpV] at e
    split at e
    · simp only [Bool.cond_eq_ite] at e
      split at e
      · rename_i ho
        obtain rfl := beqN ho
        obtain ⟨ρ', h1, h2, h3⟩ := bindR_ok e
        refine ⟨ρ', h1, h2, fun M w u _ ra => ?_⟩
        simp only [AV.R] at ra ⊢
        obtain ⟨b, κ, hM, rfl⟩ := ra
        exact ⟨b, κ, h3 M _ hM, rfl⟩
      · exact e.elim
    · exact e.elim
  | .np, a, ρ, K, e => by
    simp only [cmpV] at e
    split at e
    · exact same_ok e fun _ _ _ r => r
    · exact e.elim
  | .ns, a, ρ, K, e => by
    simp only [cmpV] at e
    split at e
    · exact same_ok e fun _ _ _ r => r
    · exact e.elim
  | .es, a, ρ, K, e => by
    simp only [cmpV] at e
    split at e
    · exact same_ok e fun _ _ _ r => r
    · exact e.elim
  | .nm, a, ρ, K, e => by
    simp only [cmpV] at e
    split at e
    · exact same_ok e fun _ _ _ r => r
    · exact e.elim
  | .nf, a, ρ, K, e => by
    simp only [cmpV] at e
    split at e
    · exact same_ok e fun _ _ _ r => r
    · exact e.elim
  | .ni, a, ρ, K, e => by
    simp only [cmpV] at e
    split at e
    · exact same_ok e fun _ _ _ r => r
    · exact e.elim
  | .sl id off len cap u, a, ρ, K, e => by
    simp only [cmpV] at e
    split at e
    · simp only [Bool.cond_eq_ite] at e
      split at e
      · rename_i ho
        simp only [Bool.and_eq_true, beq_iff_eq, nbeq, decide_eq_true_eq] at ho
        obtain ⟨⟨⟨rfl, rfl⟩, rfl⟩, rfl⟩ := ho
        obtain ⟨ρ', h1, h2, h3⟩ := bindR_ok e
        refine ⟨ρ', h1, h2, fun M w u _ ra => ?_⟩
        simp only [AV.R] at ra ⊢
        obtain ⟨b, κ, hM, rfl⟩ := ra
        exact ⟨b, κ, h3 M _ hM, rfl⟩
      · exact e.elim
    · exact e.elim
  | .mp id, a, ρ, K, e => by
    simp only [cmpV] at e
    split at e
    · obtain ⟨ρ', h1, h2, h3⟩ := bindR_ok e
      refine ⟨ρ', h1, h2, fun M w u _ ra => ?_⟩
      simp only [AV.R] at ra ⊢
      obtain ⟨b, κ, hM, rfl⟩ := ra
      exact ⟨b, κ, h3 M _ hM, rfl⟩
    · exact e.elim
  | .yl id, a, ρ, K, e => by
    simp only [cmpV] at e
    split at e
    · obtain ⟨ρ', h1, h2, h3⟩ := bindR_ok e
      refine ⟨ρ', h1, h2, fun M w u _ ra => ?_⟩
      simp only [AV.R] at ra ⊢
      obtain ⟨b, κ, hM, rfl⟩ := ra
      exact ⟨b, κ, h3 M _ hM, rfl⟩
    · exact e.elim
  | .fn f caps, a, ρ, K, e => by
    simp only [cmpV] at e
    split at e
    · simp only [Bool.cond_eq_ite] at e
      split at e
      · rename_i ho
        obtain rfl := beqN ho
        obtain ⟨ρ', h1, h2, h3⟩ := cmpL_ok caps _ ρ K e
        refine ⟨ρ', h1, h2, fun M w u rr ra => ?_⟩
        simp only [AV.R] at ra ⊢
        obtain ⟨vs, r1, rfl⟩ := ra
        exact ⟨vs, h3 M w vs rr r1, rfl⟩
      · exact e.elim
    · exact e.elim
  | .ifc t v, a, ρ, K, e => by
    simp only [cmpV] at e
    split at e
    · simp only [Bool.cond_eq_ite] at e
      split at e
      · rename_i ho
        obtain rfl := beqN ho
        obtain ⟨ρ', h1, h2, h3⟩ := cmpV_ok v _ ρ K e
        refine ⟨ρ', h1, h2, fun M w u rr ra => ?_⟩
        simp only [AV.R] at ra ⊢
        obtain ⟨x, r1, rfl⟩ := ra
        exact ⟨x, h3 M w x rr r1, rfl⟩
      · exact e.elim
    · exact e.elim
  | .agg l, a, ρ, K, e => by
    simp only [cmpV] at e
    split at e
    · obtain ⟨ρ', h1, h2, h3⟩ := cmpL_ok l _ ρ K e
      refine ⟨ρ', h1, h2, fun M w u rr ra => ?_⟩
      simp only [AV.R] at ra ⊢
      obtain ⟨vs, r1, rfl⟩ := ra
      exact ⟨vs, h3 M w vs rr r1, rfl⟩
    · exact e.elim
  | .tup l, a, ρ, K, e => by
    simp only [cmpV] at e
    split at e
    · obtain ⟨ρ', h1, h2, h3⟩ := cmpL_ok l _ ρ K e
      refine ⟨ρ', h1, h2, fun M w u rr ra => ?_⟩
      simp only [AV.R] at ra ⊢
      obtain ⟨vs, r1, rfl⟩ := ra
      exact ⟨vs, h3 M w vs rr r1, rfl⟩
    · exact e.elim
  | .o _, a, ρ, K, e => by simp only [cmpV] at e
  | .gl g off, a, ρ, K, e => by
    simp only [cmpV] at e
    split at e
    · simp only [Bool.cond_eq_ite] at e
      split at e
      · rename_i ho
        simp only [Bool.and_eq_true, nbeq, decide_eq_true_eq] at ho
        obtain ⟨rfl, rfl⟩ := ho
        exact same_ok e fun _ _ _ r => r
      · exact e.elim
    · exact e.elim
  | .ysl ro nil id z o n, a, ρ, K, e => by
    simp only [cmpV] at e
    split at e
    · simp only [Bool.cond_eq_ite] at e
      split at e
      · rename_i ho
        simp only [Bool.and_eq_true, beq_iff_eq, nbeq, decide_eq_true_eq] at ho
        obtain ⟨rfl, rfl⟩ := ho
        obtain ⟨rfl, rfl, rfl, e⟩ := e
        obtain ⟨ρ', h1, h2, h3⟩ := bindR_ok e
        refine ⟨ρ', h1, h2, fun M w u _ ra => ?_⟩
        simp only [AV.R] at ra ⊢
        rcases ra with ra | ra | ⟨q1, b, κ, c, hM, q2⟩
        · exact .inl ra
        · exact .inr (.inl ra)
        · exact .inr (.inr ⟨q1, b, κ, c, h3 M _ hM, q2⟩)
      · exact e.elim
    · obtain ⟨rfl, rfl, e⟩ := e
      refine same_ok e fun M M' u ra => ?_
      simp only [AV.R] at ra ⊢
      exact .inl ⟨trivial, trivial, ra⟩
    · rename_i id' len
      split at e
      · rename_i c et z' hg
        simp only [Bool.cond_eq_ite] at e
        split at e
        · rename_i ho
          simp only [Bool.and_eq_true, nbeq, nblt, decide_eq_true_eq, Bool.not_eq_true'] at ho
          obtain ⟨⟨⟨⟨rfl, rfl⟩, hz⟩, hl⟩, hl0⟩ := ho
          obtain ⟨rfl, rfl, rfl, e⟩ := e
          obtain ⟨ρ', h1, h2, h3⟩ := bindR_ok e
          refine ⟨ρ', h1, h2, fun M w u rr ra => ?_⟩
          simp only [AV.R] at ra ⊢
          obtain ⟨b, κ, hM, rfl⟩ := ra
          obtain ⟨ob, hb, vs, rest, rl, rfl, hκ⟩ := Ob_of rr hg hM
          simp only at hκ
          have hvl := RL_length rl
          have hle : n ≤ κ := by
            have : n * z ≤ κ * z := by rw [← hκ, ← hl, ← hvl]; simp
            exact Nat.le_of_mul_le_mul_right this hz
          exact .inr (.inr ⟨trivial, b, κ, κ, h3 M _ hM, by simp, hle, hl0, fun _ => ⟨by simp, by omega⟩⟩)
        · exact e.elim
      · exact e.elim
    · exact e.elim
  | .ypt ro id z i j, a, ρ, K, e => by
    simp only [cmpV] at e
    split at e
    · simp only [Bool.cond_eq_ite] at e
      split at e
      · rename_i ho
        simp only [Bool.and_eq_true, beq_iff_eq, nbeq, decide_eq_true_eq] at ho
        obtain ⟨⟨rfl, rfl⟩, rfl⟩ := ho
        obtain ⟨rfl, e⟩ := e
        obtain ⟨ρ', h1, h2, h3⟩ := bindR_ok e
        refine ⟨ρ', h1, h2, fun M w u _ ra => ?_⟩
        simp only [AV.R] at ra ⊢
        obtain ⟨b, κ, hM, rfl⟩ := ra
        exact ⟨b, κ, h3 M _ hM, rfl⟩
      · exact e.elim
    · exact e.elim
  | .ye nil, a, ρ, K, e => by
    simp only [cmpV] at e
    split at e
    · obtain ⟨rfl, e⟩ := e
      exact same_ok e fun _ _ _ r => r
    · exact e.elim
theorem cmpL_ok : ∀ (cs as : List AV) (ρ : Ren) (K : Ren → Prop), cmpL x0 h cs as ρ K → ∃ ρ', Ext ρ ρ' ∧ K ρ' ∧ ∀ M w us, Rel M h w → AV.RL M as us → AV.RL (MR x0 ρ' M) cs us
  | [], as, ρ, K, e => by
    simp only [cmpL] at e
    split at e
    · exact ⟨ρ, Ext.refl ρ, e, fun M w us _ ra => ra⟩
    · exact e.elim
  | c :: l, as, ρ, K, e => by
    simp only [cmpL] at e
    split at e
    · rename_i a as'
      obtain ⟨ρ1, h1, h2, h3⟩ := cmpV_ok c a ρ _ e
      obtain ⟨ρ2, k1, k2, k3⟩ := cmpL_ok l as' ρ1 K h2
      refine ⟨ρ2, h1.trans k1, k2, fun M w us rr ra => ?_⟩
      simp only [AV.RL] at ra ⊢
      obtain ⟨v, vs, r1, r2, rfl⟩ := ra
      exact ⟨v, vs, AV.R.mono (MR_le k1 M) c v (h3 M w v rr r1), k3 M w vs rr r2, rfl⟩
    · exact e.elim
end
end
end Go.Proofs.YtfpokmglhaenaaaDoor.Ex
