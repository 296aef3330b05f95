/- The abstract machine: what its operations compute by symbols is what the machine's compute (1). -/
import Derived.Test.YtiikiphkhfmlcaaGreatDoorExK
noncomputable section
namespace Go.Proofs.YtiikiphkhfmlcaaGreatDoor.Ex
open Go

theorem T.sel_must {α : Type} {b : Bool} {t : T α} {x : α} (h : (T.must b t).sel = some x) : b = true ∧ t.sel = some x := by
  cases b
  · simp [T.must, T.sel] at h
  · exact ⟨rfl, by simpa [T.must, T.sel] using h⟩
theorem T.sel_ret {α : Type} {a x : α} (h : (T.ret a).sel = some x) : a = x := by simpa [T.sel] using h
theorem T.sel_br {α : Type} {b : Bool} {t e : T α} {x : α} (h : (T.br b t e).sel = some x) : (b = true ∧ t.sel = some x) ∨ (b = false ∧ e.sel = some x) := by
  cases b
  · exact .inr ⟨rfl, by simpa [T.sel] using h⟩
  · exact .inl ⟨rfl, by simpa [T.sel] using h⟩
theorem T.sel_of {α : Type} {o : Option α} : (T.of o).sel = o := by cases o <;> rfl
theorem T.sel_bind {α β : Type} (f : α → T β) : ∀ t : T α, (t.bind f).sel = (match t.sel with | some a => (f a).sel | none => none)
  | .ret a => rfl
  | .no => rfl
  | .br b t e => by
    simp only [T.bind, T.sel]
    cases b
    · simpa using T.sel_bind f e
    · simpa using T.sel_bind f t
theorem T.sel_bind_some {α β : Type} {f : α → T β} {t : T α} {x : β} (h : (t.bind f).sel = some x) : ∃ a, t.sel = some a ∧ (f a).sel = some x := by
  rw [T.sel_bind] at h
  cases ht : t.sel with
  | none => rw [ht] at h; cases h
  | some a => rw [ht] at h; exact ⟨a, rfl, h⟩
theorem T.all_sel {α : Type} {p : α → Prop} : ∀ {t : T α}, t.all p → ∃ a, t.sel = some a ∧ p a
  | .ret a, h => ⟨a, rfl, h⟩
  | .br b t e, h => by
    cases b
    · obtain ⟨a, h1, h2⟩ := T.all_sel (h.2 rfl); exact ⟨a, by simpa [T.sel] using h1, h2⟩
    · obtain ⟨a, h1, h2⟩ := T.all_sel (h.1 rfl); exact ⟨a, by simpa [T.sel] using h1, h2⟩
  | .no, h => False.elim h

section
variable {P : Program} {M : Mp}

theorem yI_ok {a : AV} {k : IntKind} {n : Int} {v : Value} (h : yI a = some (k, n)) (r : a.R M v) : v = .int k n := by
  unfold yI at h
  split at h <;> first | (cases h; done) | (simp only [Option.some.injEq, Prod.mk.injEq] at h; obtain ⟨rfl, rfl⟩ := h; simpa only [AV.R] using r)
theorem yB_ok {a : AV} {b : Bool} {v : Value} (h : yB a = some b) (r : a.R M v) : v = .bool b := by
  unfold yB at h
  split at h <;> first | (cases h; done) | (simp only [Option.some.injEq] at h; subst h; simpa only [AV.R] using r)
theorem yS_ok {a : AV} {l : List UInt8} {v : Value} (h : yS a = some l) (r : a.R M v) : v = .string ⟨l.toArray⟩ := by
  unfold yS at h
  split at h <;> first | (cases h; done) | (simp only [Option.some.injEq] at h; subst h; simpa only [AV.R] using r)
theorem yIx_ok {a : AV} {x : Int} {n : Nat} {v : Value} (h : yIx a = some (x, n)) (r : a.R M v) : (∃ k, v = .int k x) ∧ (0 ≤ x → n = x.toNat) := by
  unfold yIx at h
  split at h <;> first
    | (cases h; done)
    | (simp only [Option.some.injEq, Prod.mk.injEq] at h; obtain ⟨rfl, rfl⟩ := h; simp only [AV.R] at r; exact ⟨⟨_, r⟩, fun _ => by first | rfl | simp [yNat]⟩)
theorem cond_eta {b : Bool} {x y : AV} {v w : Value} (hx : x.R M v) (hy : y.R M w) : (bif b then x else y).R M (bif b then v else w) := by cases b <;> assumption
def isLst : AV → Bool
  | .lst .. => true
  | _ => false
theorem selA_flat (b : Bool) {x y : AV} {v : Value} (nl : isLst x = false) (h : (bif b then x else y).R M v) : (selA b x y).R M v := by
  unfold selA
  split <;> first
    | exact h
    | (rename_i k a k' c; cases hk : eqK k k' with
      | false => exact h
      | true =>
        obtain rfl := eqK_eq hk
        cases b <;> simpa only [cond_true, cond_false, AV.R, ySel] using h)
    | (cases b <;> simpa only [cond_true, cond_false, AV.R, ySelB] using h)
    | (cases b with
      | true => (simp only [cond_true, AV.R] at h; simp only [AV.R, ySelB, ySelN, cond_true]; exact .inl ⟨trivial, trivial, h⟩)
      | false => exact h)
    | (cases nl; done)
theorem selA_go (b : Bool) : ∀ (x y : AV) (v : Value), (bif b then x else y).R M v → (selA b x y).R M v
  | .lst x nil z n f, y, v, h => by
    cases y
    case lst x' nil' z' n' f' =>
      unfold selA
      cases hz : Nat.beq z z' with
      | false => exact h
      | true =>
        obtain rfl := Nat.eq_of_beq_eq_true hz
        simp only [cond_true]
        cases b with
        | true =>
          simp only [cond_true, AV.R, ySelB, ySelN] at h ⊢
          rcases h with h | ⟨h1, h2, a, c, h3, h4⟩ | ⟨h1, h2, b, off, c, cs, r1, r2, r3, r4, r5⟩
          · exact .inl h
          · exact .inr (.inl ⟨h1, h2, a, c, h3, fun e => h4 (by simp only [Bool.and_eq_true] at e; exact e.1)⟩)
          · refine .inr (.inr ⟨h1, h2, b, off, c, cs, r1, r2, fun e => r3 (by simp only [Bool.and_eq_true] at e; exact e.1), r4, fun i hi j hj => ?_⟩)
            obtain ⟨u, q1, q2, q3⟩ := r5 i hi j hj
            exact ⟨u, q1, q2, selA_go true (f i j) (f' i j) u q3⟩
        | false =>
          simp only [cond_false, AV.R, ySelB, ySelN] at h ⊢
          rcases h with h | ⟨h1, h2, a, c, h3, h4⟩ | ⟨h1, h2, b, off, c, cs, r1, r2, r3, r4, r5⟩
          · exact .inl h
          · exact .inr (.inl ⟨h1, h2, a, c, h3, fun e => h4 (by simp only [Bool.and_eq_true] at e; exact e.2)⟩)
          · refine .inr (.inr ⟨h1, h2, b, off, c, cs, r1, r2, fun e => r3 (by simp only [Bool.and_eq_true] at e; exact e.2), r4, fun i hi j hj => ?_⟩)
            obtain ⟨u, q1, q2, q3⟩ := r5 i hi j hj
            exact ⟨u, q1, q2, selA_go false (f i j) (f' i j) u q3⟩
    case ns =>
      unfold selA
      cases b with
      | true => exact h
      | false =>
        simp only [cond_false, AV.R] at h
        simp only [AV.R, ySelB, ySelN, cond_false]
        exact .inl ⟨trivial, trivial, h⟩
    all_goals exact h
  | .b _, _, _, h | .i _ _, _, _, h | .s _, _, _, h | .np, _, _, h | .ns, _, _, h | .nm, _, _, h | .nf, _, _, h | .ni, _, _, h | .o _, _, _, h | .gl _ _, _, _, h => selA_flat b rfl h
  | .jk, _, _, h | .es, _, _, h | .y _ _, _, _, h | .yb _, _, _, h | .ys _, _, _, h | .ye _, _, _, h | .ysl _ _ _ _ _ _, _, _, h | .ypt _ _ _ _ _, _, _, h | .ptr _ _, _, _, h | .sl _ _ _ _ _, _, _, h | .mp _, _, _, h => selA_flat b rfl h
  | .yl _, _, _, h | .lp _ _ _, _, _, h | .fn _ _, _, _, h | .ifc _ _, _, _, h | .agg _, _, _, h | .tup _, _, _, h => selA_flat b rfl h
theorem selA_ok (b : Bool) {x y : AV} {v : Value} (h : (bif b then x else y).R M v) : (selA b x y).R M v := selA_go b x y v h
theorem pickY_ok {c a b v : AV} {C A B : Value} (h : (pickY c a b).sel = some v) (rc : c.R M C) (ra : a.R M A) (rb : b.R M B) : ∃ t, C = .bool t ∧ v.R M (bif t then A else B) := by
  unfold pickY at h
  split at h
  · rename_i t
    simp only [AV.R] at rc
    refine ⟨t, rc, ?_⟩
    have hgen : (T.br t (.ret a) (.ret b)).sel = some v → v.R M (bif t then A else B) := fun e => by
      rcases T.sel_br e with ⟨rfl, e⟩ | ⟨rfl, e⟩ <;> (obtain rfl := T.sel_ret e; assumption)
    split at h
    · rename_i k x k' y
      cases hk : eqK k k' with
      | false => rw [hk] at h; exact hgen h
      | true =>
        rw [hk] at h
        obtain rfl := eqK_eq hk
        obtain rfl := T.sel_ret h
        simp only [AV.R] at ra rb ⊢
        subst ra rb
        cases t <;> rfl
    · obtain rfl := T.sel_ret h
      simp only [AV.R] at ra rb ⊢
      subst ra rb
      cases t <;> rfl
    · exact hgen h
  · cases h

theorem intBits_eq {op : BinOp} (h : op = .and ∨ op = .or ∨ op = .xor ∨ op = .andNot) (k : IntKind) (a b : Int) : Op.intBits op k a b = .pure (.int k (yBits op k a b)) := by
  rcases h with rfl | rfl | rfl | rfl <;> rfl
theorem intY_ok {op : BinOp} {k : IntKind} {a b : Int} {v : AV} {t : TypeId} (h : (intY op k a b).sel = some v) : ∃ u, (∀ w, (binOp op t (.int k a) (.int k b)).run P w = .ok u w) ∧ v.R M u := by
  unfold intY at h
  cases op
  case add => obtain rfl := T.sel_ret h; exact ⟨.int k (k.wrap (a + b)), fun w => by simp [binOp, Op.intArith], rfl⟩
  case sub => obtain rfl := T.sel_ret h; exact ⟨.int k (k.wrap (a - b)), fun w => by simp [binOp, Op.intArith], rfl⟩
  case mul => obtain rfl := T.sel_ret h; exact ⟨.int k (k.wrap (a * b)), fun w => by simp [binOp, Op.intArith], rfl⟩
  case quo =>
    rcases T.sel_br h with ⟨_, e⟩ | ⟨hb, e⟩
    · cases e
    · obtain rfl := T.sel_ret e
      have hb : ¬ b = 0 := by simpa [yEq] using hb
      exact ⟨.int k (k.wrap (a.tdiv b)), fun w => by simp [binOp, Op.intDiv, hb], rfl⟩
  case rem =>
    rcases T.sel_br h with ⟨_, e⟩ | ⟨hb, e⟩
    · cases e
    · obtain rfl := T.sel_ret e
      have hb : ¬ b = 0 := by simpa [yEq] using hb
      exact ⟨.int k (a.tmod b), fun w => by simp [binOp, Op.intDiv, hb], rfl⟩
  case and => obtain rfl := T.sel_ret h; exact ⟨_, fun w => by simp only [binOp, intBits_eq (.inl rfl), ne_eq, not_true_eq_false, if_false]; rfl, rfl⟩
  case or => obtain rfl := T.sel_ret h; exact ⟨_, fun w => by simp only [binOp, intBits_eq (.inr (.inl rfl)), ne_eq, not_true_eq_false, if_false]; rfl, rfl⟩
  case xor => obtain rfl := T.sel_ret h; exact ⟨_, fun w => by simp only [binOp, intBits_eq (.inr (.inr (.inl rfl))), ne_eq, not_true_eq_false, if_false]; rfl, rfl⟩
  case andNot => obtain rfl := T.sel_ret h; exact ⟨_, fun w => by simp only [binOp, intBits_eq (.inr (.inr (.inr rfl))), ne_eq, not_true_eq_false, if_false]; rfl, rfl⟩
  case eql => obtain rfl := T.sel_ret h; exact ⟨.bool (a == b), fun w => by simp [binOp, Op.intCmp], by simp only [AV.R, yEq, Value.bool.injEq]; rw [Bool.eq_iff_iff]; simp⟩
  case neq => obtain rfl := T.sel_ret h; exact ⟨.bool (a != b), fun w => by simp [binOp, Op.intCmp], by simp only [AV.R, yEq, yNot, Value.bool.injEq]; rw [Bool.eq_iff_iff]; simp⟩
  case lss => obtain rfl := T.sel_ret h; exact ⟨_, fun w => by simp only [binOp, Op.intCmp, ne_eq, not_true_eq_false, if_false]; rfl, rfl⟩
  case leq => obtain rfl := T.sel_ret h; exact ⟨_, fun w => by simp only [binOp, Op.intCmp, ne_eq, not_true_eq_false, if_false]; rfl, rfl⟩
  case gtr => obtain rfl := T.sel_ret h; exact ⟨_, fun w => by simp only [binOp, Op.intCmp, ne_eq, not_true_eq_false, if_false]; rfl, by simp only [AV.R, yLt]⟩
  case geq => obtain rfl := T.sel_ret h; exact ⟨_, fun w => by simp only [binOp, Op.intCmp, ne_eq, not_true_eq_false, if_false]; rfl, by simp only [AV.R, yLe]⟩
  all_goals cases h
theorem shiftY_ok {op : BinOp} {k k' : IntKind} {a b : Int} {v : AV} {t : TypeId} (h : (shiftY op k a b).sel = some v) : ∃ u, (∀ w, (binOp op t (.int k a) (.int k' b)).run P w = .ok u w) ∧ v.R M u := by
  unfold shiftY at h
  cases op <;> first | (cases h; done) | skip
  all_goals
    obtain ⟨h1, h2⟩ := T.sel_must h
    obtain rfl := T.sel_ret h2
    have hb : ¬ b < 0 := by simp [yLe] at h1; omega
    exact ⟨_, fun w => by simp only [binOp, Op.shift, hb, if_false]; rfl, rfl⟩
theorem strY_ok {op : BinOp} {x y : List UInt8} {v : AV} {t : TypeId} (h : (strY op x y).sel = some v) : ∃ u, (∀ w, (binOp op t (.string ⟨x.toArray⟩) (.string ⟨y.toArray⟩)).run P w = .ok u w) ∧ v.R M u := by
  have hb : ∀ {z : AV}, strBin op x y = some z → (∀ v', z.R M v' → v.R M v') → ∃ u, (∀ w, (binOp op t (.string ⟨x.toArray⟩) (.string ⟨y.toArray⟩)).run P w = .ok u w) ∧ v.R M u := fun {z} e k => by
    obtain ⟨u, h1, h2⟩ := strBin_ok (P := P) (M := M) (t := t) e
    exact ⟨u, h1, k u h2⟩
  unfold strY at h
  cases op <;> first | (cases h; done) | skip
  case add =>
    obtain ⟨h1, h2⟩ := T.sel_must h
    obtain rfl := T.sel_ret h2
    have hle : x.length + y.length ≤ 9223372036854775807 := of_decide_eq_true h1
    exact hb (z := .s (x ++ y)) (by simp [strBin, nble, hle]) (fun v' e => e)
  all_goals
    obtain rfl := T.sel_ret h
    exact hb rfl (fun v' e => e)

theorem ptr_nil {t : TypeId} {x y : AV} {u v : Value} {b : Bool} (h : nilY x y = some b) {e : TypeId} (hu : P.underlying t = some (.slice e)) (rx : x.R M u) (ry : y.R M v) : ∀ w, (Op.equal t u v).run P w = .ok b w := by
  have hns : (AV.ns).R M (.slice none 0 0) := rfl
  have keyM : ∀ (N : Mp) (x' y' : AV), x'.R N u → y'.R N v → eqA P 64 t x' y' = some b → ∀ w, (Op.equal t u v).run P w = .ok b w := fun N x' y' rx' ry' hh w => by
    rw [Op.equal]; exact eqA_ok (M := N) 64 Op.maxDepth t x' y' b u v (by decide) hh rx' ry' w
  have key := keyM M
  have es : ∀ {v : Value} {a c}, v = .slice (some a) 0 c → (AV.es).R M v := fun {v a c} e => ⟨a, c, e⟩
  unfold nilY at h
  split at h <;> simp only [Option.some.injEq, reduceCtorEq] at h
  all_goals subst h
  · rename_i ro z o n
    simp only [AV.R] at rx
    rcases rx with ⟨rfl, _, rfl⟩ | ⟨rfl, _, a, c, rfl, _⟩ | ⟨rfl, b', κ, c, hM, rfl, _⟩
    · exact key .ns .ns hns ry (by simp [eqA, hu])
    · exact key .es .ns (es rfl) ry (by simp [eqA, hu])
    · exact key (.sl _ _ n c false) .ns (by simp only [AV.R]; exact ⟨b', κ, hM, rfl⟩) ry (by simp [eqA, hu])
  · rename_i ro z o n
    simp only [AV.R] at ry
    rcases ry with ⟨rfl, _, rfl⟩ | ⟨rfl, _, a, c, rfl, _⟩ | ⟨rfl, b', κ, c, hM, rfl, _⟩
    · exact key .ns .ns rx hns (by simp [eqA, hu])
    · exact key .ns .es rx (es rfl) (by simp [eqA, hu])
    · exact key .ns (.sl _ _ n c false) rx (by simp only [AV.R]; exact ⟨b', κ, hM, rfl⟩) (by simp [eqA, hu])
  · simp only [AV.R] at rx
    rcases rx with ⟨rfl, rfl⟩ | ⟨rfl, a, rfl⟩
    · exact key .ns .ns hns ry (by simp [eqA, hu])
    · exact key .es .ns (es rfl) ry (by simp [eqA, hu])
  · simp only [AV.R] at ry
    rcases ry with ⟨rfl, rfl⟩ | ⟨rfl, a, rfl⟩
    · exact key .ns .ns rx hns (by simp [eqA, hu])
    · exact key .ns .es rx (es rfl) (by simp [eqA, hu])
  · simp only [AV.R] at rx
    rcases rx with ⟨rfl, _, rfl⟩ | ⟨rfl, _, a, c, rfl, _⟩ | ⟨rfl, _, b', off, c, cs, rfl, _⟩
    · exact key .ns .ns hns ry (by simp [eqA, hu])
    · exact key .es .ns (es rfl) ry (by simp [eqA, hu])
    · exact keyM ⟨fun _ => some (b', 0), fun _ => none⟩ (.sl 0 _ _ c false) .ns (by simp only [AV.R]; exact ⟨b', 0, rfl, rfl⟩) ry (by simp [eqA, hu])
  · simp only [AV.R] at ry
    rcases ry with ⟨rfl, _, rfl⟩ | ⟨rfl, _, a, c, rfl, _⟩ | ⟨rfl, _, b', off, c, cs, rfl, _⟩
    · exact key .ns .ns rx hns (by simp [eqA, hu])
    · exact key .ns .es rx (es rfl) (by simp [eqA, hu])
    · exact keyM ⟨fun _ => some (b', 0), fun _ => none⟩ .ns (.sl 0 _ _ c false) rx (by simp only [AV.R]; exact ⟨b', 0, rfl, rfl⟩) (by simp [eqA, hu])
end
end Go.Proofs.YtiikiphkhfmlcaaGreatDoor.Ex
