/- The abstract machine: what its operations compute is what the machine's compute (3). The abstract machine: what its operations compute is what the machine's compute (4). -/
import Derived.Test.YtiikiphkhfmlcaaGreatDoorExF
noncomputable section
namespace Go.Proofs.YtiikiphkhfmlcaaGreatDoor.Ex
open Go

section
variable {P : Program} {M : Mp}

def OR (M : Mp) : Option AV → Option Value → Prop
  | none, v => v = none
  | some a, v => ∃ u, a.R M u ∧ v = some u
theorem boundA_ok {d a : Nat} {lo : Option AV} {lv : Option Value} (h : boundA d lo = some a) (r : OR M lo lv) : (lv = none ∧ a = d) ∨ ∃ k, lv = some (.int k a) := by
  unfold boundA at h
  split at h
  · simp only [OR] at r
    simp only [Option.some.injEq] at h
    exact .inl ⟨r, h.symm⟩
  · rename_i k n
    simp only [OR, AV.R] at r
    obtain ⟨u, rfl, rfl⟩ := r
    simp only [Option.some.injEq] at h; subst h
    exact .inr ⟨k, rfl⟩
  · cases h
theorem sliceBound_run {k : IntKind} {n y : Nat} {code : BoundsCode} (h : n ≤ y) (w : World) : (Instr.sliceBound (.int k n) y code).run P w = .ok n w := by
  simp [Instr.sliceBound, asIntOf, h]
theorem bounds_run {isS : Bool} {len cap a b m : Nat} {lo hi mx : Option AV} {lv hv mv : Option Value} (h1 : boundA 0 lo = some a) (h2 : boundA len hi = some b) (h3 : boundA cap mx = some m)
    (r1 : OR M lo lv) (r2 : OR M hi hv) (r3 : OR M mx mv) (hab : a ≤ b) (hbm : b ≤ m) (hmc : m ≤ cap) (hmx : mx.isSome = true → hi.isSome = true) (w : World) :
    (Instr.sliceBounds isS len cap lv hv mv).run P w = .ok (a, b, m) w := by
  have hmv : hv = none → mv = none := fun e => by
    cases mx with
    | none => simpa [OR] using r3
    | some x =>
      have := hmx rfl
      cases hi with
      | none => cases this
      | some y => simp only [OR] at r2; obtain ⟨_, _, h⟩ := r2; rw [e] at h; cases h
  rcases boundA_ok h1 r1 with ⟨rfl, rfl⟩ | ⟨k1, rfl⟩ <;> rcases boundA_ok h2 r2 with ⟨rfl, rfl⟩ | ⟨k2, rfl⟩ <;> rcases boundA_ok h3 r3 with ⟨rfl, rfl⟩ | ⟨k3, rfl⟩
  all_goals first
    | (cases hmv rfl; done)
    | (simp [Instr.sliceBounds, sliceBound_run hab, sliceBound_run hbm, sliceBound_run hmc]; done)

theorem slice_ok {h : AH} {w : World} {t : TypeId} {x v : AV} {y : Value} {lo hi mx : Option AV} {lv hv mv : Option Value} (hs : sliceOpA P h t x lo hi mx = some v) (rx : x.R M y) (r1 : OR M lo lv) (r2 : OR M hi hv) (r3 : OR M mx mv) (r : Rel M h w) :
    ∃ u, (∀ m : World, (Instr.sliceAt t y lv hv mv).run P m = .ok u m) ∧ v.R M u := by
  unfold sliceOpA at hs
  split at hs
  · cases hs
  rename_i hmh
  have hmx : mx.isSome = true → hi.isSome = true := fun e => by
    cases mx with
    | none => cases e
    | some z => cases hi with
      | none => exact absurd rfl (hmh z rfl)
      | some _ => rfl
  clear hmh
  split at hs
  · -- a string
    rename_i l hu
    split at hs
    · rename_i a b h1 h2
      simp only [nble, Bool.cond_decide, ← Bool.decide_and] at hs
      split at hs
      · rename_i hle
        simp only [Option.some.injEq] at hs; subst hs
        simp only [AV.R] at rx; subst rx
        have hsz : (⟨l.toArray⟩ : ByteArray).size = l.length := by simp [ByteArray.size]
        have hb := fun m : World => bounds_run (P := P) (isS := false) (cap := l.length) (mx := none) h1 h2 (by rfl) r1 r2 r3 hle.1 hle.2 (Nat.le_refl _) (fun e => by cases e) m
        simp only [OR] at r3; subst r3
        refine ⟨.string ((⟨l.toArray⟩ : ByteArray).extract a b), fun m => ?_, ?_⟩
        · simp [Instr.sliceAt, run_underlying hu, Instr.slice, hsz, hb]
        · simp only [AV.R]
          congr 1
          apply ByteArray.ext
          simp [ByteArray.data_extract]
          try (rw [List.take_drop]; congr 1; omega)
      · cases hs
    · cases hs
  · -- nil
    rename_i e hu
    split at hs
    · rename_i z hz h1 h2 h3
      simp only [Option.some.injEq] at hs; subst hs
      simp only [AV.R] at rx; subst rx
      have hb := fun m : World => bounds_run (P := P) (isS := true) h1 h2 h3 r1 r2 r3 (Nat.le_refl _) (Nat.le_refl _) (Nat.le_refl _) hmx m
      exact ⟨.slice none 0 0, fun w => by simp [Instr.sliceAt, run_underlying hu, Instr.slice, hb, sizeT_ok hz], rfl⟩
    · cases hs
  · -- a slice whose capacity is known
    rename_i e id off len cap hu
    split at hs
    · rename_i z a b m hz h1 h2 h3
      simp only [nble, nbeq, Bool.cond_decide, ← Bool.decide_and] at hs
      split at hs
      · rename_i hle
        simp only [AV.R] at rx
        obtain ⟨bb, κ, hM, rfl⟩ := rx
        have hb := fun w : World => bounds_run (P := P) (isS := true) h1 h2 h3 r1 r2 r3 hle.1.1 hle.1.2 hle.2 hmx w
        split at hs
        · rename_i hma
          simp only [Option.some.injEq] at hs; subst hs
          refine ⟨.slice (some ⟨bb, off, none⟩) (b - a) 0, fun w => ?_, by simp only [AV.R]; exact ⟨bb, κ, hM, rfl⟩⟩
          simp [Instr.sliceAt, run_underlying hu, Instr.slice, hb, sizeT_ok hz, hma]
        · rename_i hma
          simp only [Option.some.injEq] at hs; subst hs
          refine ⟨.slice (some ⟨bb, off + a * z, none⟩) (b - a) (m - a), fun w => ?_, by simp only [AV.R]; exact ⟨bb, κ, hM, rfl⟩⟩
          simp [Instr.sliceAt, run_underlying hu, Instr.slice, hb, sizeT_ok hz, hma, addr_add]
      · cases hs
    · cases hs
  · -- a slice whose capacity is not
    rename_i e id off len cap hu
    simp only [AV.R] at rx
    obtain ⟨bb, κ, hM, rfl⟩ := rx
    split at hs
    · rename_i z a b hz h1 h2
      split at hs
      · split at hs
        · rename_i c e' z' hg
          obtain ⟨ob, hob, vs, rest, rl, rfl, hlen⟩ := Ob_of r hg hM
          simp only at hlen
          simp only [nble, nbeq, nblt, Bool.cond_decide, ← Bool.decide_and] at hs
          split at hs
          · rename_i hle
            obtain ⟨⟨⟨hz0, rfl⟩, hab⟩, hcb⟩ := hle
            have hcl := RL_length rl
            have hκ : c.length ≤ κ * z := by rw [← hlen, ← hcl]; simp
            have hbκ : cap + b ≤ κ := Nat.le_of_mul_le_mul_right (Nat.le_trans hcb hκ) hz0
            have hb := fun w : World => bounds_run (P := P) (isS := true) (cap := κ - cap) (mx := none) h1 h2 (by rfl) r1 r2 r3 hab (by omega) (Nat.le_refl _) hmx w
            split at hs
            · rename_i hlt
              have hak : cap + a < κ := Nat.lt_of_mul_lt_mul_right (Nat.lt_of_lt_of_le hlt hκ)
              simp only [Option.some.injEq] at hs; subst hs
              refine ⟨.slice (some ⟨bb, off + a * z, none⟩) (b - a) (κ - cap - a), fun w => ?_, by simp only [AV.R]; exact ⟨bb, κ, hM, by simp; omega⟩⟩
              have hne : ¬ (κ - cap = a) := by omega
              simp [Instr.sliceAt, run_underlying hu, Instr.slice, hb, sizeT_ok hz, hne, addr_add]
            · rename_i hlt
              have hba : b = a := by
                have h3 : (cap + b) * z ≤ (cap + a) * z := by omega
                have := Nat.le_of_mul_le_mul_right h3 hz0
                omega
              simp only [Option.some.injEq] at hs; subst hs
              by_cases hne : κ - cap = a
              · refine ⟨.slice (some ⟨bb, off, none⟩) (b - a) (κ - cap - a), fun w => ?_, by simp only [AV.R]; exact ⟨⟨bb, off, none⟩, κ - cap - a, by rw [hba]; simp⟩⟩
                rw [hne] at hb
                simp [Instr.sliceAt, run_underlying hu, Instr.slice, hb, sizeT_ok hz, hne]
              · refine ⟨.slice (some ⟨bb, off + a * z, none⟩) (b - a) (κ - cap - a), fun w => ?_, by simp only [AV.R]; exact ⟨⟨bb, off + a * z, none⟩, κ - cap - a, by rw [hba]; simp⟩⟩
                simp [Instr.sliceAt, run_underlying hu, Instr.slice, hb, sizeT_ok hz, hne, addr_add]
          · cases hs
        · cases hs
      · rename_i mk m
        split at hs
        · rename_i c e' z' hg
          obtain ⟨ob, hob, vs, rest, rl, rfl, hlen⟩ := Ob_of r hg hM
          simp only at hlen
          simp only [nble, nbeq, nblt, Bool.cond_decide, ← Bool.decide_and] at hs
          split at hs
          · rename_i hle
            obtain ⟨⟨⟨⟨hz0, rfl⟩, hab⟩, hbm⟩, hcb⟩ := hle
            have hcl := RL_length rl
            have hκ : c.length ≤ κ * z := by rw [← hlen, ← hcl]; simp
            have hbκ : cap + m ≤ κ := Nat.le_of_mul_le_mul_right (Nat.le_trans hcb hκ) hz0
            have hb := fun w : World => bounds_run (P := P) (isS := true) (cap := κ - cap) h1 h2 (by rfl) r1 r2 r3 hab hbm (by omega) hmx w
            split at hs
            · rename_i hma
              simp only [Option.some.injEq] at hs; subst hs
              refine ⟨.slice (some ⟨bb, off, none⟩) (b - a) 0, fun w => ?_, by simp only [AV.R]; exact ⟨bb, κ, hM, rfl⟩⟩
              simp [Instr.sliceAt, run_underlying hu, Instr.slice, hb, sizeT_ok hz, hma]
            · rename_i hma
              simp only [Option.some.injEq] at hs; subst hs
              refine ⟨.slice (some ⟨bb, off + a * z, none⟩) (b - a) (m - a), fun w => ?_, by simp only [AV.R]; exact ⟨bb, κ, hM, rfl⟩⟩
              simp [Instr.sliceAt, run_underlying hu, Instr.slice, hb, sizeT_ok hz, hma, addr_add]
          · cases hs
        · cases hs
      · cases hs
    · cases hs
  · -- an array behind its address
    rename_i n e id off hu
    split at hs
    · rename_i z a b m hz h1 h2 h3
      simp only [nble, nbeq, Bool.cond_decide, ← Bool.decide_and] at hs
      split at hs
      · rename_i hle
        simp only [AV.R] at rx
        obtain ⟨bb, κ, hM, rfl⟩ := rx
        have hb := fun w : World => bounds_run (P := P) (isS := false) h1 h2 h3 r1 r2 r3 hle.1.1 hle.1.2 hle.2 hmx w
        split at hs
        · rename_i hma
          simp only [Option.some.injEq] at hs; subst hs
          refine ⟨.slice (some ⟨bb, off, none⟩) (b - a) 0, fun w => ?_, by simp only [AV.R]; exact ⟨bb, κ, hM, rfl⟩⟩
          simp [Instr.sliceAt, run_underlying hu, Instr.sureAddr, hb, sizeT_ok hz, hma]
        · rename_i hma
          simp only [Option.some.injEq] at hs; subst hs
          refine ⟨.slice (some ⟨bb, off + a * z, none⟩) (b - a) (m - a), fun w => ?_, by simp only [AV.R]; exact ⟨bb, κ, hM, rfl⟩⟩
          simp [Instr.sliceAt, run_underlying hu, Instr.sureAddr, hb, sizeT_ok hz, hma, addr_add]
      · cases hs
    · cases hs
  · cases hs
end
end Go.Proofs.YtiikiphkhfmlcaaGreatDoor.Ex
noncomputable section
namespace Go.Proofs.YtiikiphkhfmlcaaGreatDoor.Ex
open Go

section
variable {P : Program} {M : Mp}

theorem R_agg {l : List AV} {v : Value} (h : (AV.agg l).R M v) : ∃ vs, AV.RL M l vs ∧ v = .agg vs.toArray := by simpa only [AV.R] using h

set_option maxHeartbeats 2000000 in
theorem eqA_ok : ∀ (d D : Nat) (t : TypeId) (x y : AV) (b : Bool) (u v : Value), d ≤ D → eqA P d t x y = some b → x.R M u → y.R M v → ∀ w, (Op.equalIn D t u v).run P w = .ok b w := by
  intro d
  induction d with
  | zero => intro D t x y b u v _ h; simp [eqA] at h
  | succ d ih =>
    intro D t x y b u v hD h rx ry w
    obtain ⟨D, rfl⟩ : ∃ D', D = D' + 1 := ⟨D - 1, by omega⟩
    simp only [eqA] at h
    split at h
    all_goals try (simp only [Option.some.injEq] at h)
    case h_20 =>
      rename_i tx vx ty vy hu
      simp only [AV.R] at rx ry
      obtain ⟨u', rx', rfl⟩ := rx
      obtain ⟨v', ry', rfl⟩ := ry
      simp only [nbeq] at h
      by_cases ht : tx = ty
      · subst ht
        simp only [decide_true, cond_true] at h
        split at h
        · rename_i i hi
          cases hc : i.comparable with
          | false => rw [hc] at h; cases h
          | true =>
            rw [hc, cond_true] at h
            simp only [Op.equalIn, Sem.run_bind, run_underlying hu, Result.andThen_ok]
            simp [typeInfo, hi, hc, ih D tx vx vy b u' v' (by omega) h rx' ry' w]
        · cases h
      · simp only [ht, decide_false, cond_false, Option.some.injEq] at h; subst h
        simp only [Op.equalIn, Sem.run_bind, run_underlying hu, Result.andThen_ok]
        simp [ht]
    case h_21 =>
      rename_i fs xs ys hu
      obtain ⟨us, r1, rfl⟩ := R_agg rx
      obtain ⟨vs, r2, rfl⟩ := R_agg ry
      cases hp : P.stoodInHeld t with
      | true => simp [hp] at h
      | false =>
        rw [hp, cond_false] at h
        have hf : P.fieldsOf t = fs := by simp [Program.fieldsOf, hu]
        rw [run_equalIn_struct w D t us.toArray vs.toArray (by rw [hf]; exact hu) hp, hf]
        generalize fs.toList = l at h ⊢
        induction l generalizing w with
        | nil => simp only [List.foldr_nil, Option.some.injEq] at h; subst h; simp [Op.eqFields]
        | cons f l ihl =>
          simp only [List.foldr_cons] at h
          simp only [Op.eqFields]
          by_cases hn : f.name = "_"
          · simp only [hn, beq_self_eq_true, cond_true] at h
            simp only [hn, ne_eq, not_true_eq_false, if_false]
            exact ihl w h
          · have hb : (f.name == "_") = false := by simp [hn]
            rw [hb, cond_false] at h
            simp only [ne_eq, hn, not_false_eq_true, if_true, Sem.run_bind]
            split at h
            · rename_i pa pb ha hb'
              obtain ⟨ua, e1, q1⟩ := part_ok ha r1
              obtain ⟨ub, e2, q2⟩ := part_ok hb' r2
              rw [e1 w, Result.andThen_ok, e2 w, Result.andThen_ok]
              split at h
              · rename_i he
                rw [ih D f.type pa pb true ua ub (by omega) he q1 q2 w, Result.andThen_ok]
                simp only [Bool.not_true, Bool.false_eq_true, if_false]
                exact ihl w h
              · rename_i he
                rw [ih D f.type pa pb false ua ub (by omega) he q1 q2 w, Result.andThen_ok]
                simp only [Option.some.injEq] at h; subst h
                simp
              · cases h
            · cases h
    case h_22 => cases h
    case h_2 =>
      rename_i k a k' b' hu
      simp only [AV.R] at rx ry; subst rx ry
      cases hk : eqK k k' with
      | false => rw [hk] at h; cases h
      | true =>
        rw [hk, cond_true, Option.some.injEq] at h; subst h
        rw [eqK_eq hk, run_equalIn_int w D t k' _ _ _ hu, eqI_eq]
    case h_1 => simp only [AV.R] at rx ry; subst rx ry; subst h; rename_i hu; exact run_equalIn_bool' w D t _ _ hu
    case h_3 => simp only [AV.R] at rx ry; subst rx ry; subst h; rename_i hu; rw [run_equalIn_string w D t _ _ hu, ByteArray.toList_eq, ByteArray.toList_eq, eqS_eq]
    all_goals (rename_i hu; simp only [AV.R] at rx ry; subst h)
    all_goals try subst rx
    all_goals try subst ry
    all_goals try (obtain ⟨_, _, _, rfl⟩ := rx)
    all_goals try (obtain ⟨_, _, _, rfl⟩ := ry)
    all_goals try (obtain ⟨_, _, rfl⟩ := rx)
    all_goals try (obtain ⟨_, _, rfl⟩ := ry)
    all_goals (simp only [Op.equalIn, Sem.run_bind, run_underlying hu, Result.andThen_ok]; rfl)

theorem eq_bin {t : TypeId} {x y : AV} {u v : Value} {op : BinOp} {r : AV} (h : (match op with | .eql => (eqA P 64 t x y).map AV.b | .neq => (eqA P 64 t x y).map fun r => AV.b !r | _ => none) = some r) (rx : x.R M u) (ry : y.R M v)
    (he : ∀ w, (binOp .eql t u v).run P w = ((Op.equal t u v).run P w).andThen fun b w => .ok (.bool b) w) (hn : ∀ w, (binOp .neq t u v).run P w = ((Op.equal t u v).run P w).andThen fun b w => .ok (.bool !b) w) :
    (op = .eql ∨ op = .neq) ∧ ∃ z, (∀ w, (binOp op t u v).run P w = .ok z w) ∧ r.R M z := by
  cases op <;> simp only [Option.map_eq_some_iff, reduceCtorEq] at h
  · obtain ⟨b, hb, rfl⟩ := h
    exact ⟨.inl rfl, .bool b, fun w => by rw [he, Op.equal, eqA_ok 64 Op.maxDepth t x y b u v (by decide) hb rx ry w]; rfl, rfl⟩
  · obtain ⟨b, hb, rfl⟩ := h
    exact ⟨.inr rfl, .bool !b, fun w => by rw [hn, Op.equal, eqA_ok 64 Op.maxDepth t x y b u v (by decide) hb rx ry w]; rfl, rfl⟩

theorem guard_none {op : BinOp} {t : TypeId} {X Y : Operand} {u v : Value} (h1 : ¬ (u = .nilIface ∧ v = .nilIface)) (h2 : ∀ a b, ¬ (u = .agg a ∧ v = .agg b)) (w : World) : (eqGuard op t X Y u v).run P w = .ok () w := by
  unfold eqGuard
  cases op <;> simp
  all_goals
    split
    · exact absurd ⟨rfl, rfl⟩ h1
    · exact absurd ⟨rfl, rfl⟩ (h2 _ _)
    · rfl

theorem eqA_ni (d : Nat) (t : TypeId) (y : AV) (hy : ∀ s z, y ≠ .ifc s z) : eqA P (d + 1) t .ni y = none := by
  cases y <;> first
    | (exact absurd rfl (hy _ _))
    | (simp only [eqA]; split <;> first | rfl | (simp_all; done))
theorem run_nilnil {t : TypeId} {ms : Array (String × TypeId)} (hu : P.underlying t = some (.interface ms)) (D : Nat) (w : World) : (Op.equalIn (D + 1) t .nilIface .nilIface).run P w = .ok true w := by
  simp only [Op.equalIn, Sem.run_bind, run_underlying hu, Result.andThen_ok]; rfl
theorem bin_ok {op : BinOp} {t : TypeId} {x y v : AV} {X Y : Operand} {a b : Value} (h : binA P op t (litO X Y) x y = some v) (rx : x.R M a) (ry : y.R M b) :
    ∃ u, (∀ w, (eqGuard op t X Y a b >>= fun _ => binOp op t a b).run P w = .ok u w) ∧ v.R M u := by
  unfold binA at h
  split at h
  · simp only [AV.R] at rx ry; subst rx ry
    cases hl : litO X Y with
    | false => rw [hl] at h; cases h
    | true =>
      rw [hl, cond_true] at h
      split at h
      · rename_i ms hu
        have hg : ∀ w, (eqGuard op t X Y .nilIface .nilIface).run P w = .ok () w := fun w => by
          unfold eqGuard
          cases X <;> cases Y <;> first
            | exact absurd hl Bool.false_ne_true
            | (cases op <;> simp)
        have he : ∀ w, (Op.equal t .nilIface .nilIface).run P w = .ok true w := fun w => by
          exact run_nilnil hu 9999 w
        cases op <;> simp only [Option.some.injEq, reduceCtorEq] at h
        · subst h; exact ⟨.bool true, fun w => by simp [hg, binOp, he], rfl⟩
        · subst h; exact ⟨.bool false, fun w => by simp [hg, binOp, he], rfl⟩
      · cases h
  · rename_i k n k' m
    simp only [AV.R] at rx ry; subst rx ry
    have hg := fun w => guard_none (P := P) (op := op) (t := t) (X := X) (Y := Y) (u := .int k n) (v := .int k' m) (by simp) (by simp) w
    have key : ∃ u, (∀ w, (binOp op t (.int k n) (.int k' m)).run P w = .ok u w) ∧ v.R M u := by
      split at h
      · obtain ⟨u, h1, h2⟩ := pureV_ok (P := P) (M := M) h
        exact ⟨u, fun w => by rw [← h1 w]; simp [binOp], h2⟩
      · obtain ⟨u, h1, h2⟩ := pureV_ok (P := P) (M := M) h
        exact ⟨u, fun w => by rw [← h1 w]; simp [binOp], h2⟩
      · cases hk : eqK k k' with
        | false => rw [hk] at h; cases h
        | true =>
          rw [hk, cond_true] at h
          obtain rfl := eqK_eq hk
          exact intBin_ok h
    obtain ⟨u, h1, h2⟩ := key
    exact ⟨u, fun w => by simp [hg, h1], h2⟩
  · rename_i a' b'
    simp only [AV.R] at rx ry; subst rx ry
    have hg := fun w => guard_none (P := P) (op := op) (t := t) (X := X) (Y := Y) (u := .string ⟨a'.toArray⟩) (v := .string ⟨b'.toArray⟩) (by simp) (by simp) w
    obtain ⟨u, h1, h2⟩ := strBin_ok (P := P) (M := M) (t := t) h
    exact ⟨u, fun w => by simp [hg, h1], h2⟩
  · rename_i xs ys
    obtain ⟨us, r1, rfl⟩ := R_agg rx
    obtain ⟨vs, r2, rfl⟩ := R_agg ry
    cases hgf : guardFree P t with
    | false => rw [hgf] at h; cases h
    | true =>
      rw [hgf, cond_true] at h
      obtain ⟨_, z, h1, h2⟩ := eq_bin h rx ry (fun w => by simp only [binOp]; simp) (fun w => by simp only [binOp]; simp)
      have hm : P.eqGuardType P.depth t = false := by simpa [guardFree] using hgf
      exact ⟨z, fun w => by simp [run_eqGuard_agg w op t X Y us.toArray vs.toArray hm, h1], h2⟩
  · rename_i a' b'
    simp only [AV.R] at rx ry
    obtain ⟨_, z, h1, h2⟩ := eq_bin (M := M) h rx ry (fun w => by subst rx ry; simp only [binOp]; simp) (fun w => by subst rx ry; simp only [binOp]; simp)
    have hg := fun w => guard_none (P := P) (op := op) (t := t) (X := X) (Y := Y) (u := a) (v := b) (by subst rx; simp) (by subst rx; simp) w
    exact ⟨z, fun w => by simp [hg, h1], h2⟩
  · cases hp : ptrish x with
    | false => rw [hp] at h; cases h
    | true =>
      rw [hp, cond_true] at h
      have hb : (∀ w, (binOp .eql t a b).run P w = ((Op.equal t a b).run P w).andThen fun b w => .ok (.bool b) w) ∧ (∀ w, (binOp .neq t a b).run P w = ((Op.equal t a b).run P w).andThen fun b w => .ok (.bool !b) w) := by
        cases x <;> simp only [ptrish, Bool.false_eq_true] at hp <;> simp only [AV.R] at rx <;> first
          | (subst rx; exact ⟨fun w => by simp only [binOp]; simp, fun w => by simp only [binOp]; simp⟩)
          | (obtain ⟨_, _, _, rfl⟩ := rx; exact ⟨fun w => by simp only [binOp]; simp, fun w => by simp only [binOp]; simp⟩)
          | (obtain ⟨_, _, rfl⟩ := rx; exact ⟨fun w => by simp only [binOp]; simp, fun w => by simp only [binOp]; simp⟩)
      obtain ⟨hop, z, h1, h2⟩ := eq_bin h rx ry hb.1 hb.2
      have hx : (∀ l, a ≠ .agg l) ∧ (a = .nilIface → b ≠ .nilIface) := by
        refine ⟨fun l e => ?_, fun e1 e2 => ?_⟩
        · cases x <;> simp only [ptrish, Bool.false_eq_true] at hp <;> simp only [AV.R] at rx <;> first
            | (subst rx; cases e; done)
            | (obtain ⟨_, _, _, rfl⟩ := rx; cases e; done)
            | (obtain ⟨_, _, rfl⟩ := rx; cases e; done)
        · subst e1 e2
          have hne : eqA P 64 t x y = none := by
            have hxn : x = .ni := by
              cases x <;> simp only [ptrish, Bool.false_eq_true] at hp <;> simp only [AV.R] at rx <;> first
                | rfl
                | (cases rx; done)
                | (obtain ⟨_, _, _, rx⟩ := rx; cases rx; done)
                | (obtain ⟨_, _, rx⟩ := rx; cases rx; done)
            subst hxn
            have hyn : ∀ s z, y ≠ .ifc s z := fun s z e => by subst e; simp [AV.R] at ry
            exact eqA_ni 63 t y hyn
          rw [hne] at h
          rcases hop with rfl | rfl <;> simp at h
      have hg := fun w => guard_none (P := P) (op := op) (t := t) (X := X) (Y := Y) (u := a) (v := b) (fun e => hx.2 e.1 e.2) (fun l m e => hx.1 l e.1) w
      exact ⟨z, fun w => by simp [hg, h1], h2⟩
end
end Go.Proofs.YtiikiphkhfmlcaaGreatDoor.Ex
