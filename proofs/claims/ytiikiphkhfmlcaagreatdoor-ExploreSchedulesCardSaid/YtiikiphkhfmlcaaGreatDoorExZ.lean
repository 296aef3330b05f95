/- The abstract machine: what its operations compute by symbols is what the machine's compute (2). -/
import Derived.Test.YtiikiphkhfmlcaaGreatDoorExY
noncomputable section
namespace Go.Proofs.YtiikiphkhfmlcaaGreatDoor.Ex
open Go

section
variable {P : Program} {M : Mp}

theorem eqY_ok : ∀ (d D : Nat) (t : TypeId) (x y : AV) (b : Bool) (u v : Value), d ≤ D → eqY P d t x y = some b → x.R M u → y.R M v → ∀ w, (Op.equalIn D t u v).run P w = .ok b w := by
  intro d
  induction d with
  | zero => intro D t x y b u v _ h; simp [eqY] at h
  | succ d ih =>
    intro D t x y b u v hD h rx ry w
    simp only [eqY] at h
    split at h
    · rename_i b' he
      simp only [Option.some.injEq] at h; subst h
      exact eqA_ok (d + 1) D t x y _ u v hD he rx ry w
    rename_i hnone
    obtain ⟨D, rfl⟩ : ∃ D', D = D' + 1 := ⟨D - 1, by omega⟩
    split at h
    · rename_i hu
      split at h
      · rename_i a c ha hc
        simp only [Option.some.injEq] at h; subst h
        rw [yB_ok ha rx, yB_ok hc ry]
        exact run_equalIn_bool' w D t _ _ hu
      · cases h
    · rename_i k0 hu
      split at h
      · rename_i k a k' c ha hc
        cases hk : eqK k k' with
        | false => rw [hk] at h; cases h
        | true =>
          rw [hk, cond_true, Option.some.injEq] at h; subst h
          rw [yI_ok ha rx, yI_ok hc ry, eqK_eq hk, run_equalIn_int w D t k' _ _ _ hu, yEq]
          congr 1
      · cases h
    · rename_i hu
      split at h
      · rename_i a c ha hc
        simp only [Option.some.injEq] at h; subst h
        rw [yS_ok ha rx, yS_ok hc ry, run_equalIn_string w D t _ _ hu, ByteArray.toList_eq, ByteArray.toList_eq, ySEq, eqS_eq]
      · cases h
    · rename_i fs xs ys hu
      obtain ⟨us, r1, rfl⟩ := R_agg rx
      obtain ⟨vs, r2, rfl⟩ := R_agg ry
      cases hp : P.stoodInHeld t with
      | true => simp [hp] at h
      | false =>
        rw [hp, cond_false] at h
        have hf : P.fieldsOf t = fs := by simp [Program.fieldsOf, hu]
        rw [run_equalIn_struct w D t us.toArray vs.toArray (by rw [hf]; exact hu) hp, hf]
        generalize fs.toList = l at h ⊢
        induction l generalizing w b with
        | nil => simp only [List.foldr_nil, Option.some.injEq] at h; subst h; simp [Op.eqFields]
        | cons f l ihl =>
          simp only [List.foldr_cons] at h
          simp only [Op.eqFields]
          by_cases hn : f.name = "_"
          · simp only [hn, beq_self_eq_true, cond_true] at h
            simp only [hn, ne_eq, not_true_eq_false, if_false]
            exact ihl b w h
          · have hb : (f.name == "_") = false := by simp [hn]
            rw [hb, cond_false] at h
            simp only [ne_eq, hn, not_false_eq_true, if_true, Sem.run_bind]
            split at h
            · rename_i pa pb ha hb'
              obtain ⟨ua, e1, q1⟩ := part_ok ha r1
              obtain ⟨ub, e2, q2⟩ := part_ok hb' r2
              rw [e1 w, Result.andThen_ok, e2 w, Result.andThen_ok]
              split at h
              · rename_i r r' he hk
                simp only [Option.some.injEq] at h; subst h
                rw [ih D f.type pa pb r ua ub (by omega) he q1 q2 w, Result.andThen_ok]
                cases r
                · simp [yAnd]
                · simp only [Bool.not_true, Bool.false_eq_true, if_false, yAnd, Bool.true_and]
                  exact ihl r' w hk
              · cases h
            · cases h
    · cases h

theorem binY_ok {op : BinOp} {t : TypeId} {x y v : AV} {X Y : Operand} {a b : Value} (h : (binY P op t x y).sel = some v) (rx : x.R M a) (ry : y.R M b) :
    ∃ u, (∀ w, (eqGuard op t X Y a b >>= fun _ => binOp op t a b).run P w = .ok u w) ∧ v.R M u := by
  unfold binY at h
  split at h
  · obtain ⟨us, r1, rfl⟩ := R_agg rx
    obtain ⟨vs, r2, rfl⟩ := R_agg ry
    cases hgf : guardFree P t with
    | false => rw [hgf] at h; cases h
    | true =>
      rw [hgf, cond_true] at h
      have hm : P.eqGuardType P.depth t = false := by simpa [guardFree] using hgf
      cases op <;> first | (cases h; done) | skip
      · simp only at h
        split at h
        · rename_i e he
          obtain rfl := T.sel_ret h
          refine ⟨.bool e, fun w => ?_, rfl⟩
          have := eqY_ok 64 Op.maxDepth t _ _ e _ _ (by decide) he rx ry w
          simp [run_eqGuard_agg w .eql t X Y us.toArray vs.toArray hm, binOp, Op.equal, this]
        · cases h
      · simp only at h
        split at h
        · rename_i e he
          obtain rfl := T.sel_ret h
          refine ⟨.bool !e, fun w => ?_, rfl⟩
          have := eqY_ok 64 Op.maxDepth t _ _ e _ _ (by decide) he rx ry w
          simp [run_eqGuard_agg w .neq t X Y us.toArray vs.toArray hm, binOp, Op.equal, this]
        · cases h
  · split at h
    · rename_i k n k' m ha hb
      obtain rfl := yI_ok ha rx
      obtain rfl := yI_ok hb ry
      have hg := fun w => guard_none (P := P) (op := op) (t := t) (X := X) (Y := Y) (u := .int k n) (v := .int k' m) (by simp) (by simp) w
      have key : ∃ u, (∀ w, (binOp op t (.int k n) (.int k' m)).run P w = .ok u w) ∧ v.R M u := by
        split at h
        · exact shiftY_ok h
        · exact shiftY_ok h
        · cases hk : eqK k k' with
          | false => rw [hk] at h; cases h
          | true =>
            rw [hk, cond_true] at h
            obtain rfl := eqK_eq hk
            exact intY_ok h
      obtain ⟨u, h1, h2⟩ := key
      exact ⟨u, fun w => by simp [hg, h1], h2⟩
    · split at h
      · rename_i p q ha hb
        obtain rfl := yB_ok ha rx
        obtain rfl := yB_ok hb ry
        have hg := fun w => guard_none (P := P) (op := op) (t := t) (X := X) (Y := Y) (u := .bool p) (v := .bool q) (by simp) (by simp) w
        cases op <;> first | (cases h; done) | skip
        · simp only at h
          split at h
          · rename_i hu
            obtain rfl := T.sel_ret h
            refine ⟨.bool (p == q), fun w => ?_, rfl⟩
            have : (Op.equalIn (9999 + 1) t (.bool p) (.bool q)).run P w = .ok (p == q) w := run_equalIn_bool' w 9999 t p q hu
            simp [hg, binOp, Op.equal, Op.maxDepth, this]
          · cases h
        · simp only at h
          split at h
          · rename_i hu
            obtain rfl := T.sel_ret h
            refine ⟨.bool (!(p == q)), fun w => ?_, rfl⟩
            have : (Op.equalIn (9999 + 1) t (.bool p) (.bool q)).run P w = .ok (p == q) w := run_equalIn_bool' w 9999 t p q hu
            simp [hg, binOp, Op.equal, Op.maxDepth, this]
          · cases h
      · split at h
        · rename_i p q ha hb
          obtain rfl := yS_ok ha rx
          obtain rfl := yS_ok hb ry
          have hg := fun w => guard_none (P := P) (op := op) (t := t) (X := X) (Y := Y) (u := .string ⟨p.toArray⟩) (v := .string ⟨q.toArray⟩) (by simp) (by simp) w
          obtain ⟨u, h1, h2⟩ := strY_ok (P := P) (M := M) (t := t) h
          exact ⟨u, fun w => by simp [hg, h1], h2⟩
        · split at h
          · rename_i e z hu hn
            have he := ptr_nil hn hu rx ry
            have hsl : (∃ p n c, a = .slice p n c) := by
              unfold nilY at hn
              split at hn <;> try simp only [AV.R] at rx
              · rcases rx with ⟨_, _, rfl⟩ | ⟨_, _, _, _, rfl, _⟩ | ⟨_, _, _, _, _, rfl, _⟩ <;> exact ⟨_, _, _, rfl⟩
              · subst rx; exact ⟨_, _, _, rfl⟩
              · rcases rx with ⟨_, rfl⟩ | ⟨_, _, rfl⟩ <;> exact ⟨_, _, _, rfl⟩
              · subst rx; exact ⟨_, _, _, rfl⟩
              · rcases rx with ⟨_, _, rfl⟩ | ⟨_, _, _, _, rfl, _⟩ | ⟨_, _, _, _, _, _, rfl, _⟩ <;> exact ⟨_, _, _, rfl⟩
              · subst rx; exact ⟨_, _, _, rfl⟩
              · cases hn
            obtain ⟨p, n, c, rfl⟩ := hsl
            have hg := fun w => guard_none (P := P) (op := op) (t := t) (X := X) (Y := Y) (u := .slice p n c) (v := b) (by simp) (by simp) w
            cases op <;> first | (cases h; done) | skip
            · obtain rfl := T.sel_ret h
              exact ⟨.bool z, fun w => by simp [hg, binOp, he], rfl⟩
            · obtain rfl := T.sel_ret h
              exact ⟨.bool !z, fun w => by simp [hg, binOp, he], rfl⟩
          · cases h

theorem enumT_ok {α : Type} {x : Int} {f : Nat → T α} {v : α} : ∀ {n m : Nat}, (enumT x n m f).sel = some v → ∃ i, m ≤ i ∧ i < m + n ∧ x = i ∧ (f i).sel = some v
  | 0, m, h => by cases h
  | n + 1, m, h => by
    rcases T.sel_br h with ⟨h1, h2⟩ | ⟨h1, h2⟩
    · exact ⟨m, Nat.le_refl _, by omega, by simpa [yEq] using h1, h2⟩
    · obtain ⟨i, q1, q2, q3, q4⟩ := enumT_ok h2
      exact ⟨i, by omega, by omega, q3, q4⟩
theorem yIn_ok {x : Int} {n : Nat} (h : yIn x n = true) : 0 ≤ x ∧ x < n := by simpa [yIn] using h
theorem indexAddrY_ok {t : TypeId} {x ix v : AV} {y iy : Value} (h : (indexAddrY P t x ix).sel = some v) (rx : x.R M y) (ri : ix.R M iy) : ∃ u, (∀ w, (Instr.indexAt t y iy).run P w = .ok u w) ∧ v.R M u := by
  unfold indexAddrY at h
  split at h
  · cases h
  · rename_i iz i hix
    obtain ⟨⟨k, rfl⟩, hnat⟩ := yIx_ok hix ri
    split at h
    · rename_i e ro nil id z o n hu
      split at h
      · rename_i z' hz
        simp only [nbeq, Bool.cond_decide] at h
        split at h
        · rename_i hzz; subst hzz
          obtain ⟨h1, h2⟩ := T.sel_must h
          obtain rfl := T.sel_ret h2
          obtain ⟨h3, h4⟩ := yIn_ok h1
          have hi := hnat h3
          have hlt : i < n := by omega
          have hiz : iz = (i : Int) := by omega
          subst hiz
          simp only [AV.R] at rx
          rcases rx with ⟨_, rfl, _⟩ | ⟨_, rfl, _⟩ | ⟨_, b, κ, c, hM, rfl, _⟩
          · omega
          · omega
          · refine ⟨.pointer (some ⟨b, (if ro = true then κ else 0) + o * z + i * z, none⟩), fun w => ?_, ?_⟩
            · simp [Instr.indexAt, asIntOf, run_underlying hu, hlt, sizeT_ok hz, addr_add]
            · simp only [AV.R]
              refine ⟨b, κ, hM, ?_⟩
              simp only [yNadd, Nat.add_mul, Nat.add_zero, Nat.add_assoc]
        · cases h
      · cases h
    · rename_i e x' nil z n f hu
      split at h
      · rename_i z' hz
        simp only [nbeq, Bool.cond_decide] at h
        split at h
        · rename_i hzz; subst hzz
          obtain ⟨h1, h2⟩ := T.sel_must h
          obtain rfl := T.sel_ret h2
          obtain ⟨h3, h4⟩ := yIn_ok h1
          have hi := hnat h3
          have hlt : i < n := by omega
          have hiz : iz = (i : Int) := by omega
          subst hiz
          simp only [AV.R] at rx
          rcases rx with ⟨_, rfl, _⟩ | ⟨_, rfl, _⟩ | ⟨_, _, b, off, c, cs, rfl, _, _, hcs, hc⟩
          · omega
          · omega
          · refine ⟨.pointer (some ⟨b, off + i * z, none⟩), fun w => ?_, ?_⟩
            · simp [Instr.indexAt, asIntOf, run_underlying hu, hlt, sizeT_ok hz, addr_add]
            · simp only [AV.R]
              exact ⟨b, off + i * z, cs, rfl, hcs, fun q hq => hc i hlt q hq⟩
        · cases h
      · cases h
    · rename_i e id off len cap un hu
      split at h
      · rename_i z hz
        obtain ⟨j, _, hj, rfl, hs⟩ := enumT_ok h
        obtain rfl := T.sel_ret hs
        have hj : j < len := by omega
        simp only [AV.R] at rx
        obtain ⟨b, c, hM, rfl⟩ := rx
        refine ⟨.pointer (some ⟨b, off + j * z, none⟩), fun w => ?_, by simp only [AV.R]; exact ⟨b, c, hM, rfl⟩⟩
        simp [Instr.indexAt, asIntOf, run_underlying hu, hj, sizeT_ok hz, addr_add]
      · cases h
    · rename_i len e id off hu
      split at h
      · rename_i z hz
        obtain ⟨j, _, hj, rfl, hs⟩ := enumT_ok h
        obtain rfl := T.sel_ret hs
        have hj : j < len := by omega
        simp only [AV.R] at rx
        obtain ⟨b, c, hM, rfl⟩ := rx
        refine ⟨.pointer (some ⟨b, off + j * z, none⟩), fun w => ?_, by simp only [AV.R]; exact ⟨b, c, hM, rfl⟩⟩
        simp [Instr.indexAt, asIntOf, run_underlying hu, hj, sizeT_ok hz, addr_add, Instr.sureAddr]
      · cases h
    · cases h
theorem indexY_ok {t : TypeId} {x ix v : AV} {y iy : Value} (h : (indexY P t x ix).sel = some v) (rx : x.R M y) (ri : ix.R M iy) : ∃ u, (∀ w, (Instr.index t y iy).run P w = .ok u w) ∧ v.R M u := by
  unfold indexY at h
  split at h
  · cases h
  · rename_i iz i hix
    obtain ⟨⟨k, rfl⟩, hnat⟩ := yIx_ok hix ri
    split at h
    · rename_i len e cs hu
      split at h
      · rename_i z hz
        obtain ⟨j, _, hj, rfl, hs⟩ := enumT_ok h
        rw [T.sel_of] at hs
        have hj : j < len := by omega
        obtain ⟨us, r1, rfl⟩ := R_agg rx
        obtain ⟨u, h1, h2⟩ := part_ok hs r1
        exact ⟨u, fun w => by simp [Instr.index, asIntOf, run_underlying hu, hj, sizeT_ok hz, h1], h2⟩
      · cases h
    · rename_i hu
      split at h
      · rename_i l hl
        obtain rfl := yS_ok hl rx
        obtain ⟨h1, h2⟩ := T.sel_must h
        obtain rfl := T.sel_ret h2
        obtain ⟨h3, h4⟩ := yIn_ok h1
        have hi := hnat h3
        simp only [yLen] at h4
        have hlt : i < l.length := by omega
        have hiz : iz = (i : Int) := by omega
        subst hiz
        have hsz : i < (⟨l.toArray⟩ : ByteArray).size := by simpa [ByteArray.size] using hlt
        have hc2 : (⟨l.toArray⟩ : ByteArray)[i]? = some (l.getD i 0) := by
          rw [getElem?_pos (⟨l.toArray⟩ : ByteArray) i hsz]
          simp only [Option.some.injEq]
          rw [List.getD_eq_getElem?_getD, List.getElem?_eq_getElem hlt, Option.getD_some]; rfl
        refine ⟨.int .u8 (l.getD i 0).toNat, fun w => ?_, rfl⟩
        simp [Instr.index, asIntOf, run_underlying hu, hc2]
      · cases h
    · cases h
end
end Go.Proofs.YtiikiphkhfmlcaaGreatDoor.Ex
