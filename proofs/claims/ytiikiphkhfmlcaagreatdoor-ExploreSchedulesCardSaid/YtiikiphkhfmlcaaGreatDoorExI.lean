/- The abstract machine: what its operations compute is what the machine's compute (5): maps, append, copy, len. -/
import Derived.Test.YtiikiphkhfmlcaaGreatDoorExH
noncomputable section
namespace Go.Proofs.YtiikiphkhfmlcaaGreatDoor.Ex
open Go

section
variable {P : Program} {M : Mp}

theorem conv_ok {src dst : TypeId} {x v : AV} {y : Value} (h : convA P src dst x = some v) (rx : x.R M y) : ∃ u, (∀ w, (convert src dst y).run P w = .ok u w) ∧ v.R M u := by
  unfold convA at h
  split at h
  · rename_i d k k' n hs hd
    simp only [Option.some.injEq] at h; subst h
    simp only [AV.R] at rx; subst rx
    exact ⟨.int k (k.wrap n), fun w => by simp [convert, run_underlying hs, run_underlying hd, Conv.intToInt], by simp only [AV.R, wrapF_eq]⟩
  · rename_i d l hs hd
    simp only [Option.some.injEq] at h; subst h
    simp only [AV.R] at rx; subst rx
    exact ⟨.string ⟨l.toArray⟩, fun w => by simp [convert, run_underlying hs, run_underlying hd], rfl⟩
  · cases h

/-! Maps. -/
theorem find_ok {k : IntKind} {n : Int} {k0 : IntKind} : ∀ {es : List (AV × AV × Nat)} {l : List MapEntry} {j : Nat} {o : Option (Nat × AV)}, findA k n es j = some o → EL M es l →
    ∃ ov, Instr.findNow (.int k0) (.int k n) l j = some ov ∧ (match o, ov with | none, none => True | some (i, a), some (i', v) => i = i' ∧ j ≤ i ∧ i < j + l.length ∧ a.R M v ∧ (∃ e, l[i - j]? = some e ∧ e.key = .int k n) | _, _ => False)
  | [], l, j, o, h, r => by
    simp only [findA, Option.some.injEq] at h; subst h
    simp only [EL] at r; subst r
    exact ⟨none, rfl, trivial⟩
  | (a, v, bn) :: es, l, j, o, h, r => by
    simp only [EL] at r
    obtain ⟨kv, vv, l', r1, r2, r3, rfl⟩ := r
    cases a <;> simp only [findA, reduceCtorEq] at h
    rename_i k' m
    simp only [AV.R] at r1; subst r1
    cases hk : eqK k k' with
    | false => rw [hk] at h; cases h
    | true =>
      rw [hk, cond_true] at h
      obtain rfl := eqK_eq hk
      rw [eqI_eq] at h
      cases hm : n == m with
      | true =>
        rw [hm, cond_true, Option.some.injEq] at h; subst h
        refine ⟨some (j, vv), by simp [Instr.findNow, Instr.sameNow, hm], rfl, Nat.le_refl _, by simp, r2, ⟨{ key := .int k m, val := vv, born := bn }, by simp, ?_⟩⟩
        simp at hm; simp [hm]
      | false =>
        rw [hm, cond_false] at h
        obtain ⟨ov, h1, h2⟩ := find_ok (k0 := k0) h r3
        refine ⟨ov, by simp [Instr.findNow, Instr.sameNow, hm, h1], ?_⟩
        cases o with
        | none => cases ov <;> simp_all
        | some p =>
          cases ov with
          | none => simp_all
          | some q =>
            obtain ⟨i, a⟩ := p
            obtain ⟨i', v'⟩ := q
            simp only at h2 ⊢
            obtain ⟨e1, e2, e3, e4, e, e5, e6⟩ := h2
            refine ⟨e1, by omega, by simp; omega, e4, e, ?_, e6⟩
            rw [show i - j = (i - (j + 1)) + 1 by omega]
            simpa using e5
theorem key_ok {t : TypeId} {k : AV} {kk : IntKind} {n : Int} (h : keyA P t k = some (kk, n)) : k = .i kk n ∧ ∃ kt e k0, P.underlying t = some (.map kt e) ∧ P.underlying kt = some (.int k0) := by
  unfold keyA at h
  split at h
  · rename_i kt e
    split at h
    · rename_i kt' e' hu
      split at h
      · rename_i k0 hk
        simp only [Option.some.injEq, Prod.mk.injEq] at h
        obtain ⟨rfl, rfl⟩ := h
        exact ⟨rfl, _, _, _, hu, hk⟩
      · cases h
    · cases h
  · cases h
theorem checkKey_run {em : Bool} {d : Nat} {kt : TypeId} {k0 k : IntKind} {n : Int} (h : P.underlying kt = some (.int k0)) (w : World) : (Instr.checkKey em (d + 1) kt (.int k n)).run P w = .ok () w := by
  simp only [Instr.checkKey, Sem.run_bind, run_underlying h, Result.andThen_ok]; rfl

theorem entries_ok {h : AH} {w : World} {m : AV} {mv : Value} {es : List (AV × AV × Nat)} (he : entriesA h m = some es) (rm : m.R M mv) (r : Rel M h w) :
    ∃ l, EL M es l ∧ ((mv = .map none ∧ l = []) ∨ ∃ b ck, mv = .map (some b) ∧ (getObj b).run P w = .ok (.map l.toArray ck) w) := by
  unfold entriesA at he
  split at he
  · simp only [Option.some.injEq] at he; subst he
    simp only [AV.R] at rm; subst rm
    exact ⟨[], rfl, .inl ⟨rfl, rfl⟩⟩
  · rename_i id
    simp only [AV.R] at rm
    obtain ⟨b, κ, hM, rfl⟩ := rm
    split at he
    · rename_i es' ck hg
      simp only [Option.some.injEq] at he; subst he
      obtain ⟨ob, hb, l, rl, rfl⟩ := Ob_of r hg hM
      exact ⟨l, rl, .inr ⟨b, ck, rfl, by simp [getObj, Sem.run, hb]⟩⟩
    · cases he
  · cases he
/-! Keys that are structs. -/
theorem checkScal_run {em : Bool} {d : Nat} {t : TypeId} {v : Value} (h : (match P.underlying t with | some (.int _) => true | some .string => true | some .bool => true | _ => false) = true) (w : World) : (Instr.checkKey em (d + 1) t v).run P w = .ok () w := by
  split at h
  · rename_i hu; simp only [Instr.checkKey, Sem.run_bind, run_underlying hu, Result.andThen_ok]; rfl
  · rename_i hu; simp only [Instr.checkKey, Sem.run_bind, run_underlying hu, Result.andThen_ok]; rfl
  · rename_i hu; simp only [Instr.checkKey, Sem.run_bind, run_underlying hu, Result.andThen_ok]; rfl
  · cases h
theorem checkFields_run {em : Bool} {d : Nat} {xs : List AV} {us : List Value} (rx : AV.RL M xs us) (w : World) : ∀ {fs : List Field}, plainK P fs = true → partsK P xs fs = true →
    (forIn fs PUnit.unit (fun f _ => (do
      if f.name ≠ "_" then Instr.checkKey em (d + 1) f.type (← part f.type us.toArray f.offset)
      pure (ForInStep.yield PUnit.unit) : Sem (ForInStep PUnit)))).run P w = .ok PUnit.unit w
  | [], _, _ => rfl
  | f :: fs, h1, h2 => by
    simp only [plainK, partsK, Bool.and_eq_true] at h1 h2
    have ih := checkFields_run (em := em) (d := d) rx w h1.2 h2.2
    have hp : ∃ u, (part f.type us.toArray f.offset).run P w = .ok u w := by
      have h3 := h2.1
      split at h3
      · rename_i a ha
        obtain ⟨u, e, _⟩ := part_ok ha rx
        exact ⟨u, e w⟩
      · cases h3
    obtain ⟨u, hp⟩ := hp
    rw [List.forIn_cons, Sem.run_bind]
    by_cases hn : f.name = "_"
    · simp only [hn, ne_eq, not_true_eq_false, if_false, Sem.run_bind, Sem.run_pure, Result.andThen_ok, pure_bind]
      exact ih
    · simp only [hn, ne_eq, not_false_eq_true, if_true, Sem.run_bind, hp, Result.andThen_ok, checkScal_run (P := P) h1.1 w, Sem.run_pure]
      exact ih
theorem checkStruct_run {em : Bool} {d : Nat} {kt : TypeId} {fs : Array Field} {xs : List AV} {us : List Value} (hk : P.underlying kt = some (.struct fs)) (rx : AV.RL M xs us) (h1 : plainK P fs.toList = true) (h2 : partsK P xs fs.toList = true) (w : World) : (Instr.checkKey em (d + 1 + 1) kt (.agg us.toArray)).run P w = .ok () w := by
  have := checkFields_run (P := P) (em := em) (d := d) rx w h1 h2
  generalize hn : d + 1 = n at this ⊢
  rw [Instr.checkKey]
  simp only [Sem.run_bind, run_underlying hk, Result.andThen_ok]
  rw [← Array.forIn_toList]
  simp only [Array.forIn_toList, bind_pure_comp, map_pure, ne_eq, ite_not] at this ⊢
  first
    | (rw [this]; rfl)
    | (simp only [this, Result.andThen_ok]; done)
    | (simp at this ⊢; rw [this]; rfl)
theorem keyG_ok {t : TypeId} {k : AV} {kt : TypeId} {kv : Value} (h : keyG P t k = some kt) (rk : k.R M kv) : (∃ e, P.underlying t = some (.map kt e)) ∧ (∃ fs, P.underlying kt = some (.struct fs)) ∧ ∀ em (w : World), (Instr.checkKey em 10000 kt kv).run P w = .ok () w := by
  unfold keyG at h
  split at h
  · rename_i xs
    obtain ⟨us, rx, rfl⟩ := R_agg rk
    split at h
    · rename_i kt' e hu
      split at h
      · rename_i fs hk
        cases hb : plainK P fs.toList && partsK P xs fs.toList with
        | false => rw [hb] at h; cases h
        | true =>
          rw [hb, cond_true, Option.some.injEq] at h; subst h
          simp only [Bool.and_eq_true] at hb
          refine ⟨⟨e, hu⟩, ⟨fs, hk⟩, fun em w => ?_⟩
          exact checkStruct_run (d := 9998) hk rx hb.1 hb.2 w
      · cases h
    · cases h
  · cases h
theorem findG_ok {kt : TypeId} {k : AV} {kv : Value} (rk : k.R M kv) (w : World) : ∀ {es : List (AV × AV × Nat)} {l : List MapEntry} {j : Nat} {o : Option (Nat × AV)}, findG P kt k es j = some o → EL M es l →
    ∃ ov, (Instr.findAsking kt kv l j).run P w = .ok ov w ∧ (match o, ov with | none, none => True | some (_, a), some (_, v) => a.R M v | _, _ => False)
  | [], l, j, o, h, r => by
    simp only [findG, Option.some.injEq] at h; subst h
    simp only [EL] at r; subst r
    exact ⟨none, rfl, trivial⟩
  | (a, v, bn) :: es, l, j, o, h, r => by
    simp only [EL] at r
    obtain ⟨kv', vv, l', r1, r2, r3, rfl⟩ := r
    simp only [findG] at h
    simp only [Instr.findAsking, Sem.run_bind]
    split at h
    · rename_i he
      simp only [Option.some.injEq] at h; subst h
      refine ⟨some (j, vv), ?_, r2⟩
      rw [Op.equal, eqA_ok 64 Op.maxDepth kt k a true kv kv' (by decide) he rk r1 w]; rfl
    · rename_i he
      obtain ⟨ov, e1, e2⟩ := findG_ok rk w h r3
      refine ⟨ov, ?_, e2⟩
      rw [Op.equal, eqA_ok 64 Op.maxDepth kt k a false kv kv' (by decide) he rk r1 w]; exact e1
    · cases h
theorem findKeyG_run {kt : TypeId} {fs : Array Field} {kv : Value} {l : List MapEntry} {ov : Option (Nat × Value)} {w : World} (hk : P.underlying kt = some (.struct fs)) (h : (Instr.findAsking kt kv l).run P w = .ok ov w) (h0 : l = [] → ov = none) : (Instr.findKey kt kv l).run P w = .ok ov w := by
  cases l with
  | nil => rw [h0 rfl]; simp [Instr.findKey, run_underlying hk, Instr.findNow]
  | cons e l => simp [Instr.findKey, run_underlying hk, Instr.findNow, Instr.sameNow, h]
theorem lookup_ok {h : AH} {w : World} {t : TypeId} {m k v : AV} {mv kv : Value} {ok : Bool} (hl : lookupA P h t m k ok = some v) (rm : m.R M mv) (rk : k.R M kv) (r : Rel M h w) :
    ∃ u, (Instr.lookup t mv kv ok).run P w = .ok u w ∧ v.R M u := by
  unfold lookupA at hl
  split at hl
  · rename_i kk n es hk he
    obtain ⟨rfl, kt, e, k0, hu, hkt⟩ := key_ok hk
    simp only [AV.R] at rk; subst rk
    have hck : ∀ em (w : World), (Instr.checkKey em 10000 kt (.int kk n)).run P w = .ok () w := fun em w => checkKey_run (d := 9999) hkt w
    obtain ⟨l, rl, hm⟩ := entries_ok (P := P) he rm r
    split at hl
    · rename_i o hf
      obtain ⟨ov, h1, h2⟩ := find_ok (k0 := k0) hf rl
      have hfk : (Instr.findKey kt (.int kk n) l).run P w = .ok ov w := by simp [Instr.findKey, run_underlying hkt, h1]
      cases o with
      | none =>
        cases ov with
        | some q => exact h2.elim
        | none =>
          simp only [lookT] at hl
          split at hl
          · rename_i z hz
            have hz' : zeroT P e = some z := by simpa [elemZ, hu] using hz
            obtain ⟨y, hy, ry, _⟩ := zeroT_ok (M := M) hz'
            simp only [Option.some.injEq] at hl; subst hl
            rcases hm with ⟨rfl, rfl⟩ | ⟨b, ck, rfl, hgo⟩ <;> cases ok
            · exact ⟨y, by simp [Instr.lookup, run_underlying hu, hck, hfk, hy], ry⟩
            · exact ⟨.tuple #[y, .bool false], by simp [Instr.lookup, run_underlying hu, hck, hfk, hy], by simp only [cond_true, AV.R]; exact ⟨[y, .bool false], by simp [AV.RL, AV.R, ry], rfl⟩⟩
            · exact ⟨y, by simp [Instr.lookup, run_underlying hu, hck, hgo, hfk, hy], ry⟩
            · exact ⟨.tuple #[y, .bool false], by simp [Instr.lookup, run_underlying hu, hck, hgo, hfk, hy], by simp only [cond_true, AV.R]; exact ⟨[y, .bool false], by simp [AV.RL, AV.R, ry], rfl⟩⟩
          · cases hl
      | some p =>
        cases ov with
        | none => exact h2.elim
        | some q =>
          obtain ⟨i, a⟩ := p
          obtain ⟨i', y⟩ := q
          simp only [lookT, Option.some.injEq] at hl
          simp only at h2
          obtain ⟨_, _, _, h2, _⟩ := h2
          subst hl
          rcases hm with ⟨rfl, rfl⟩ | ⟨b, ck, rfl, hgo⟩ <;> cases ok
          · exact ⟨y, by simp [Instr.lookup, run_underlying hu, hck, hfk], h2⟩
          · exact ⟨.tuple #[y, .bool true], by simp [Instr.lookup, run_underlying hu, hck, hfk], by simp only [cond_true, AV.R]; exact ⟨[y, .bool true], by simp [AV.RL, AV.R, h2], rfl⟩⟩
          · exact ⟨y, by simp [Instr.lookup, run_underlying hu, hck, hgo, hfk], h2⟩
          · exact ⟨.tuple #[y, .bool true], by simp [Instr.lookup, run_underlying hu, hck, hgo, hfk], by simp only [cond_true, AV.R]; exact ⟨[y, .bool true], by simp [AV.RL, AV.R, h2], rfl⟩⟩
    · cases hl
  · rename_i es hk0 he
    split at hl
    case h_2 => cases hl
    rename_i kt hk
    obtain ⟨⟨e, hu⟩, ⟨fs, hks⟩, hck⟩ := keyG_ok hk rk
    obtain ⟨l, rl, hm⟩ := entries_ok (P := P) he rm r
    split at hl
    · rename_i o hf
      obtain ⟨ov, h1, h2⟩ := findG_ok (P := P) rk w hf rl
      have hfk : (Instr.findKey kt kv l).run P w = .ok ov w := findKeyG_run hks h1 (fun e => by subst e; simp only [Instr.findAsking, Sem.run_pure, Result.ok.injEq] at h1; exact h1.1.symm)
      cases o with
      | none =>
        cases ov with
        | some q => exact h2.elim
        | none =>
          simp only [lookT] at hl
          split at hl
          · rename_i z hz
            have hz' : zeroT P e = some z := by simpa [elemZ, hu] using hz
            obtain ⟨y, hy, ry, _⟩ := zeroT_ok (M := M) hz'
            simp only [Option.some.injEq] at hl; subst hl
            rcases hm with ⟨rfl, rfl⟩ | ⟨b, ck, rfl, hgo⟩ <;> cases ok
            · exact ⟨y, by simp [Instr.lookup, run_underlying hu, hck, hfk, hy], ry⟩
            · exact ⟨.tuple #[y, .bool false], by simp [Instr.lookup, run_underlying hu, hck, hfk, hy], by simp only [cond_true, AV.R]; exact ⟨[y, .bool false], by simp [AV.RL, AV.R, ry], rfl⟩⟩
            · exact ⟨y, by simp [Instr.lookup, run_underlying hu, hck, hgo, hfk, hy], ry⟩
            · exact ⟨.tuple #[y, .bool false], by simp [Instr.lookup, run_underlying hu, hck, hgo, hfk, hy], by simp only [cond_true, AV.R]; exact ⟨[y, .bool false], by simp [AV.RL, AV.R, ry], rfl⟩⟩
          · cases hl
      | some p =>
        cases ov with
        | none => exact h2.elim
        | some q =>
          obtain ⟨i, a⟩ := p
          obtain ⟨i', y⟩ := q
          simp only [lookT, Option.some.injEq] at hl
          simp only at h2
          subst hl
          rcases hm with ⟨rfl, rfl⟩ | ⟨b, ck, rfl, hgo⟩ <;> cases ok
          · exact ⟨y, by simp [Instr.lookup, run_underlying hu, hck, hfk], h2⟩
          · exact ⟨.tuple #[y, .bool true], by simp [Instr.lookup, run_underlying hu, hck, hfk], by simp only [cond_true, AV.R]; exact ⟨[y, .bool true], by simp [AV.RL, AV.R, h2], rfl⟩⟩
          · exact ⟨y, by simp [Instr.lookup, run_underlying hu, hck, hgo, hfk], h2⟩
          · exact ⟨.tuple #[y, .bool true], by simp [Instr.lookup, run_underlying hu, hck, hgo, hfk], by simp only [cond_true, AV.R]; exact ⟨[y, .bool true], by simp [AV.RL, AV.R, h2], rfl⟩⟩
    · cases hl
  · cases hl

theorem upd_setObj {w : World} {b : Nat} {o : Obj} (hb : b < w.heap.size) : Upd w { w with heap := w.heap.setIfInBounds b o } b o where
  os := rfl
  tape := rfl
  output := rfl
  size := by simp
  other := fun k hk => by simp [Array.getElem?_setIfInBounds_ne (Ne.symm hk)]
  at_ := by simp [hb]
theorem run_setObj' {w : World} {b : Nat} {o o' : Obj} (hb : w.heap[b]? = some o) (hc : ∀ c e f, o ≠ .cells c e f) : (setObj b o').run P w = .ok () { w with heap := w.heap.setIfInBounds b o' } := by
  cases o <;> first | exact absurd rfl (hc _ _ _) | simp only [setObj, Sem.run, hb]
theorem run_getObj' {w : World} {b : Nat} {o : Obj} (hb : w.heap[b]? = some o) (hc : ∀ c e f, o ≠ .cells c e f) : (getObj b).run P w = .ok o w := by
  cases o <;> first | exact absurd rfl (hc _ _ _) | simp only [getObj, Sem.run, hb]

theorem EL_append {k v : AV} {c : Nat} {kv vv : Value} (rk : k.R M kv) (rv : v.R M vv) : ∀ {es : List (AV × AV × Nat)} {l : List MapEntry}, EL M es l → EL M (es ++ [(k, v, c)]) (l ++ [{ key := kv, val := vv, born := c }])
  | [], l, r => by simp only [EL] at r; subst r; simp only [List.nil_append, EL]; exact ⟨kv, vv, [], rk, rv, rfl, rfl⟩
  | e :: es, l, r => by
    simp only [EL] at r
    obtain ⟨k', v', l', r1, r2, r3, rfl⟩ := r
    simp only [List.cons_append, EL]
    exact ⟨k', v', _, r1, r2, EL_append rk rv r3, rfl⟩
theorem EL_mod {k v : AV} {kv vv : Value} (rk : k.R M kv) (rv : v.R M vv) : ∀ {es : List (AV × AV × Nat)} {l : List MapEntry} (j : Nat), EL M es l → EL M (modA k v es j) (l.modify j fun e => { e with key := kv, val := vv })
  | [], l, j, r => by simp only [EL] at r; subst r; simp [modA, EL]
  | e :: es, l, 0, r => by
    obtain ⟨a, b, c⟩ := e
    simp only [EL] at r
    obtain ⟨k', v', l', r1, r2, r3, rfl⟩ := r
    simp only [modA, EL, List.modify_zero_cons]
    exact ⟨kv, vv, l', rk, rv, r3, rfl⟩
  | e :: es, l, j + 1, r => by
    obtain ⟨a, b, c⟩ := e
    simp only [EL] at r
    obtain ⟨k', v', l', r1, r2, r3, rfl⟩ := r
    simp only [modA, EL, List.modify_succ_cons]
    exact ⟨k', v', _, r1, r2, EL_mod rk rv j r3, rfl⟩
theorem EL_del : ∀ {es : List (AV × AV × Nat)} {l : List MapEntry} (j : Nat), EL M es l → EL M (delA es j) (l.eraseIdx j)
  | [], l, j, r => by simp only [EL] at r; subst r; simp [delA, EL]
  | e :: es, l, 0, r => by
    simp only [EL] at r
    obtain ⟨k', v', l', r1, r2, r3, rfl⟩ := r
    simpa [delA] using r3
  | e :: es, l, j + 1, r => by
    simp only [EL] at r
    obtain ⟨k', v', l', r1, r2, r3, rfl⟩ := r
    simp only [delA, EL, List.eraseIdx_cons_succ]
    exact ⟨k', v', _, r1, r2, EL_del j r3, rfl⟩

theorem mapUpdateG_ok {h h' : AH} {w : World} {t : TypeId} {m k v : AV} {mv kv vv : Value} (hl : mapUpdateG P h t m k v = some h') (rm : m.R M mv) (rk : k.R M kv) (rv : v.R M vv) (r : Rel M h w) :
    ∃ w', (Instr.mapUpdate t mv kv vv).run P w = .ok () w' ∧ Rel M h' w' ∧ Fr h h' M M w w' ∧ Ab h h' := by
  unfold mapUpdateG at hl
  split at hl
  · rename_i kt id hk
    obtain ⟨⟨e, hu⟩, ⟨fs, hks⟩, hck⟩ := keyG_ok hk rk
    simp only [AV.R] at rm
    obtain ⟨b, κ, hM, rfl⟩ := rm
    split at hl
    · rename_i es ck hg
      obtain ⟨ob, hb, l, rl, rfl⟩ := Ob_of r hg hM
      have hgo := run_getObj' (P := P) hb (by simp)
      have hso := fun o' => run_setObj' (P := P) (o' := o') hb (by simp)
      split at hl
      · rename_i hf
        obtain ⟨ov, h1, h2⟩ := findG_ok (P := P) rk w hf rl
        cases ov with
        | some q => exact h2.elim
        | none =>
          have hfk : (Instr.findKey kt kv l).run P w = .ok none w := findKeyG_run hks h1 (fun _ => rfl)
          refine ⟨_, ?_, put_ok r hg hl hM (upd_setObj (heap_lt hb)) ⟨_, EL_append (c := ck) rk rv rl, rfl⟩⟩
          simp [Instr.mapUpdate, run_underlying hu, hgo, hck, hfk, hso]
      · cases hl
    · cases hl
  · cases hl
theorem mapUpdate_ok {h h' : AH} {w : World} {t : TypeId} {m k v : AV} {mv kv vv : Value} (hl : mapUpdateA P h t m k v = some h') (rm : m.R M mv) (rk : k.R M kv) (rv : v.R M vv) (r : Rel M h w) :
    ∃ w', (Instr.mapUpdate t mv kv vv).run P w = .ok () w' ∧ Rel M h' w' ∧ Fr h h' M M w w' ∧ Ab h h' := by
  unfold mapUpdateA at hl
  split at hl
  · exact mapUpdateG_ok hl rm rk rv r
  · rename_i kk n id hk
    have rk' := rk
    obtain ⟨rfl, kt, e, k0, hu, hkt⟩ := key_ok hk
    simp only [AV.R] at rk; subst rk
    have hck : ∀ em (w : World), (Instr.checkKey em 10000 kt (.int kk n)).run P w = .ok () w := fun em w => checkKey_run (d := 9999) hkt w
    simp only [AV.R] at rm
    obtain ⟨b, κ, hM, rfl⟩ := rm
    split at hl
    · rename_i es ck hg
      obtain ⟨ob, hb, l, rl, rfl⟩ := Ob_of r hg hM
      have hgo := run_getObj' (P := P) hb (by simp)
      have hso := fun o' => run_setObj' (P := P) (o' := o') hb (by simp)
      split at hl
      · rename_i j a hf
        obtain ⟨ov, h1, h2⟩ := find_ok (k0 := k0) hf rl
        cases ov with
        | none => exact h2.elim
        | some q =>
          obtain ⟨i', y⟩ := q
          simp only at h2
          obtain ⟨rfl, _, h3, h4, me, h5, h6⟩ := h2
          have hfk : (Instr.findKey kt (.int kk n) l).run P w = .ok (some (j, y)) w := by simp [Instr.findKey, run_underlying hkt, h1]
          have hks : (Instr.keyThatStays (.int kk n) (.int kk n)).run P w = .ok (.int kk n) w := by simp [Instr.keyThatStays, Instr.sameBits]
          have hj : l[j]? = some me := by simpa using h5
          refine ⟨_, ?_, put_ok r hg hl hM (upd_setObj (heap_lt hb)) ⟨_, EL_mod rk' rv j rl, rfl⟩⟩
          simp [Instr.mapUpdate, run_underlying hu, hgo, hck, hfk, hj, h6, hks, hso]
      · rename_i hf
        obtain ⟨ov, h1, h2⟩ := find_ok (k0 := k0) hf rl
        cases ov with
        | some q => exact h2.elim
        | none =>
          have hfk : (Instr.findKey kt (.int kk n) l).run P w = .ok none w := by simp [Instr.findKey, run_underlying hkt, h1]
          refine ⟨_, ?_, put_ok r hg hl hM (upd_setObj (heap_lt hb)) ⟨_, EL_append (c := ck) rk' rv rl, rfl⟩⟩
          simp [Instr.mapUpdate, run_underlying hu, hgo, hck, hfk, hso]
      · cases hl
    · cases hl
  · cases hl

theorem delete_ok {h h' : AH} {w : World} {t : TypeId} {m k : AV} {mv kv : Value} {tys : Array TypeId} {ty : TypeId} (hl : deleteA P h t m k = some h') (rm : m.R M mv) (rk : k.R M kv) (r : Rel M h w) (ht : tys[0]? = some t) (as : Array Value) (ha : as[0]? = some mv ∧ as[1]? = some kv) :
    ∃ w', (Builtin.delete_ tys ty as).run P w = .ok (.tuple #[]) w' ∧ Rel M h' w' ∧ Fr h h' M M w w' ∧ Ab h h' := by
  unfold deleteA at hl
  split at hl
  · rename_i p hk
    obtain ⟨kk, n⟩ := p
    simp only [Option.some.injEq] at hl; subst hl
    obtain ⟨rfl, kt, e, k0, hu, hkt⟩ := key_ok hk
    simp only [AV.R] at rk rm; subst rk rm
    have hck : ∀ em (w : World), (Instr.checkKey em 10000 kt (.int kk n)).run P w = .ok () w := fun em w => checkKey_run (d := 9999) hkt w
    exact ⟨w, by simp [Builtin.delete_, ht, ha.1, ha.2, run_underlying hu, hck], r, Fr.same h M w, Ab.refl h⟩
  · rename_i kk n id hk
    obtain ⟨rfl, kt, e, k0, hu, hkt⟩ := key_ok hk
    simp only [AV.R] at rk; subst rk
    have hck : ∀ em (w : World), (Instr.checkKey em 10000 kt (.int kk n)).run P w = .ok () w := fun em w => checkKey_run (d := 9999) hkt w
    simp only [AV.R] at rm
    obtain ⟨b, κ, hM, rfl⟩ := rm
    split at hl
    · rename_i es ck hg
      obtain ⟨ob, hb, l, rl, rfl⟩ := Ob_of r hg hM
      have hgo := run_getObj' (P := P) hb (by simp)
      have hso := fun o' => run_setObj' (P := P) (o' := o') hb (by simp)
      split at hl
      · rename_i j a hf
        obtain ⟨ov, h1, h2⟩ := find_ok (k0 := k0) hf rl
        cases ov with
        | none => exact h2.elim
        | some q =>
          obtain ⟨i', y⟩ := q
          simp only at h2
          obtain ⟨rfl, _, h3, h4, me, h5, h6⟩ := h2
          have hfk : (Instr.findKey kt (.int kk n) l).run P w = .ok (some (j, y)) w := by simp [Instr.findKey, run_underlying hkt, h1]
          refine ⟨_, ?_, put_ok r hg hl hM (upd_setObj (heap_lt hb)) ⟨_, EL_del j rl, rfl⟩⟩
          have hlt : j < l.length := by omega
          simp [Builtin.delete_, ht, ha.1, ha.2, run_underlying hu, hgo, hck, hfk, hso, Array.eraseIdxIfInBounds, hlt]
      · rename_i hf
        obtain ⟨ov, h1, h2⟩ := find_ok (k0 := k0) hf rl
        cases ov with
        | some q => exact h2.elim
        | none =>
          have hfk : (Instr.findKey kt (.int kk n) l).run P w = .ok none w := by simp [Instr.findKey, run_underlying hkt, h1]
          refine ⟨_, ?_, put_ok r hg hl hM (upd_setObj (heap_lt hb)) ⟨_, rl, rfl⟩⟩
          simp [Builtin.delete_, ht, ha.1, ha.2, run_underlying hu, hgo, hck, hfk, hso]
      · cases hl
    · cases hl
  · cases hl
end
end Go.Proofs.YtiikiphkhfmlcaaGreatDoor.Ex
