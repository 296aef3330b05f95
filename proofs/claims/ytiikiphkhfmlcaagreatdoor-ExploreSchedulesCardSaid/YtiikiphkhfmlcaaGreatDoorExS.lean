/- The abstract machine: an operation by symbols, whichever. -/
import Derived.Test.YtiikiphkhfmlcaaGreatDoorExX
noncomputable section
namespace Go.Proofs.YtiikiphkhfmlcaaGreatDoor.Ex
open Go

section
variable {P : Program} {M : Mp}

theorem valT_some {h : AH} {t : T AV} {out : OutA} (e : (valT h t).sel = some out) : ∃ v, t.sel = some v ∧ out = .val v h := by
  obtain ⟨a, h1, h2⟩ := T.sel_bind_some e
  exact ⟨a, h1, (T.sel_ret h2).symm⟩
theorem valT2_some {t : T (AV × AH)} {out : OutA} (e : (valT2 t).sel = some out) : ∃ v h', t.sel = some (v, h') ∧ out = .val v h' := by
  obtain ⟨⟨a, b⟩, h1, h2⟩ := T.sel_bind_some e
  exact ⟨a, b, h1, (T.sel_ret h2).symm⟩
theorem unY_ok {op : UnOp} {x v : AV} {X : Value} (h : (unY op x).sel = some v) (rx : x.R M X) : ∃ u, (∀ w, (Op.unary op X).run P w = .ok u w) ∧ v.R M u := by
  unfold unY at h
  split at h <;> first | (cases h; done) | (obtain rfl := T.sel_ret h; simp only [AV.R] at rx; subst rx)
  · exact ⟨_, fun w => by simp only [Op.unary]; rfl, rfl⟩
  · rename_i k n; exact ⟨.int k (k.wrap (0 - n)), fun w => by simp [Op.unary, Op.intArith], rfl⟩
  · exact ⟨_, fun w => by simp only [Op.unary, intBits_eq (.inr (.inr (.inl rfl)))]; rfl, by simp only [AV.R, Bool.cond_eq_ite]⟩
theorem convY_ok {src dst : TypeId} {x v : AV} {y : Value} (h : (convY P src dst x).sel = some v) (rx : x.R M y) : ∃ u, (∀ w, (convert src dst y).run P w = .ok u w) ∧ v.R M u := by
  unfold convY at h
  split at h
  · rename_i d k k' n hs hd
    obtain rfl := T.sel_ret h
    simp only [AV.R] at rx; subst rx
    exact ⟨.int k (k.wrap n), fun w => by simp [convert, run_underlying hs, run_underlying hd, Conv.intToInt], rfl⟩
  · rename_i d l hs hd
    obtain rfl := T.sel_ret h
    simp only [AV.R] at rx; subst rx
    exact ⟨.string ⟨l.toArray⟩, fun w => by simp [convert, run_underlying hs, run_underlying hd], rfl⟩
  · cases h
theorem convHY_ok {h : AH} {w : World} {src dst : TypeId} {x v : AV} {y : Value} (e : (convHY P h src dst x).sel = some v) (rx : x.R M y) (r : Rel M h w) : ∃ u, (convert src dst y).run P w = .ok u w ∧ v.R M u := by
  unfold convHY at e
  cases hx : slV x with
  | false =>
    rw [hx] at e
    obtain ⟨u, h1, h2⟩ := convY_ok (P := P) e rx
    exact ⟨u, h1 w, h2⟩
  | true =>
    rw [hx, cond_true] at e
    cases hb : byteSl P src dst with
    | false => rw [hb] at e; cases e
    | true =>
      rw [hb, cond_true] at e
      obtain ⟨⟨n, f⟩, e1, e2⟩ := T.sel_bind_some e
      obtain ⟨h8, e3⟩ := T.sel_must e2
      obtain rfl := T.sel_ret e3
      obtain ⟨el, t1, _, _⟩ := byteSl_ok hb
      obtain ⟨us, hS, hul, q1, _⟩ := srcY_ok (P := P) (tx := src) (by omega) e1 rx r (by simp [srcOk, t1]) (fun _ => rfl)
      rw [Nat.mul_one] at hul
      obtain ⟨ns, rfl, e4⟩ := yStr_rel hul (fun i hi => by
        obtain ⟨v, a, b⟩ := q1 i hi 0 (by omega)
        exact ⟨v, by simpa using a, by simpa using b⟩) h8
      simp only [List.length_map] at hul
      have hX : ∃ a m c, y = .slice a m c := by
        cases x <;> simp only [slV, Bool.false_eq_true] at hx <;> simp only [AV.R] at rx
        · obtain ⟨b, c, hM, rfl⟩ := rx; exact ⟨_, _, _, rfl⟩
        · exact ⟨_, _, _, rx⟩
        · obtain ⟨a, c, rfl⟩ := rx; exact ⟨_, _, _, rfl⟩
        · rcases rx with ⟨_, _, rfl⟩ | ⟨_, _, a, c, rfl, _⟩ | ⟨_, b, c, d, _, rfl, _⟩ <;> exact ⟨_, _, _, rfl⟩
        · rcases rx with ⟨_, rfl⟩ | ⟨_, a, rfl⟩ <;> exact ⟨_, _, _, rfl⟩
        · rcases rx with ⟨_, _, rfl⟩ | ⟨_, _, a, c, rfl, _⟩ | ⟨_, _, b, off, c, cs, rfl, _⟩ <;> exact ⟨_, _, _, rfl⟩
      obtain ⟨a, m, c, rfl⟩ := hX
      have hl := hS.len w
      have hmn : m = (ns.map (Value.int .u8)).length := by
        have h1 : (Result.ok m w : Result Nat) = _ := hl
        simp only [Result.ok.injEq, and_true] at h1
        simp [h1, hul]
      simp only [List.length_map] at hmn
      subst hmn
      exact ⟨_, convBytes hb ⟨_, _, rfl⟩ rfl (by have h5 := hS.cells; rw [← hul] at h5; exact h5), by simp only [AV.R, e4]⟩
theorem minY_ok {ty : TypeId} {tys : Array TypeId} {x y v : AV} {X Y : Value} (ha : (minY x y).sel = some v) (rx : x.R M X) (ry : y.R M Y) : ∃ u, (∀ w, (Builtin.min_ tys ty #[X, Y]).run P w = .ok u w) ∧ v.R M u := by
  unfold minY at ha
  split at ha
  · rename_i k a k' b h1 h2
    cases hk : eqK k k' with
    | false => rw [hk] at ha; cases ha
    | true =>
      rw [hk] at ha
      obtain rfl := eqK_eq hk
      obtain rfl := T.sel_ret ha
      obtain rfl := yI_ok h1 rx
      obtain rfl := yI_ok h2 ry
      refine ⟨.int k (if b < a then b else a), fun w => by simp [Builtin.min_, Builtin.min2], ?_⟩
      simp only [AV.R, ySel, yLt, Bool.cond_decide]
  · cases ha
theorem maxY_ok {ty : TypeId} {tys : Array TypeId} {x y v : AV} {X Y : Value} (ha : (maxY x y).sel = some v) (rx : x.R M X) (ry : y.R M Y) : ∃ u, (∀ w, (Builtin.max_ tys ty #[X, Y]).run P w = .ok u w) ∧ v.R M u := by
  unfold maxY at ha
  split at ha
  · rename_i k a k' b h1 h2
    cases hk : eqK k k' with
    | false => rw [hk] at ha; cases ha
    | true =>
      rw [hk] at ha
      obtain rfl := eqK_eq hk
      obtain rfl := T.sel_ret ha
      obtain rfl := yI_ok h1 rx
      obtain rfl := yI_ok h2 ry
      refine ⟨.int k (if a < b then b else a), fun w => by simp [Builtin.max_, Builtin.max2], ?_⟩
      simp only [AV.R, ySel, yLt, Bool.cond_decide]
  · cases ha
theorem lenY_ok {w : World} {t ty : TypeId} {x v : AV} {X : Value} (ha : (lenY P t x).sel = some v) (rx : x.R M X) : ∃ u, (Builtin.len_ #[t] ty #[X]).run P w = .ok u w ∧ v.R M u := by
  unfold lenY at ha
  split at ha
  · rename_i e ro nil id z o n hu
    obtain rfl := T.sel_ret ha
    have : ∃ p c, X = .slice p n c := by
      simp only [AV.R] at rx
      rcases rx with ⟨_, rfl, rfl⟩ | ⟨_, rfl, a, c, rfl, _⟩ | ⟨_, b, κ, c, _, rfl, _⟩ <;> exact ⟨_, _, rfl⟩
    obtain ⟨p, c, rfl⟩ := this
    exact ⟨.int .i64 n, by simp [Builtin.len_, run_underlying hu, goInt], rfl⟩
  · rename_i e xx nil z n f hu
    obtain rfl := T.sel_ret ha
    have : ∃ p c, X = .slice p n c := by
      simp only [AV.R] at rx
      rcases rx with ⟨_, rfl, rfl⟩ | ⟨_, rfl, a, c, rfl, _⟩ | ⟨_, _, b, off, c, cs, rfl, _⟩ <;> exact ⟨_, _, rfl⟩
    obtain ⟨p, c, rfl⟩ := this
    exact ⟨.int .i64 n, by simp [Builtin.len_, run_underlying hu, goInt], rfl⟩
  · rename_i e nil hu
    obtain rfl := T.sel_ret ha
    have : ∃ p c, X = .slice p 0 c := by
      simp only [AV.R] at rx
      rcases rx with ⟨_, rfl⟩ | ⟨_, a, rfl⟩ <;> exact ⟨_, _, rfl⟩
    obtain ⟨p, c, rfl⟩ := this
    exact ⟨.int .i64 0, by simp [Builtin.len_, run_underlying hu, goInt], rfl⟩
  · rename_i l hu
    obtain rfl := T.sel_ret ha
    simp only [AV.R] at rx; subst rx
    have hsz : (⟨l.toArray⟩ : ByteArray).size = l.length := by simp [ByteArray.size]
    exact ⟨.int .i64 l.length, by simp [Builtin.len_, run_underlying hu, hsz, goInt], rfl⟩
  · cases ha

/-! Maps from numbers to numbers. -/
theorem findY_ok {k k0 kv : IntKind} {v : Int → Int} {n : Int} : ∀ {l : List MapEntry} {j : Nat}, (∀ e, e ∈ l → ∃ m, e.key = .int k m ∧ e.val = .int kv (v m)) →
    ∃ ov, Instr.findNow (.int k0) (.int k n) l j = some ov ∧ (match ov with | none => ∀ e, e ∈ l → e.key ≠ .int k n | some (i, y) => j ≤ i ∧ i < j + l.length ∧ y = .int kv (v n) ∧ ∃ e, l[i - j]? = some e ∧ e.key = .int k n)
  | [], j, _ => ⟨none, rfl, fun e he => by cases he⟩
  | e :: l, j, h => by
    obtain ⟨m, h1, h2⟩ := h e (by simp)
    by_cases hm : n = m
    · subst hm
      exact ⟨some (j, e.val), by simp [Instr.findNow, Instr.sameNow, h1], Nat.le_refl _, by simp, h2, e, by simp, h1⟩
    · obtain ⟨ov, q1, q2⟩ := findY_ok (k0 := k0) (n := n) (l := l) (j := j + 1) (fun e he => h e (by simp [he]))
      have hb : (n == m) = false := by simpa using hm
      refine ⟨ov, by simp [Instr.findNow, Instr.sameNow, h1, hb, q1], ?_⟩
      cases ov with
      | none =>
        intro e' he'
        rcases List.mem_cons.1 he' with rfl | he'
        · rw [h1]; intro hh; injection hh with _ hh; exact hm hh.symm
        · exact q2 e' he'
      | some q =>
        obtain ⟨i, y⟩ := q
        obtain ⟨a1, a2, a3, e', a4, a5⟩ := q2
        refine ⟨by omega, by rw [List.length_cons]; omega, a3, e', ?_, a5⟩
        rw [show i - j = (i - (j + 1)) + 1 by omega]
        simpa using a4
theorem keyY_ok {t : TypeId} {a : AV} {k : IntKind} {n : Int} {u : Value} (h : keyY P t a = some (k, n)) (r : a.R M u) :
    u = .int k n ∧ ∃ kt e k0, P.underlying t = some (.map kt e) ∧ P.underlying kt = some (.int k0) := by
  unfold keyY at h
  split at h
  · rename_i k' n' hy
    split at h
    · rename_i kt e hu
      split at h
      · rename_i k0 hk
        simp only [Option.some.injEq, Prod.mk.injEq] at h
        obtain ⟨rfl, rfl⟩ := h
        exact ⟨yI_ok hy r, kt, e, k0, hu, hk⟩
      · cases h
    · cases h
  · cases h
theorem MapY.ints {k kv : IntKind} {p : Int → Bool} {v : Int → Int} {l : List MapEntry} (h : MapY k kv p v l) : ∀ e, e ∈ l → ∃ m, e.key = .int k m ∧ e.val = .int kv (v m) := fun e he => by
  obtain ⟨m, q1, q2, _⟩ := h.ent e he
  exact ⟨m, q1, q2⟩
theorem int_inj {k : IntKind} {a b : Int} (h : Value.int k a = .int k b) : a = b := by injection h
theorem lookupY_ok {h : AH} {w : World} {t : TypeId} {m k x : AV} {mv kv : Value} {ok : Bool} (hl : lookupY P h t m k ok = some x) (rm : m.R M mv) (rk : k.R M kv) (r : Rel M h w) :
    ∃ u, (Instr.lookup t mv kv ok).run P w = .ok u w ∧ x.R M u := by
  unfold lookupY at hl
  split at hl
  · rename_i kk n id kz z0 hk hz
    obtain ⟨rfl, kt, e, k0, hu, hkt⟩ := keyY_ok hk rk
    have hck : ∀ em (w : World), (Instr.checkKey em 10000 kt (.int kk n)).run P w = .ok () w := fun em w => checkKey_run (d := 9999) hkt w
    have hz' : zeroT P e = some (.i kz z0) := by simpa [elemZ, hu] using hz
    obtain ⟨y, hy, ry, _⟩ := zeroT_ok (M := M) hz'
    simp only [AV.R] at ry rm
    subst ry
    obtain ⟨b, κ, hM, rfl⟩ := rm
    split at hl
    · rename_i k' kv' p v hg
      obtain ⟨ob, hb, l, ck, rfl, hY⟩ := Ob_of r hg hM
      have hgo := run_getObj' (P := P) hb (by simp)
      cases hkk : eqK kk k' && eqK kz kv' with
      | false => rw [hkk] at hl; cases hl
      | true =>
        rw [hkk, cond_true] at hl
        simp only [Bool.and_eq_true] at hkk
        obtain rfl := eqK_eq hkk.1
        obtain rfl := eqK_eq hkk.2
        obtain ⟨ov, h1, h2⟩ := findY_ok (k0 := k0) (n := n) (j := 0) hY.ints
        have hfk : (Instr.findKey kt (.int kk n) l).run P w = .ok ov w := by simp [Instr.findKey, run_underlying hkt, h1]
        cases ov with
        | none =>
          have hp : p n = false := by
            cases hp : p n with
            | false => rfl
            | true =>
              obtain ⟨e', q1, q2⟩ := hY.has n hp
              exact absurd q2 (h2 e' q1)
          have hs : ySel false (v n) z0 = z0 := rfl
          rw [hp, hs] at hl
          cases ok
          · rw [cond_false, Option.some.injEq] at hl; subst hl
            exact ⟨.int kz z0, by simp [Instr.lookup, run_underlying hu, hck, hgo, hfk, hy], rfl⟩
          · rw [cond_true, Option.some.injEq] at hl; subst hl
            exact ⟨.tuple #[.int kz z0, .bool false], by simp [Instr.lookup, run_underlying hu, hck, hgo, hfk, hy], _, ⟨_, _, rfl, ⟨_, _, rfl, rfl, rfl⟩, rfl⟩, rfl⟩
        | some q =>
          obtain ⟨i, y⟩ := q
          obtain ⟨_, _, rfl, e', q1, q2⟩ := h2
          have hp : p n = true := by
            obtain ⟨m, a1, _, a3⟩ := hY.ent e' (List.mem_of_getElem? q1)
            have := int_inj (a1.symm.trans q2)
            subst this; exact a3
          have hs : ySel true (v n) z0 = v n := rfl
          rw [hp, hs] at hl
          cases ok
          · rw [cond_false, Option.some.injEq] at hl; subst hl
            exact ⟨.int kz (v n), by simp [Instr.lookup, run_underlying hu, hck, hgo, hfk], rfl⟩
          · rw [cond_true, Option.some.injEq] at hl; subst hl
            exact ⟨.tuple #[.int kz (v n), .bool true], by simp [Instr.lookup, run_underlying hu, hck, hgo, hfk], _, ⟨_, _, rfl, ⟨_, _, rfl, rfl, rfl⟩, rfl⟩, rfl⟩
    · cases hl
  · cases hl
theorem mem_modify {α : Type} {f : α → α} : ∀ {l : List α} {j : Nat} {x : α}, x ∈ l.modify j f → x ∈ l ∨ ∃ y, l[j]? = some y ∧ x = f y
  | [], j, x, h => by cases j <;> simp at h
  | a :: l, 0, x, h => by
    simp only [List.modify_zero_cons, List.mem_cons] at h
    rcases h with rfl | h
    · exact .inr ⟨a, rfl, rfl⟩
    · exact .inl (by simp [h])
  | a :: l, j + 1, x, h => by
    simp only [List.modify_succ_cons, List.mem_cons] at h
    rcases h with rfl | h
    · exact .inl (by simp)
    · rcases mem_modify h with h | ⟨y, h1, h2⟩
      · exact .inl (by simp [h])
      · exact .inr ⟨y, by simpa using h1, h2⟩
theorem keys_modify {l : List MapEntry} {j : Nat} {e0 : MapEntry} {kv vv : Value} (h0 : l[j]? = some e0) (hk : e0.key = kv) : (l.modify j fun e => { e with key := kv, val := vv }).map (·.key) = l.map (·.key) := by
  apply List.ext_getElem?
  intro i
  rw [List.getElem?_map, List.getElem?_map, List.getElem?_modify]
  by_cases hi : j = i
  · subst hi
    rw [h0]; simp [hk]
  · cases l[i]? <;> simp [hi]
theorem pair_keys {l : List MapEntry} : (l.Pairwise fun a b => a.key ≠ b.key) ↔ (l.map (·.key)).Pairwise fun a b => a ≠ b := by
  rw [List.pairwise_map]
theorem yOr_l {a : Bool} (b : Bool) (h : a = true) : yOr a b = true := by rw [h]; rfl
theorem yEq_self (n : Int) : yEq n n = true := decide_eq_true rfl
theorem yEq_ne' {a b : Int} (h : a ≠ b) : yEq a b = false := decide_eq_false h
theorem mapUpdateY_ok {h h' : AH} {w : World} {t : TypeId} {m k x : AV} {mv kv vv : Value} (hl : mapUpdateY P h t m k x = some h') (rm : m.R M mv) (rk : k.R M kv) (rv : x.R M vv) (r : Rel M h w) :
    ∃ w', (Instr.mapUpdate t mv kv vv).run P w = .ok () w' ∧ Rel M h' w' ∧ Fr h h' M M w w' ∧ Ab h h' := by
  unfold mapUpdateY at hl
  split at hl
  · rename_i kk n id kx y hk hx
    obtain ⟨rfl, kt, e, k0, hu, hkt⟩ := keyY_ok hk rk
    obtain rfl := yI_ok hx rv
    have hck : ∀ em (w : World), (Instr.checkKey em 10000 kt (.int kk n)).run P w = .ok () w := fun em w => checkKey_run (d := 9999) hkt w
    simp only [AV.R] at rm
    obtain ⟨b, κ, hM, rfl⟩ := rm
    split at hl
    · rename_i k' kv' p v hg
      obtain ⟨ob, hb, l, ck, rfl, hY⟩ := Ob_of r hg hM
      have hgo := run_getObj' (P := P) hb (by simp)
      have hso := fun o' => run_setObj' (P := P) (o' := o') hb (by simp)
      cases hkk : eqK kk k' && eqK kx kv' with
      | false => rw [hkk] at hl; cases hl
      | true =>
        rw [hkk, cond_true] at hl
        simp only [Bool.and_eq_true] at hkk
        obtain rfl := eqK_eq hkk.1
        obtain rfl := eqK_eq hkk.2
        obtain ⟨ov, h1, h2⟩ := findY_ok (k0 := k0) (n := n) (j := 0) hY.ints
        have hfk : (Instr.findKey kt (.int kk n) l).run P w = .ok ov w := by simp [Instr.findKey, run_underlying hkt, h1]
        have old : ∀ e, e ∈ l → e.key ≠ .int kk n → ∃ m, e.key = .int kk m ∧ e.val = .int kx (ySel (yEq m n) y (v m)) ∧ yOr (yEq m n) (p m) = true := fun e he hne => by
          obtain ⟨m, a1, a2, a3⟩ := hY.ent e he
          have hmn : m ≠ n := fun e2 => hne (e2 ▸ a1)
          exact ⟨m, a1, by rw [yEq_ne' hmn]; exact a2, by rw [a3]; cases yEq m n <;> rfl⟩
        cases ov with
        | none =>
          refine ⟨_, ?_, put_ok r hg hl hM (upd_setObj (heap_lt hb)) ⟨l ++ [{ key := .int kk n, val := .int kx y, born := ck }], ck + 1, rfl, fun e he => ?_, fun i hi => ?_, ?_⟩⟩
          · simp [Instr.mapUpdate, run_underlying hu, hgo, hck, hfk, hso]
          · rcases List.mem_append.1 he with he | he
            · exact old e he (h2 e he)
            · obtain rfl := List.mem_singleton.1 he
              exact ⟨n, rfl, by rw [yEq_self]; rfl, yOr_l _ (yEq_self n)⟩
          · by_cases hin : i = n
            · subst hin; exact ⟨_, List.mem_append_right _ (List.mem_singleton.2 rfl), rfl⟩
            · rw [yEq_ne' hin] at hi
              obtain ⟨e', q1, q2⟩ := hY.has i hi
              exact ⟨e', List.mem_append_left _ q1, q2⟩
          · rw [List.pairwise_append]
            refine ⟨hY.one, List.pairwise_singleton _ _, fun a ha b hb => ?_⟩
            obtain rfl := List.mem_singleton.1 hb
            exact h2 a ha
        | some q =>
          obtain ⟨j, y0⟩ := q
          obtain ⟨_, _, rfl, e0, q1, q2⟩ := h2
          have q1 : l[j]? = some e0 := by simpa using q1
          have hks : (Instr.keyThatStays (.int kk n) (.int kk n)).run P w = .ok (.int kk n) w := by simp [Instr.keyThatStays, Instr.sameBits]
          have hkeys := keys_modify (vv := .int kx y) q1 q2
          refine ⟨_, ?_, put_ok r hg hl hM (upd_setObj (heap_lt hb)) ⟨l.modify j fun e => { e with key := .int kk n, val := .int kx y }, ck, rfl, fun e he => ?_, fun i hi => ?_, ?_⟩⟩
          · simp [Instr.mapUpdate, run_underlying hu, hgo, hck, hfk, q1, q2, hks, hso]
          · by_cases hke : e.key = .int kk n
            · rcases mem_modify he with he2 | ⟨y2, b1, rfl⟩
              · have : e ∈ l := he2
                obtain ⟨i, hi⟩ := List.getElem?_of_mem he
                rw [List.getElem?_modify] at hi
                by_cases hij : j = i
                · subst hij
                  rw [q1] at hi
                  simp only [Option.map_eq_map, Option.map_some, ↓reduceIte, Option.some.injEq] at hi
                  subst hi
                  exact ⟨n, rfl, by rw [yEq_self]; rfl, yOr_l _ (yEq_self n)⟩
                · simp only [hij, ↓reduceIte] at hi
                  have hi : l[i]? = some e := by simpa using hi
                  exfalso
                  have hp := List.pairwise_iff_getElem.1 hY.one
                  obtain ⟨l1, e1⟩ := List.getElem?_eq_some_iff.1 q1
                  obtain ⟨l2, e2⟩ := List.getElem?_eq_some_iff.1 hi
                  rcases Nat.lt_or_gt_of_ne hij with hlt | hlt
                  · exact hp j i l1 l2 hlt (by rw [e1, e2, q2, hke])
                  · exact hp i j l2 l1 hlt (by rw [e1, e2, q2, hke])
              · exact ⟨n, rfl, by rw [yEq_self]; rfl, yOr_l _ (yEq_self n)⟩
            · rcases mem_modify he with he2 | ⟨y2, b1, rfl⟩
              · exact old e he2 hke
              · exact absurd rfl hke
          · have hmem : Value.int kk i ∈ (l.map (·.key)) := by
              by_cases hin : i = n
              · subst hin; rw [← q2]; exact List.mem_map.2 ⟨e0, List.mem_of_getElem? q1, rfl⟩
              · rw [yEq_ne' hin] at hi
                obtain ⟨e', a1, a2⟩ := hY.has i hi
                rw [← a2]; exact List.mem_map.2 ⟨e', a1, rfl⟩
            rw [← hkeys] at hmem
            obtain ⟨e', a1, a2⟩ := List.mem_map.1 hmem
            exact ⟨e', a1, a2⟩
          · rw [pair_keys, hkeys, ← pair_keys]; exact hY.one
    · cases hl
  · cases hl
theorem deleteY_ok {h h' : AH} {w : World} {t : TypeId} {m k : AV} {mv kv : Value} {tys : Array TypeId} {ty : TypeId} (hl : deleteY P h t m k = some h') (rm : m.R M mv) (rk : k.R M kv) (r : Rel M h w) (ht : tys[0]? = some t) (ars : Array Value) (ha : ars[0]? = some mv ∧ ars[1]? = some kv) :
    ∃ w', (Builtin.delete_ tys ty ars).run P w = .ok (.tuple #[]) w' ∧ Rel M h' w' ∧ Fr h h' M M w w' ∧ Ab h h' := by
  unfold deleteY at hl
  split at hl
  · rename_i kk n id hk
    obtain ⟨rfl, kt, e, k0, hu, hkt⟩ := keyY_ok hk rk
    have hck : ∀ em (w : World), (Instr.checkKey em 10000 kt (.int kk n)).run P w = .ok () w := fun em w => checkKey_run (d := 9999) hkt w
    simp only [AV.R] at rm
    obtain ⟨b, κ, hM, rfl⟩ := rm
    split at hl
    · rename_i k' kv' p v hg
      obtain ⟨ob, hb, l, ck, rfl, hY⟩ := Ob_of r hg hM
      have hgo := run_getObj' (P := P) hb (by simp)
      have hso := fun o' => run_setObj' (P := P) (o' := o') hb (by simp)
      cases hkk : eqK kk k' with
      | false => rw [hkk] at hl; cases hl
      | true =>
        rw [hkk, cond_true] at hl
        obtain rfl := eqK_eq hkk
        obtain ⟨ov, h1, h2⟩ := findY_ok (k0 := k0) (n := n) (j := 0) hY.ints
        have hfk : (Instr.findKey kt (.int kk n) l).run P w = .ok ov w := by simp [Instr.findKey, run_underlying hkt, h1]
        cases ov with
        | none =>
          refine ⟨_, ?_, put_ok r hg hl hM (upd_setObj (heap_lt hb)) ⟨l, ck, rfl, fun e he => ?_, fun i hi => ?_, hY.one⟩⟩
          · simp [Builtin.delete_, ht, ha.1, ha.2, run_underlying hu, hgo, hck, hfk, hso]
          · obtain ⟨m, a1, a2, a3⟩ := hY.ent e he
            have hmn : m ≠ n := fun e2 => h2 e he (e2 ▸ a1)
            exact ⟨m, a1, a2, by rw [yEq_ne' hmn, a3]; rfl⟩
          · have hi2 : p i = true := by
              cases hp : p i with
              | true => rfl
              | false => rw [hp] at hi; cases hq : yEq i n <;> rw [hq] at hi <;> cases hi
            exact hY.has i hi2
        | some q =>
          obtain ⟨j, y0⟩ := q
          obtain ⟨_, hlt, rfl, e0, q1, q2⟩ := h2
          have q1 : l[j]? = some e0 := by simpa using q1
          have hlt : j < l.length := by omega
          have hp := List.pairwise_iff_getElem.1 hY.one
          obtain ⟨l1, e1⟩ := List.getElem?_eq_some_iff.1 q1
          refine ⟨_, ?_, put_ok r hg hl hM (upd_setObj (heap_lt hb)) ⟨l.eraseIdx j, ck, rfl, fun e he => ?_, fun i hi => ?_, hY.one.sublist (List.eraseIdx_sublist _ _)⟩⟩
          · simp [Builtin.delete_, ht, ha.1, ha.2, run_underlying hu, hgo, hck, hfk, hso, Array.eraseIdxIfInBounds, hlt]
          · obtain ⟨i, hij, hi⟩ := List.mem_eraseIdx_iff_getElem?.1 he
            obtain ⟨m, a1, a2, a3⟩ := hY.ent e (List.mem_of_getElem? hi)
            have hmn : m ≠ n := fun e2 => by
              obtain ⟨l2, e3⟩ := List.getElem?_eq_some_iff.1 hi
              rcases Nat.lt_or_gt_of_ne hij with hlt | hlt
              · exact hp i j l2 l1 hlt (by rw [e1, e3, q2, a1, e2])
              · exact hp j i l1 l2 hlt (by rw [e1, e3, q2, a1, e2])
            exact ⟨m, a1, a2, by rw [yEq_ne' hmn, a3]; rfl⟩
          · by_cases hin : i = n
            · subst hin; rw [yEq_self] at hi; cases hi
            · rw [yEq_ne' hin] at hi
              obtain ⟨e', a1, a2⟩ := hY.has i hi
              refine ⟨e', List.mem_eraseIdx_iff_getElem?.2 ?_, a2⟩
              obtain ⟨i', hi'⟩ := List.getElem?_of_mem a1
              refine ⟨i', fun e2 => ?_, hi'⟩
              subst e2
              rw [q1, Option.some.injEq] at hi'
              subst hi'
              exact hin (int_inj (a2.symm.trans q2))
    · cases hl
  · cases hl
theorem opY_ok {tm : Tr AV} {ρ : Operand → Value} {o : Oper} {h : AH} {w : World} {out : OutA} (ho : (opY P tm o h).sel = some out) (hx : ∀ x ∈ o.op.operands.toList, (evT tm x).R M (ρ x)) (r : Rel M h w) :
    (∀ c, o.op ≠ .defer c) ∧ OutOk P (execOp ρ o) h M w out := by
  obtain ⟨dst, op, type, pos, after, guard⟩ := o
  cases op <;> simp only [opY] at ho <;> first | (cases ho; done) | simp only [Op.operands] at hx
  case pick c a b =>
    obtain ⟨v, hl, rfl⟩ := valT_some ho
    obtain ⟨t, hc, hv⟩ := pickY_ok hl (hx c (by simp)) (hx a (by simp)) (hx b (by simp))
    refine ⟨by simp, fun _ => ?_⟩
    cases t
    · exact OutV.pure (by simp [execOp, hc, asBool]) hv r
    · exact OutV.pure (by simp [execOp, hc, asBool]) hv r
  case load t a =>
    obtain ⟨v, hl, rfl⟩ := valT_some ho
    obtain ⟨u, h1, h2⟩ := loadY_ok (P := P) hl (hx a (by simp)) r
    exact ⟨by simp, fun _ => OutV.got (Got.pure r (h1 w rfl).2 h2)⟩
  case store t a x =>
    obtain ⟨h', hl, h2⟩ := T.sel_bind_some ho
    obtain rfl := (T.sel_ret h2).symm
    exact ⟨by simp, fun _ => OutV.skip (storeY_ok hl (hx a (by simp)) (hx x (by simp)) r)⟩
  case nilCheck x =>
    have ha := hx x (by simp)
    split at ho
    · rename_i ro id z i j he
      rw [he] at ha
      have ha0 := ha
      simp only [AV.R] at ha
      obtain ⟨b, c, hM, he2⟩ := ha
      obtain rfl := (T.sel_ret ho).symm
      exact ⟨by simp, fun _ => OutV.pure (by simp [execOp, he2]; rfl) (by rw [he2] at ha0; exact ha0) r⟩
    · rename_i z j g he
      rw [he] at ha
      have ha0 := ha
      simp only [AV.R] at ha
      obtain ⟨b, off, cs, he2, _⟩ := ha
      obtain rfl := (T.sel_ret ho).symm
      exact ⟨by simp, fun _ => OutV.pure (by simp [execOp, he2]; rfl) (by rw [he2] at ha0; exact ha0) r⟩
    · cases ho
  case lookup t m k ok =>
    obtain ⟨v, hl, rfl⟩ := valT_some ho
    rw [T.sel_of] at hl
    obtain ⟨u, h1, h2⟩ := lookupY_ok (P := P) hl (hx m (by simp)) (hx k (by simp)) r
    exact ⟨by simp, fun _ => OutV.got (Got.pure r h1 h2)⟩
  case mapUpdate t m k x =>
    obtain ⟨h', hl, h2⟩ := T.sel_bind_some ho
    rw [T.sel_of] at hl
    obtain rfl := (T.sel_ret h2).symm
    exact ⟨by simp, fun _ => OutV.skip (mapUpdateY_ok hl (hx m (by simp)) (hx k (by simp)) (hx x (by simp)) r)⟩
  case binOp op t x y yt =>
    obtain ⟨v, hl, rfl⟩ := valT_some ho
    obtain ⟨u, h1, h2⟩ := binY_ok (P := P) (X := x) (Y := y) hl (hx x (by simp)) (hx y (by simp))
    exact ⟨by simp, fun _ => OutV.got (Got.pure r (h1 w) h2)⟩
  case unOp op t x =>
    obtain ⟨v, hl, rfl⟩ := valT_some ho
    obtain ⟨u, h1, h2⟩ := unY_ok (P := P) hl (hx x (by simp))
    exact ⟨by simp, fun _ => OutV.pure (u := u) (by simp [execOp, h1]) h2 r⟩
  case convert src dst x =>
    obtain ⟨v, hl, rfl⟩ := valT_some ho
    obtain ⟨u, h1, h2⟩ := convHY_ok (P := P) hl (hx x (by simp)) r
    exact ⟨by simp, fun _ => OutV.got (Got.pure r h1 h2)⟩
  case makeSlice t l c =>
    obtain ⟨v, h', hl, rfl⟩ := valT2_some ho
    exact ⟨by simp, fun fr => OutV.got (makeSliceY_ok hl (hx l (by simp)) (hx c (by simp)) r fr)⟩
  case slice t x lo hi mx =>
    obtain ⟨v, hl, rfl⟩ := valT_some ho
    obtain ⟨u, h1, h2⟩ := sliceY_ok (P := P) hl (hx x (by simp)) (OR_map lo (fun p e => hx p (by simp [e]))) (OR_map hi (fun p e => hx p (by simp [e]))) (OR_map mx (fun p e => hx p (by simp [e])))
    exact ⟨by simp, fun _ => OutV.got (Got.pure r (h1 w) h2)⟩
  case fieldAddr t x f =>
    have ha := hx x (by simp)
    split at ho
    · rename_i fs ro id z i j hu he
      split at ho
      · rename_i fd hf
        rw [nthF_eq, Array.getElem?_toList] at hf
        split at ho
        · cases ho
        · rename_i n hn hz
          obtain rfl := (T.sel_ret ho).symm
          rw [he] at ha
          simp only [AV.R] at ha
          obtain ⟨b, c, hM, he2⟩ := ha
          have hn0 : ¬ (n = 0) := fun e => hn e
          refine ⟨by simp, fun _ => OutV.got (Got.pure (u := .pointer (some ⟨b, (if ro = true then c else 0) + i * z + j + fd.offset, none⟩)) r ?_ (by simp only [AV.R]; exact ⟨b, c, hM, by rw [Nat.add_assoc]⟩))⟩
          simp [Instr.fieldAt, run_underlying hu, hf, Instr.sureAddr, fieldPlace, sizeT_ok hz, hn0, addr_add, he2]
        · cases ho
      · cases ho
    · rename_i fs z j g hu he
      split at ho
      · rename_i fd hf
        rw [nthF_eq, Array.getElem?_toList] at hf
        split at ho
        · cases ho
        · rename_i n hn hz
          obtain rfl := (T.sel_ret ho).symm
          rw [he] at ha
          simp only [AV.R] at ha
          obtain ⟨b, off, cs, he2, hcs⟩ := ha
          have hn0 : ¬ (n = 0) := fun e => hn e
          refine ⟨by simp, fun _ => OutV.got (Got.pure (u := .pointer (some ⟨b, off + j + fd.offset, none⟩)) r ?_ (by simp only [AV.R]; exact ⟨b, off, cs, by rw [Nat.add_assoc], hcs⟩))⟩
          simp [Instr.fieldAt, run_underlying hu, hf, Instr.sureAddr, fieldPlace, sizeT_ok hz, hn0, addr_add, he2]
        · cases ho
      · cases ho
    · cases ho
  case indexAddr t x i =>
    obtain ⟨v, hl, rfl⟩ := valT_some ho
    obtain ⟨u, h1, h2⟩ := indexAddrY_ok (P := P) hl (hx x (by simp)) (hx i (by simp))
    exact ⟨by simp, fun _ => OutV.got (Got.pure r (h1 w) h2)⟩
  case index t x i =>
    obtain ⟨v, hl, rfl⟩ := valT_some ho
    obtain ⟨u, h1, h2⟩ := indexY_ok (P := P) hl (hx x (by simp)) (hx i (by simp))
    exact ⟨by simp, fun _ => OutV.got (Got.pure r (h1 w) h2)⟩
  case call c =>
    obtain ⟨callee, args, tys⟩ := c
    refine ⟨by simp, ?_⟩
    have hargs : ∀ p ∈ args.toList, (evT tm p).R M (ρ p) := fun p hp => hx p (by simp [Call.operands]; right; simpa using hp)
    have hmap : ∀ (l : List Operand), args.toList = l → args.map ρ = (l.map ρ).toArray := fun l e => by subst e; apply Array.ext'; simp
    have htys : ∀ (l : List TypeId), tys.toList = l → tys = l.toArray := fun l e => by subst e; simp
    cases callee with
    | value f => cases ho
    | invoke x n => cases ho
    | builtin b =>
      cases b <;> first | (cases ho; done) | skip
      case len =>
        simp only at ho
        split at ho
        · rename_i t ts x xs e1 e2
          obtain ⟨v, hl, rfl⟩ := valT_some ho
          obtain ⟨u, h1, h2⟩ := lenY_ok (P := P) (ty := type) (w := w) hl (hargs x (by simp [e2]))
          have hr : ∀ l, (Builtin.len_ #[t] type #[ρ x]).run P w = l → (Builtin.len_ tys type (args.map ρ)).run P w = l := fun l e => by
            rw [← e, htys _ e1, hmap _ e2]; simp [Builtin.len_]
          exact fun _ => OutV.pure (u := u) (by simp [execOp, resolve, invoke, builtin, hr _ h1]) h2 r
        · cases ho
      case append =>
        simp only at ho
        split at ho
        · rename_i t ts x y xs e1 e2
          obtain ⟨v, h', hl, rfl⟩ := valT2_some ho
          intro fr
          cases ts with
          | nil =>
            exfalso
            simp only [List.head?_nil] at hl
            exact appendY_none hl
          | cons t2 ts =>
            have g := appendY_ok (P := P) (ty := type) (tx := t2) (by simpa using hl) (hargs x (by simp [e2])) (hargs y (by simp [e2])) r fr
            obtain ⟨M', u, w', h1, h2, h3, h4, h5⟩ := g
            have hr : ∀ l, (Builtin.append_ #[t, t2] type #[ρ x, ρ y]).run P w = l → (Builtin.append_ tys type (args.map ρ)).run P w = l := fun l e => by
              rw [← e, htys _ e1, hmap _ e2]; simp [Builtin.append_]
            exact ⟨M', u, w', .value u, by simp [execOp, resolve, invoke, builtin, hr _ h1], .inl rfl, h2, h3, h4, h5⟩
        · cases ho
      case delete =>
        simp only at ho
        split at ho
        · rename_i t ts x y rest e1 e2
          obtain ⟨h', hl, h2⟩ := T.sel_bind_some ho
          rw [T.sel_of] at hl
          obtain rfl := (T.sel_ret h2).symm
          obtain ⟨w', h1, h3, h4, h5⟩ := deleteY_ok (P := P) (ty := type) (tys := tys) hl (hargs x (by simp [e2])) (hargs y (by simp [e2])) r (by rw [htys _ e1]; simp) (args.map ρ) (by rw [hmap _ e2]; simp)
          exact fun _ => ⟨M, .tuple #[], w', .value (.tuple #[]), by simp [execOp, resolve, invoke, builtin, h1], .inl rfl, by simp [undefA, AV.R, AV.RL], h3, h4, h5⟩
        · cases ho
      case min =>
        simp only at ho
        split at ho
        · rename_i x y e2
          obtain ⟨v, hl, rfl⟩ := valT_some ho
          obtain ⟨u, h1, h2⟩ := minY_ok (P := P) (ty := type) (tys := tys) hl (hargs x (by simp [e2])) (hargs y (by simp [e2]))
          have hr : ∀ l, (Builtin.min_ tys type #[ρ x, ρ y]).run P w = l → (Builtin.min_ tys type (args.map ρ)).run P w = l := fun l e => by
            rw [← e, hmap _ e2]; rfl
          exact fun _ => OutV.pure (u := u) (by simp [execOp, resolve, invoke, builtin, hr _ (h1 w)]) h2 r
        · cases ho
      case max =>
        simp only at ho
        split at ho
        · rename_i x y e2
          obtain ⟨v, hl, rfl⟩ := valT_some ho
          obtain ⟨u, h1, h2⟩ := maxY_ok (P := P) (ty := type) (tys := tys) hl (hargs x (by simp [e2])) (hargs y (by simp [e2]))
          have hr : ∀ l, (Builtin.max_ tys type #[ρ x, ρ y]).run P w = l → (Builtin.max_ tys type (args.map ρ)).run P w = l := fun l e => by
            rw [← e, hmap _ e2]; rfl
          exact fun _ => OutV.pure (u := u) (by simp [execOp, resolve, invoke, builtin, hr _ (h1 w)]) h2 r
        · cases ho

theorem mvA_some {tm : Tr AV} {o : Oper} {b : Bool} (h : mvA tm o = some b) : ∃ x, o.op = .move x ∧ evT tm x = .yb b := by
  rw [mvA_eq] at h
  split at h
  · rename_i x hop
    split at h
    · rename_i b' he
      simp only [Option.some.injEq] at h; subst h
      exact ⟨x, hop, he⟩
    · cases h
  · cases h
theorem opS_ok {tm : Tr AV} {ρ : Operand → Value} {o : Oper} {h : AH} {w : World} {out : OutA} (ho : opS P tm o h = some out) (hx : ∀ x ∈ o.op.operands.toList, (evT tm x).R M (ρ x)) (r : Rel M h w) :
    (∀ c, o.op ≠ .defer c) ∧ OutOk P (execOp ρ o) h M w out := by
  rw [opS_eq] at ho
  split at ho
  · rename_i b hb
    obtain ⟨x, hop, he⟩ := mvA_some hb
    simp only [Option.some.injEq] at ho; subst ho
    have hxx := hx x (by rw [hop]; simp [Op.operands])
    rw [he] at hxx
    exact ⟨by rw [hop]; simp, fun _ => OutV.pure (u := ρ x) (by simp [execOp, hop]) (by simpa only [AV.R] using hxx) r⟩
  · split at ho
    · rename_i out' ha
      simp only [Option.some.injEq] at ho; subst ho
      exact opA_ok ha hx r
    · exact opY_ok ho hx r

theorem storeY_ab {h h' : AH} {t : TypeId} {a v : AV} (hl : (storeY P h t a v).sel = some h') : Ab h h' := by
  unfold storeY at hl
  split at hl
  · split at hl
    · rename_i hg
      split at hl
      · simp only [Bool.cond_eq_ite] at hl
        split at hl
        · split at hl
          · rename_i hp
            obtain ⟨_, hs⟩ := T.sel_must hl
            obtain rfl := T.sel_ret hs
            exact put_ab hg hp
          · cases hl
        · cases hl
      · cases hl
    · cases hl
  · cases hl
theorem makeSliceY_ab {h h' : AH} {t : TypeId} {l c v : AV} (hl : (makeSliceY P h t l c).sel = some (v, h')) : Ab h h' := by
  unfold makeSliceY at hl
  split at hl
  · split at hl
    · split at hl
      · simp only [Bool.cond_eq_ite] at hl
        split at hl
        · obtain ⟨_, hl⟩ := T.sel_must hl
          obtain ⟨_, hl⟩ := T.sel_must hl
          obtain ⟨_, hl⟩ := T.sel_must hl
          split at hl
          · rename_i hn
            have := T.sel_ret hl
            simp only [Prod.mk.injEq] at this
            obtain ⟨_, rfl⟩ := this
            exact new_ab hn
          · cases hl
        · cases hl
      · cases hl
    · cases hl
  · cases hl
theorem newArr_ab {h h' : AH} {e : TypeId} {z m : Nat} {nil : Bool} {f : Nat → Nat → AV} {v : AV} (ha : (newArr h e z m nil f).sel = some (v, h')) : Ab h h' := new_ab (newArr_sel ha).1
theorem ret_ab {h h' : AH} {v w : AV} (hl : (T.ret (w, h)).sel = some (v, h')) : Ab h h' := by
  have := T.sel_ret hl
  simp only [Prod.mk.injEq] at this
  obtain ⟨_, rfl⟩ := this
  exact Ab.refl h
theorem appendY0_ab {h h' : AH} {t : TypeId} {tx : Option TypeId} {s x v : AV} (hl : (appendY0 P h t tx s x).sel = some (v, h')) : Ab h h' := by
  unfold appendY0 at hl
  split at hl
  · split at hl
    · simp only [Bool.cond_eq_ite] at hl
      split at hl
      · split at hl
        · obtain ⟨⟨m, f⟩, _, hl⟩ := T.sel_bind_some hl
          obtain ⟨_, hl⟩ := T.sel_must hl
          exact newArr_ab hl
        · obtain ⟨⟨m, f⟩, _, hl⟩ := T.sel_bind_some hl
          obtain ⟨_, hl⟩ := T.sel_must hl
          exact newArr_ab hl
        · split at hl
          · obtain ⟨⟨m, f⟩, _, hl⟩ := T.sel_bind_some hl
            rcases T.sel_br hl with ⟨_, hl⟩ | ⟨_, hl⟩
            · exact ret_ab hl
            · obtain ⟨_, hl⟩ := T.sel_must hl
              exact newArr_ab hl
          · cases hl
        · split at hl
          · split at hl
            · split at hl
              · obtain ⟨⟨m, f⟩, _, hl⟩ := T.sel_bind_some hl
                rcases T.sel_br hl with ⟨_, hl⟩ | ⟨_, hl⟩
                · exact ret_ab hl
                · obtain ⟨_, hl⟩ := T.sel_must hl
                  exact newArr_ab hl
              · cases hl
            · cases hl
          · cases hl
        · split at hl
          · split at hl
            · obtain ⟨⟨m, f⟩, _, hl⟩ := T.sel_bind_some hl
              obtain ⟨_, hl⟩ := T.sel_must hl
              obtain ⟨_, hl⟩ := T.sel_must hl
              split at hl
              · rename_i hd
                exact (del_ab hd).trans (newArr_ab hl)
              · cases hl
            · cases hl
          · cases hl
        · split at hl
          · split at hl
            · obtain ⟨⟨m, f⟩, _, hl⟩ := T.sel_bind_some hl
              rcases T.sel_br hl with ⟨_, hl⟩ | ⟨_, hl⟩
              · exact ret_ab hl
              · obtain ⟨_, hl⟩ := T.sel_must hl
                split at hl
                · rename_i hd
                  exact (del_ab hd).trans (newArr_ab hl)
                · cases hl
            · cases hl
          · cases hl
        · cases hl
      · cases hl
    · cases hl
  · cases hl
theorem appendY_ab {h h' : AH} {t : TypeId} {tx : Option TypeId} {s x v : AV} (hl : (appendY P h t tx s x).sel = some (v, h')) : Ab h h' := by
  unfold appendY at hl
  split at hl
  · split at hl
    · split at hl
      · rename_i p hp
        unfold rowOf at hp
        simp only [Bool.cond_eq_ite] at hp
        repeat' split at hp
        all_goals first
          | (cases hp; done)
          | (simp only [Option.some.injEq] at hp
             subst hp
             exact (put_ab (by assumption) (by assumption)).trans (appendY0_ab hl))
      · exact appendY0_ab hl
    · cases hl
  · cases hl
theorem mapUpdateY_ab {h h' : AH} {t : TypeId} {m k v : AV} (hl : mapUpdateY P h t m k v = some h') : Ab h h' := by
  unfold mapUpdateY at hl
  simp only [Bool.cond_eq_ite] at hl
  repeat' split at hl
  all_goals first | (cases hl; done) | (exact put_ab (by assumption) hl)
theorem deleteY_ab {h h' : AH} {t : TypeId} {m k : AV} (hl : deleteY P h t m k = some h') : Ab h h' := by
  unfold deleteY at hl
  simp only [Bool.cond_eq_ite] at hl
  repeat' split at hl
  all_goals first | (cases hl; done) | (exact put_ab (by assumption) hl)
theorem opY_ab {tm : Tr AV} {o : Oper} {h h' : AH} {v : AV} (ho : (opY P tm o h).sel = some (.val v h')) : Ab h h' := by
  have hv : ∀ {t : T AV}, (valT h t).sel = some (.val v h') → Ab h h' := fun e => by
    obtain ⟨v2, _, e2⟩ := valT_some e; cases e2; exact Ab.refl h
  have hv2 : ∀ {t : T (AV × AH)}, (∀ v2 h2, t.sel = some (v2, h2) → Ab h h2) → (valT2 t).sel = some (.val v h') → Ab h h' := fun k e => by
    obtain ⟨v2, h2, e1, e2⟩ := valT2_some e; cases e2; exact k _ _ e1
  unfold opY at ho
  repeat' split at ho
  all_goals first
    | (cases ho; done)
    | exact hv ho
    | (have e := T.sel_ret ho; simp only [OutA.val.injEq] at e; obtain ⟨_, rfl⟩ := e; exact Ab.refl _)
    | exact hv2 (fun _ _ e => makeSliceY_ab e) ho
    | exact hv2 (fun _ _ e => appendY_ab e) ho
    | (obtain ⟨h2, e1, e2⟩ := T.sel_bind_some ho; have e := T.sel_ret e2; simp only [OutA.val.injEq] at e; obtain ⟨_, rfl⟩ := e; exact storeY_ab e1)
    | (obtain ⟨h2, e1, e2⟩ := T.sel_bind_some ho; rw [T.sel_of] at e1; have e := T.sel_ret e2; simp only [OutA.val.injEq] at e; obtain ⟨_, rfl⟩ := e; exact mapUpdateY_ab e1)
    | (obtain ⟨h2, e1, e2⟩ := T.sel_bind_some ho; rw [T.sel_of] at e1; have e := T.sel_ret e2; simp only [OutA.val.injEq] at e; obtain ⟨_, rfl⟩ := e; exact deleteY_ab e1)
theorem opS_ab {tm : Tr AV} {o : Oper} {h h' : AH} {v : AV} (ho : opS P tm o h = some (.val v h')) : Ab h h' := by
  rw [opS_eq] at ho
  split at ho
  · simp only [Option.some.injEq, OutA.val.injEq] at ho; obtain ⟨_, rfl⟩ := ho; exact Ab.refl _
  · split at ho
    · rename_i out' ha
      simp only [Option.some.injEq] at ho; subst ho
      exact opA_ab ha
    · exact opY_ab ho
end
end Go.Proofs.YtiikiphkhfmlcaaGreatDoor.Ex
