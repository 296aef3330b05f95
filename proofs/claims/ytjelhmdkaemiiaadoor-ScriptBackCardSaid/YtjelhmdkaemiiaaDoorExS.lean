/- The abstract machine: an operation by symbols, whichever. -/
import Derived.Test.YtjelhmdkaemiiaaDoorExX
namespace Go.Proofs.YtjelhmdkaemiiaaDoor.Ex
open Go

section
variable {P : Program} {M : Mp}

theorem valT_some {h : AH} {t : T AV} {out : OutA} (e : (valT h t).sel = some out) : ∃ v, t.sel = some v ∧ out = .val v h := by
  obtain ⟨a, h1, h2⟩ := T.sel_bind_some e
  exact ⟨a, h1, (T.sel_ret h2).symm⟩
theorem valT2_some {t : T (AV × AH)} {out : OutA} (e : (valT2 t).sel = some out) : ∃ v h', t.sel = some (v, h') ∧ out = .val v h' := by
  obtain ⟨⟨a, b⟩, h1, h2⟩ := T.sel_bind_some e
  exact ⟨a, b, h1, (T.sel_ret h2).symm⟩
theorem unY_ok {op : UnOp} {x v : AV} {X : Value} (h : (unY op x).sel = some v) (rx : x.R M X) : ∃ u, (∀ w, (Op.unary op X).run P w = .ok u w) ∧ v.R M u := by
  unfold unY at h
  split at h <;> first | (cases h; done) | (obtain rfl := T.sel_ret h; simp only [AV.R] at rx; subst rx)
  · exact ⟨_, fun w => by simp only [Op.unary]; rfl, rfl⟩
  · rename_i k n; exact ⟨.int k (k.wrap (0 - n)), fun w => by simp [Op.unary, Op.intArith], rfl⟩
  · exact ⟨_, fun w => by simp only [Op.unary, intBits_eq (.inr (.inr (.inl rfl)))]; rfl, by simp only [AV.R, Bool.cond_eq_ite]⟩
theorem convY_ok {src dst : TypeId} {x v : AV} {y : Value} (h : (convY P src dst x).sel = some v) (rx : x.R M y) : ∃ u, (∀ w, (convert src dst y).run P w = .ok u w) ∧ v.R M u := by
  unfold convY at h
  split at h
  · rename_i d k k' n hs hd
    obtain rfl := T.sel_ret h
    simp only [AV.R] at rx; subst rx
    exact ⟨.int k (k.wrap n), fun w => by simp [convert, run_underlying hs, run_underlying hd, Conv.intToInt], rfl⟩
  · rename_i d l hs hd
    obtain rfl := T.sel_ret h
    simp only [AV.R] at rx; subst rx
    exact ⟨.string ⟨l.toArray⟩, fun w => by simp [convert, run_underlying hs, run_underlying hd], rfl⟩
  · cases h
theorem convHY_ok {h : AH} {w : World} {src dst : TypeId} {x v : AV} {y : Value} (e : (convHY P h src dst x).sel = some v) (rx : x.R M y) (r : Rel M h w) : ∃ u, (convert src dst y).run P w = .ok u w ∧ v.R M u := by
  unfold convHY at e
  cases hx : slV x with
  | false =>
    rw [hx] at e
    obtain ⟨u, h1, h2⟩ := convY_ok (P := P) e rx
    exact ⟨u, h1 w, h2⟩
  | true =>
    rw [hx, cond_true] at e
    cases hb : byteSl P src dst with
    | false => rw [hb] at e; cases e
    | true =>
      rw [hb, cond_true] at e
      obtain ⟨⟨n, f⟩, e1, e2⟩ := T.sel_bind_some e
      obtain ⟨h8, e3⟩ := T.sel_must e2
      obtain rfl := T.sel_ret e3
      obtain ⟨el, t1, _, _⟩ := byteSl_ok hb
      obtain ⟨us, hS, hul, q1, _⟩ := srcY_ok (P := P) (tx := src) (by omega) e1 rx r (by simp [srcOk, t1]) (fun _ => rfl)
      rw [Nat.mul_one] at hul
      obtain ⟨ns, rfl, e4⟩ := yStr_rel hul (fun i hi => by
        obtain ⟨v, a, b⟩ := q1 i hi 0 (by omega)
        exact ⟨v, by simpa using a, by simpa using b⟩) h8
      simp only [List.length_map] at hul
      have hX : ∃ a m c, y = .slice a m c := by
        cases x <;> simp only [slV, Bool.false_eq_true] at hx <;> simp only [AV.R] at rx
        · obtain ⟨b, c, hM, rfl⟩ := rx; exact ⟨_, _, _, rfl⟩
        · exact ⟨_, _, _, rx⟩
        · obtain ⟨a, c, rfl⟩ := rx; exact ⟨_, _, _, rfl⟩
        · rcases rx with ⟨_, _, rfl⟩ | ⟨_, _, a, c, rfl, _⟩ | ⟨_, b, c, d, _, rfl, _⟩ <;> exact ⟨_, _, _, rfl⟩
        · rcases rx with ⟨_, rfl⟩ | ⟨_, a, rfl⟩ <;> exact ⟨_, _, _, rfl⟩
        · rcases rx with ⟨_, _, rfl⟩ | ⟨_, _, a, c, rfl, _⟩ | ⟨_, _, b, off, c, cs, rfl, _⟩ <;> exact ⟨_, _, _, rfl⟩
      obtain ⟨a, m, c, rfl⟩ := hX
      have hl := hS.len w
      have hmn : m = (ns.map (Value.int .u8)).length := by
        have h1 : (Result.ok m w : Result Nat) = _ := hl
        simp only [Result.ok.injEq, and_true] at h1
        simp [h1, hul]
      simp only [List.length_map] at hmn
      subst hmn
      exact ⟨_, convBytes hb ⟨_, _, rfl⟩ rfl (by have h5 := hS.cells; rw [← hul] at h5; exact h5), by simp only [AV.R, e4]⟩
theorem minY_ok {ty : TypeId} {tys : Array TypeId} {x y v : AV} {X Y : Value} (ha : (minY x y).sel = some v) (rx : x.R M X) (ry : y.R M Y) : ∃ u, (∀ w, (Builtin.min_ tys ty #[X, Y]).run P w = .ok u w) ∧ v.R M u := by
  unfold minY at ha
  split at ha
  · rename_i k a k' b h1 h2
    cases hk : eqK k k' with
    | false => rw [hk] at ha; cases ha
    | true =>
      rw [hk] at ha
      obtain rfl := eqK_eq hk
      obtain rfl := T.sel_ret ha
      obtain rfl := yI_ok h1 rx
      obtain rfl := yI_ok h2 ry
      refine ⟨.int k (if b < a then b else a), fun w => by simp [Builtin.min_, Builtin.min2], ?_⟩
      simp only [AV.R, ySel, yLt, Bool.cond_decide]
  · cases ha
theorem maxY_ok {ty : TypeId} {tys : Array TypeId} {x y v : AV} {X Y : Value} (ha : (maxY x y).sel = some v) (rx : x.R M X) (ry : y.R M Y) : ∃ u, (∀ w, (Builtin.max_ tys ty #[X, Y]).run P w = .ok u w) ∧ v.R M u := by
  unfold maxY at ha
  split at ha
  · rename_i k a k' b h1 h2
    cases hk : eqK k k' with
    | false => rw [hk] at ha; cases ha
    | true =>
      rw [hk] at ha
      obtain rfl := eqK_eq hk
      obtain rfl := T.sel_ret ha
      obtain rfl := yI_ok h1 rx
      obtain rfl := yI_ok h2 ry
      refine ⟨.int k (if a < b then b else a), fun w => by simp [Builtin.max_, Builtin.max2], ?_⟩
      simp only [AV.R, ySel, yLt, Bool.cond_decide]
  · cases ha
theorem lenY_ok {w : World} {t ty : TypeId} {x v : AV} {X : Value} (ha : (lenY P t x).sel = some v) (rx : x.R M X) : ∃ u, (Builtin.len_ #[t] ty #[X]).run P w = .ok u w ∧ v.R M u := by
  unfold lenY at ha
  split at ha
  · rename_i e ro nil id z o n hu
    obtain rfl := T.sel_ret ha
    have : ∃ p c, X = .slice p n c := by
      simp only [AV.R] at rx
      rcases rx with ⟨_, rfl, rfl⟩ | ⟨_, rfl, a, c, rfl, _⟩ | ⟨_, b, κ, c, _, rfl, _⟩ <;> exact ⟨_, _, rfl⟩
    obtain ⟨p, c, rfl⟩ := this
    exact ⟨.int .i64 n, by simp [Builtin.len_, run_underlying hu, goInt], rfl⟩
  · rename_i e xx nil z n f hu
    obtain rfl := T.sel_ret ha
    have : ∃ p c, X = .slice p n c := by
      simp only [AV.R] at rx
      rcases rx with ⟨_, rfl, rfl⟩ | ⟨_, rfl, a, c, rfl, _⟩ | ⟨_, _, b, off, c, cs, rfl, _⟩ <;> exact ⟨_, _, rfl⟩
    obtain ⟨p, c, rfl⟩ := this
    exact ⟨.int .i64 n, by simp [Builtin.len_, run_underlying hu, goInt], rfl⟩
  · rename_i e nil hu
    obtain rfl := T.sel_ret ha
    have : ∃ p c, X = .slice p 0 c := by
      simp only [AV.R] at rx
      rcases rx with ⟨_, rfl⟩ | ⟨_, a, rfl⟩ <;> exact ⟨_, _, rfl⟩
    obtain ⟨p, c, rfl⟩ := this
    exact ⟨.int .i64 0, by simp [Builtin.len_, run_underlying hu, goInt], rfl⟩
  · rename_i l hu
    obtain rfl := T.sel_ret ha
    simp only [AV.R] at rx; subst rx
    have hsz : (⟨l.toArray⟩ : ByteArray).size = l.length := by simp [ByteArray.size]
    exact ⟨.int .i64 l.length, by simp [Builtin.len_, run_underlying hu, hsz, goInt], rfl⟩
  · cases ha

theorem opY_ok {tm : Tr AV} {ρ : Operand → Value} {o : Oper} {h : AH} {w : World} {out : OutA} (ho : (opY P tm o h).sel = some out) (hx : ∀ x ∈ o.op.operands.toList, (evT tm x).R M (ρ x)) (r : Rel M h w) :
    (∀ c, o.op ≠ .defer c) ∧ OutOk P (execOp ρ o) h M w out := by
  obtain ⟨dst, op, type, pos, after, guard⟩ := o
  cases op <;> simp only [opY] at ho <;> first | (cases ho; done) | simp only [Op.operands] at hx
  case pick c a b =>
    obtain ⟨v, hl, rfl⟩ := valT_some ho
    obtain ⟨t, hc, hv⟩ := pickY_ok hl (hx c (by simp)) (hx a (by simp)) (hx b (by simp))
    refine ⟨by simp, fun _ => ?_⟩
    cases t
    · exact OutV.pure (by simp [execOp, hc, asBool]) hv r
    · exact OutV.pure (by simp [execOp, hc, asBool]) hv r
  case load t a =>
    obtain ⟨v, hl, rfl⟩ := valT_some ho
    obtain ⟨u, h1, h2⟩ := loadY_ok (P := P) hl (hx a (by simp)) r
    exact ⟨by simp, fun _ => OutV.got (Got.pure r (h1 w rfl).2 h2)⟩
  case store t a x =>
    obtain ⟨h', hl, h2⟩ := T.sel_bind_some ho
    obtain rfl := (T.sel_ret h2).symm
    exact ⟨by simp, fun _ => OutV.skip (storeY_ok hl (hx a (by simp)) (hx x (by simp)) r)⟩
  case nilCheck x =>
    have ha := hx x (by simp)
    split at ho
    · rename_i ro id z i j he
      rw [he] at ha
      have ha0 := ha
      simp only [AV.R] at ha
      obtain ⟨b, c, hM, he2⟩ := ha
      obtain rfl := (T.sel_ret ho).symm
      exact ⟨by simp, fun _ => OutV.pure (by simp [execOp, he2]; rfl) (by rw [he2] at ha0; exact ha0) r⟩
    · rename_i z j g he
      rw [he] at ha
      have ha0 := ha
      simp only [AV.R] at ha
      obtain ⟨b, off, cs, he2, _⟩ := ha
      obtain rfl := (T.sel_ret ho).symm
      exact ⟨by simp, fun _ => OutV.pure (by simp [execOp, he2]; rfl) (by rw [he2] at ha0; exact ha0) r⟩
    · cases ho
  case binOp op t x y yt =>
    obtain ⟨v, hl, rfl⟩ := valT_some ho
    obtain ⟨u, h1, h2⟩ := binY_ok (P := P) (X := x) (Y := y) hl (hx x (by simp)) (hx y (by simp))
    exact ⟨by simp, fun _ => OutV.got (Got.pure r (h1 w) h2)⟩
  case unOp op t x =>
    obtain ⟨v, hl, rfl⟩ := valT_some ho
    obtain ⟨u, h1, h2⟩ := unY_ok (P := P) hl (hx x (by simp))
    exact ⟨by simp, fun _ => OutV.pure (u := u) (by simp [execOp, h1]) h2 r⟩
  case convert src dst x =>
    obtain ⟨v, hl, rfl⟩ := valT_some ho
    obtain ⟨u, h1, h2⟩ := convHY_ok (P := P) hl (hx x (by simp)) r
    exact ⟨by simp, fun _ => OutV.got (Got.pure r h1 h2)⟩
  case makeSlice t l c =>
    obtain ⟨v, h', hl, rfl⟩ := valT2_some ho
    exact ⟨by simp, fun fr => OutV.got (makeSliceY_ok hl (hx l (by simp)) (hx c (by simp)) r fr)⟩
  case slice t x lo hi mx =>
    obtain ⟨v, hl, rfl⟩ := valT_some ho
    obtain ⟨u, h1, h2⟩ := sliceY_ok (P := P) hl (hx x (by simp)) (OR_map lo (fun p e => hx p (by simp [e]))) (OR_map hi (fun p e => hx p (by simp [e]))) (OR_map mx (fun p e => hx p (by simp [e])))
    exact ⟨by simp, fun _ => OutV.got (Got.pure r (h1 w) h2)⟩
  case fieldAddr t x f =>
    have ha := hx x (by simp)
    split at ho
    · rename_i fs ro id z i j hu he
      split at ho
      · rename_i fd hf
        rw [nthF_eq, Array.getElem?_toList] at hf
        split at ho
        · cases ho
        · rename_i n hn hz
          obtain rfl := (T.sel_ret ho).symm
          rw [he] at ha
          simp only [AV.R] at ha
          obtain ⟨b, c, hM, he2⟩ := ha
          have hn0 : ¬ (n = 0) := fun e => hn e
          refine ⟨by simp, fun _ => OutV.got (Got.pure (u := .pointer (some ⟨b, (if ro = true then c else 0) + i * z + j + fd.offset, none⟩)) r ?_ (by simp only [AV.R]; exact ⟨b, c, hM, by rw [Nat.add_assoc]⟩))⟩
          simp [Instr.fieldAt, run_underlying hu, hf, Instr.sureAddr, fieldPlace, sizeT_ok hz, hn0, addr_add, he2]
        · cases ho
      · cases ho
    · rename_i fs z j g hu he
      split at ho
      · rename_i fd hf
        rw [nthF_eq, Array.getElem?_toList] at hf
        split at ho
        · cases ho
        · rename_i n hn hz
          obtain rfl := (T.sel_ret ho).symm
          rw [he] at ha
          simp only [AV.R] at ha
          obtain ⟨b, off, cs, he2, hcs⟩ := ha
          have hn0 : ¬ (n = 0) := fun e => hn e
          refine ⟨by simp, fun _ => OutV.got (Got.pure (u := .pointer (some ⟨b, off + j + fd.offset, none⟩)) r ?_ (by simp only [AV.R]; exact ⟨b, off, cs, by rw [Nat.add_assoc], hcs⟩))⟩
          simp [Instr.fieldAt, run_underlying hu, hf, Instr.sureAddr, fieldPlace, sizeT_ok hz, hn0, addr_add, he2]
        · cases ho
      · cases ho
    · cases ho
  case indexAddr t x i =>
    obtain ⟨v, hl, rfl⟩ := valT_some ho
    obtain ⟨u, h1, h2⟩ := indexAddrY_ok (P := P) hl (hx x (by simp)) (hx i (by simp))
    exact ⟨by simp, fun _ => OutV.got (Got.pure r (h1 w) h2)⟩
  case index t x i =>
    obtain ⟨v, hl, rfl⟩ := valT_some ho
    obtain ⟨u, h1, h2⟩ := indexY_ok (P := P) hl (hx x (by simp)) (hx i (by simp))
    exact ⟨by simp, fun _ => OutV.got (Got.pure r (h1 w) h2)⟩
  case call c =>
    obtain ⟨callee, args, tys⟩ := c
    refine ⟨by simp, ?_⟩
    have hargs : ∀ p ∈ args.toList, (evT tm p).R M (ρ p) := fun p hp => hx p (by simp [Call.operands]; right; simpa using hp)
    have hmap : ∀ (l : List Operand), args.toList = l → args.map ρ = (l.map ρ).toArray := fun l e => by subst e; apply Array.ext'; simp
    have htys : ∀ (l : List TypeId), tys.toList = l → tys = l.toArray := fun l e => by subst e; simp
    cases callee with
    | value f => cases ho
    | invoke x n => cases ho
    | builtin b =>
      cases b <;> first | (cases ho; done) | skip
      case len =>
        simp only at ho
        split at ho
        · rename_i t ts x xs e1 e2
          obtain ⟨v, hl, rfl⟩ := valT_some ho
          obtain ⟨u, h1, h2⟩ := lenY_ok (P := P) (ty := type) (w := w) hl (hargs x (by simp [e2]))
          have hr : ∀ l, (Builtin.len_ #[t] type #[ρ x]).run P w = l → (Builtin.len_ tys type (args.map ρ)).run P w = l := fun l e => by
            rw [← e, htys _ e1, hmap _ e2]; simp [Builtin.len_]
          exact fun _ => OutV.pure (u := u) (by simp [execOp, resolve, invoke, builtin, hr _ h1]) h2 r
        · cases ho
      case append =>
        simp only at ho
        split at ho
        · rename_i t ts x y xs e1 e2
          obtain ⟨v, h', hl, rfl⟩ := valT2_some ho
          intro fr
          cases ts with
          | nil =>
            exfalso
            simp only [List.head?_nil] at hl
            unfold appendY at hl
            split at hl
            · split at hl
              · simp only [srcOk, Option.bind_none, Bool.false_and, cond_false] at hl; cases hl
              · cases hl
            · cases hl
          | cons t2 ts =>
            have g := appendY_ok (P := P) (ty := type) (tx := t2) (by simpa using hl) (hargs x (by simp [e2])) (hargs y (by simp [e2])) r fr
            obtain ⟨M', u, w', h1, h2, h3, h4, h5⟩ := g
            have hr : ∀ l, (Builtin.append_ #[t, t2] type #[ρ x, ρ y]).run P w = l → (Builtin.append_ tys type (args.map ρ)).run P w = l := fun l e => by
              rw [← e, htys _ e1, hmap _ e2]; simp [Builtin.append_]
            exact ⟨M', u, w', .value u, by simp [execOp, resolve, invoke, builtin, hr _ h1], .inl rfl, h2, h3, h4, h5⟩
        · cases ho
      case min =>
        simp only at ho
        split at ho
        · rename_i x y e2
          obtain ⟨v, hl, rfl⟩ := valT_some ho
          obtain ⟨u, h1, h2⟩ := minY_ok (P := P) (ty := type) (tys := tys) hl (hargs x (by simp [e2])) (hargs y (by simp [e2]))
          have hr : ∀ l, (Builtin.min_ tys type #[ρ x, ρ y]).run P w = l → (Builtin.min_ tys type (args.map ρ)).run P w = l := fun l e => by
            rw [← e, hmap _ e2]; rfl
          exact fun _ => OutV.pure (u := u) (by simp [execOp, resolve, invoke, builtin, hr _ (h1 w)]) h2 r
        · cases ho
      case max =>
        simp only at ho
        split at ho
        · rename_i x y e2
          obtain ⟨v, hl, rfl⟩ := valT_some ho
          obtain ⟨u, h1, h2⟩ := maxY_ok (P := P) (ty := type) (tys := tys) hl (hargs x (by simp [e2])) (hargs y (by simp [e2]))
          have hr : ∀ l, (Builtin.max_ tys type #[ρ x, ρ y]).run P w = l → (Builtin.max_ tys type (args.map ρ)).run P w = l := fun l e => by
            rw [← e, hmap _ e2]; rfl
          exact fun _ => OutV.pure (u := u) (by simp [execOp, resolve, invoke, builtin, hr _ (h1 w)]) h2 r
        · cases ho

theorem mvA_some {tm : Tr AV} {o : Oper} {b : Bool} (h : mvA tm o = some b) : ∃ x, o.op = .move x ∧ evT tm x = .yb b := by
  unfold mvA at h
  split at h
  · rename_i x hop
    split at h
    · rename_i b' he
      simp only [Option.some.injEq] at h; subst h
      exact ⟨x, hop, he⟩
    · cases h
  · cases h
theorem opS_ok {tm : Tr AV} {ρ : Operand → Value} {o : Oper} {h : AH} {w : World} {out : OutA} (ho : opS P tm o h = some out) (hx : ∀ x ∈ o.op.operands.toList, (evT tm x).R M (ρ x)) (r : Rel M h w) :
    (∀ c, o.op ≠ .defer c) ∧ OutOk P (execOp ρ o) h M w out := by
  unfold opS at ho
  split at ho
  · rename_i b hb
    obtain ⟨x, hop, he⟩ := mvA_some hb
    simp only [Option.some.injEq] at ho; subst ho
    have hxx := hx x (by rw [hop]; simp [Op.operands])
    rw [he] at hxx
    exact ⟨by rw [hop]; simp, fun _ => OutV.pure (u := ρ x) (by simp [execOp, hop]) (by simpa only [AV.R] using hxx) r⟩
  · split at ho
    · rename_i out' ha
      simp only [Option.some.injEq] at ho; subst ho
      exact opA_ok ha hx r
    · exact opY_ok ho hx r

theorem storeY_ab {h h' : AH} {t : TypeId} {a v : AV} (hl : (storeY P h t a v).sel = some h') : Ab h h' := by
  unfold storeY at hl
  split at hl
  · split at hl
    · rename_i hg
      split at hl
      · simp only [Bool.cond_eq_ite] at hl
        split at hl
        · split at hl
          · rename_i hp
            obtain ⟨_, hs⟩ := T.sel_must hl
            obtain rfl := T.sel_ret hs
            exact put_ab hg hp
          · cases hl
        · cases hl
      · cases hl
    · cases hl
  · cases hl
theorem makeSliceY_ab {h h' : AH} {t : TypeId} {l c v : AV} (hl : (makeSliceY P h t l c).sel = some (v, h')) : Ab h h' := by
  unfold makeSliceY at hl
  split at hl
  · split at hl
    · split at hl
      · simp only [Bool.cond_eq_ite] at hl
        split at hl
        · obtain ⟨_, hl⟩ := T.sel_must hl
          obtain ⟨_, hl⟩ := T.sel_must hl
          obtain ⟨_, hl⟩ := T.sel_must hl
          split at hl
          · rename_i hn
            have := T.sel_ret hl
            simp only [Prod.mk.injEq] at this
            obtain ⟨_, rfl⟩ := this
            exact new_ab hn
          · cases hl
        · cases hl
      · cases hl
    · cases hl
  · cases hl
theorem newArr_ab {h h' : AH} {e : TypeId} {z m : Nat} {nil : Bool} {f : Nat → Nat → AV} {v : AV} (ha : (newArr h e z m nil f).sel = some (v, h')) : Ab h h' := new_ab (newArr_sel ha).1
theorem ret_ab {h h' : AH} {v w : AV} (hl : (T.ret (w, h)).sel = some (v, h')) : Ab h h' := by
  have := T.sel_ret hl
  simp only [Prod.mk.injEq] at this
  obtain ⟨_, rfl⟩ := this
  exact Ab.refl h
theorem appendY_ab {h h' : AH} {t : TypeId} {tx : Option TypeId} {s x v : AV} (hl : (appendY P h t tx s x).sel = some (v, h')) : Ab h h' := by
  unfold appendY at hl
  split at hl
  · split at hl
    · simp only [Bool.cond_eq_ite] at hl
      split at hl
      · split at hl
        · obtain ⟨⟨m, f⟩, _, hl⟩ := T.sel_bind_some hl
          obtain ⟨_, hl⟩ := T.sel_must hl
          exact newArr_ab hl
        · obtain ⟨⟨m, f⟩, _, hl⟩ := T.sel_bind_some hl
          obtain ⟨_, hl⟩ := T.sel_must hl
          exact newArr_ab hl
        · split at hl
          · obtain ⟨⟨m, f⟩, _, hl⟩ := T.sel_bind_some hl
            rcases T.sel_br hl with ⟨_, hl⟩ | ⟨_, hl⟩
            · exact ret_ab hl
            · obtain ⟨_, hl⟩ := T.sel_must hl
              exact newArr_ab hl
          · cases hl
        · split at hl
          · split at hl
            · split at hl
              · obtain ⟨⟨m, f⟩, _, hl⟩ := T.sel_bind_some hl
                rcases T.sel_br hl with ⟨_, hl⟩ | ⟨_, hl⟩
                · exact ret_ab hl
                · obtain ⟨_, hl⟩ := T.sel_must hl
                  exact newArr_ab hl
              · cases hl
            · cases hl
          · cases hl
        · split at hl
          · split at hl
            · obtain ⟨⟨m, f⟩, _, hl⟩ := T.sel_bind_some hl
              obtain ⟨_, hl⟩ := T.sel_must hl
              obtain ⟨_, hl⟩ := T.sel_must hl
              split at hl
              · rename_i hd
                exact (del_ab hd).trans (newArr_ab hl)
              · cases hl
            · cases hl
          · cases hl
        · cases hl
      · cases hl
    · cases hl
  · cases hl
theorem opY_ab {tm : Tr AV} {o : Oper} {h h' : AH} {v : AV} (ho : (opY P tm o h).sel = some (.val v h')) : Ab h h' := by
  have hv : ∀ {t : T AV}, (valT h t).sel = some (.val v h') → Ab h h' := fun e => by
    obtain ⟨v2, _, e2⟩ := valT_some e; cases e2; exact Ab.refl h
  have hv2 : ∀ {t : T (AV × AH)}, (∀ v2 h2, t.sel = some (v2, h2) → Ab h h2) → (valT2 t).sel = some (.val v h') → Ab h h' := fun k e => by
    obtain ⟨v2, h2, e1, e2⟩ := valT2_some e; cases e2; exact k _ _ e1
  unfold opY at ho
  repeat' split at ho
  all_goals first
    | (cases ho; done)
    | exact hv ho
    | (have e := T.sel_ret ho; simp only [OutA.val.injEq] at e; obtain ⟨_, rfl⟩ := e; exact Ab.refl _)
    | exact hv2 (fun _ _ e => makeSliceY_ab e) ho
    | exact hv2 (fun _ _ e => appendY_ab e) ho
    | (obtain ⟨h2, e1, e2⟩ := T.sel_bind_some ho; have e := T.sel_ret e2; simp only [OutA.val.injEq] at e; obtain ⟨_, rfl⟩ := e; exact storeY_ab e1)
theorem opS_ab {tm : Tr AV} {o : Oper} {h h' : AH} {v : AV} (ho : opS P tm o h = some (.val v h')) : Ab h h' := by
  unfold opS at ho
  split at ho
  · simp only [Option.some.injEq, OutA.val.injEq] at ho; obtain ⟨_, rfl⟩ := ho; exact Ab.refl _
  · split at ho
    · rename_i out' ha
      simp only [Option.some.injEq] at ho; subst ho
      exact opA_ab ha
    · exact opY_ab ho
end
end Go.Proofs.YtjelhmdkaemiiaaDoor.Ex
