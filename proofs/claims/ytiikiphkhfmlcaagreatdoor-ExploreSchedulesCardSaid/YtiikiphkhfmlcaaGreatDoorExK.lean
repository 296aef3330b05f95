/- The abstract machine: one operation. -/
import Derived.Test.YtiikiphkhfmlcaaGreatDoorExJ
noncomputable section
namespace Go.Proofs.YtiikiphkhfmlcaaGreatDoor.Ex
open Go

section
variable {P : Program} {M : Mp}

def OutV (P : Program) (s : Sem Next) (h h' : AH) (M : Mp) (w : World) (v : AV) : Prop :=
  ∃ M' u w' nx, s.run P w = .ok nx w' ∧ (nx = .value u ∨ (nx = .skip ∧ u = undef)) ∧ v.R M' u ∧ Rel M' h' w' ∧ Fr h h' M M' w w' ∧ Ab h h'
theorem OutV.got {s : Sem Value} {h h' : AH} {w : World} {v : AV} (g : Got P h h' M w v s) : OutV P (do pure (.value (← s))) h h' M w v := by
  obtain ⟨M', u, w', e, rv, r, f, a⟩ := g
  exact ⟨M', u, w', .value u, by simp [e], .inl rfl, rv, r, f, a⟩
theorem OutV.pure {s : Sem Next} {h : AH} {w : World} {v : AV} {u : Value} (e : s.run P w = .ok (.value u) w) (rv : v.R M u) (r : Rel M h w) : OutV P s h h M w v :=
  ⟨M, u, w, .value u, e, .inl rfl, rv, r, Fr.same h M w, Ab.refl h⟩
theorem OutV.skip {s : Sem Unit} {h h' : AH} {w : World} (g : ∃ w', s.run P w = .ok () w' ∧ Rel M h' w' ∧ Fr h h' M M w w' ∧ Ab h h') : OutV P (do s; Pure.pure Next.skip) h h' M w undefA := by
  obtain ⟨w', e, r, f, a⟩ := g
  exact ⟨M, undef, w', .skip, by simp [e], .inr ⟨rfl, rfl⟩, by simp [undefA, AV.R, AV.RL, undef], r, f, a⟩

def OutOk (P : Program) (s : Sem Next) (h : AH) (M : Mp) (w : World) : OutA → Prop
  | .val v h' => Fresh M h h' → OutV P s h h' M w v
  | .enter f args h' => h' = h ∧ ∃ us, AV.RL M args us ∧ s.run P w = (callFunc f us.toArray).run P w
  | .yld l args h' => h' = h ∧ ∃ us b κ, M l = some (b, κ) ∧ AV.RL M args us ∧ s.run P w = (Instr.yield b us.toArray).run P w

theorem val?_some {h : AH} {o : Option AV} {out : OutA} (e : val? h o = some out) : ∃ v, o = some v ∧ out = .val v h := by
  cases o <;> simp [val?] at e; exact ⟨_, rfl, e.symm⟩
theorem val2_some {o : Option (AV × AH)} {out : OutA} (e : val2 o = some out) : ∃ v h', o = some (v, h') ∧ out = .val v h' := by
  cases o <;> simp [val2] at e; exact ⟨_, _, rfl, e.symm⟩
theorem skip?_some {o : Option AH} {out : OutA} (e : skip? o = some out) : ∃ h', o = some h' ∧ out = .val undefA h' := by
  cases o <;> simp [skip?] at e; exact ⟨_, rfl, e.symm⟩

theorem PL_parts {tm : Tr AV} {ρ : Operand → Value} : ∀ (ps : List (Nat × Operand)), (∀ p ∈ ps, (evT tm p.2).R M (ρ p.2)) → PL M (partsA tm ps) (ps.map fun p => (p.1, ρ p.2))
  | [], _ => rfl
  | p :: ps, h => ⟨ρ p.2, _, h p (by simp), PL_parts ps (fun q hq => h q (by simp [hq])), rfl⟩
theorem RL_args {tm : Tr AV} {ρ : Operand → Value} : ∀ (l : List Operand), (∀ p ∈ l, (evT tm p).R M (ρ p)) → AV.RL M (l.map (evT tm)) (l.map ρ)
  | [], _ => rfl
  | p :: ps, h => by
    simp only [List.map_cons, AV.RL]
    exact ⟨ρ p, _, h p (by simp), RL_args ps (fun q hq => h q (by simp [hq])), rfl⟩
theorem OR_map {tm : Tr AV} {ρ : Operand → Value} (x : Option Operand) (h : ∀ p, x = some p → (evT tm p).R M (ρ p)) : OR M (x.map (evT tm)) (x.map ρ) := by
  cases x with
  | none => rfl
  | some p => exact ⟨ρ p, h p rfl, rfl⟩

theorem makeSlice_ok {h h' : AH} {w : World} {t : TypeId} {l c : Int} {k k' : IntKind} {v : AV} (hb : makeSliceA P h t l c = some (v, h')) (r : Rel M h w) (fr : Fresh M h h') :
    Got P h h' M w v (Instr.makeSlice t (.int k l) (.int k' c)) := by
  unfold makeSliceA at hb
  split at hb
  · rename_i l c
    split at hb
    · rename_i e hu
      split at hb
      · rename_i i hi
        simp only [nble, nbeq, Bool.cond_decide, ← Bool.decide_and] at hb
        split at hb
        · rename_i hle
          obtain ⟨⟨hlc, hc⟩, hbc⟩ := hle
          split at hb
          · rename_i zs hzs
            have hwl : IntKind.i64.wrap (l : Int) = l := wrap_id _ _ (by simp only [negLim]; omega) (by simp only [posLim]; omega)
            have hwc : IntKind.i64.wrap (c : Int) = c := wrap_id _ _ (by simp only [negLim]; omega) (by simp only [posLim]; omega)
            have hno : ¬ (281474976710656 < (i.bytes : Int) * (c : Int)) := by
              have : ((i.bytes * c : Nat) : Int) ≤ ((140737488355328 : Nat) : Int) := Int.ofNat_le.2 hbc
              rw [Int.natCast_mul] at this; omega
            have hno2 : ¬ (281474976710656 < (i.bytes : Int) * (l : Int)) := by
              have h1 : i.bytes * l ≤ i.bytes * c := Nat.mul_le_mul_left _ hlc
              have : ((i.bytes * l : Nat) : Int) ≤ ((140737488355328 : Nat) : Int) := Int.ofNat_le.2 (Nat.le_trans h1 hbc)
              rw [Int.natCast_mul] at this; omega
            have hsi := run_typeInfo' hi
            by_cases h0 : c * i.size = 0
            · simp only [h0, if_true, Option.some.injEq] at hzs; subst hzs
              obtain ⟨M', rfl, hM, q⟩ := newA_ok (κ := 0) hb r fr (ObR_cells (cs := #[]) (by simp [AV.RL]))
              refine ⟨M', .slice (some ⟨w.heap.size, 0, none⟩) l c, _, ?_, by simp only [AV.R]; exact ⟨_, _, hM, rfl⟩, q⟩
              have e0 : ∀ d : Value, Array.map (fun _ : Nat => d) (Array.range 0) = #[] := fun _ => Array.eq_empty_of_size_eq_zero (by simp)
              have hnn : ¬ ((c : Int) < 0) := by omega
              have hnl : ¬ ((l : Int) < 0) := by omega
              have hlc' : ¬ ((c : Int) < (l : Int)) := by omega
              simp [Instr.makeSlice, run_underlying hu, asInt, asIntOf, hsi, hwl, hwc, hno, hnn, hnl, hlc', sizeOf, h0, e0, newRow]
            · simp only [h0, if_false] at hzs
              split at hzs
              · rename_i za hza
                obtain ⟨y, hy, ry, _⟩ := zeroT_ok (M := M) hza
                split at hzs
                · rename_i hl
                  simp only [Option.some.injEq] at hzs; subst hzs
                  have rl := cellsA_R ry
                  have hlen := RL_length rl
                  have hm : c * i.size = c * y.cells.size := by simp at hlen; rw [hlen, hl]
                  obtain ⟨M', rfl, hM, q⟩ := newA_ok (κ := 0) hb r fr (ObR_cells (cs := (repV c y.cells.toList).toArray) (by simpa using RL_rep rl c))
                  refine ⟨M', .slice (some ⟨w.heap.size, 0, none⟩) l c, _, ?_, by simp only [AV.R]; exact ⟨_, _, hM, rfl⟩, q⟩
                  have hrz := rep_zero hm
                  have hnn : ¬ ((c : Int) < 0) := by omega
                  have hnl : ¬ ((l : Int) < 0) := by omega
                  have hlc' : ¬ ((c : Int) < (l : Int)) := by omega
                  have h0' : ¬ (c = 0 ∨ i.size = 0) := by
                    intro e; apply h0
                    rcases e with e | e <;> simp [e]
                  simp [Instr.makeSlice, run_underlying hu, asInt, asIntOf, hsi, hwl, hwc, hno, hnn, hnl, hlc', sizeOf, hy, hrz, newRow]
                  try (intro hh; exact absurd hh h0)
                · cases hzs
              · cases hzs
          · cases hb
        · cases hb
      · cases hb
    · cases hb
  · cases hb

theorem opA_ok {tm : Tr AV} {ρ : Operand → Value} {o : Oper} {h : AH} {w : World} {out : OutA} (ho : opA P tm o h = some out) (hx : ∀ x ∈ o.op.operands.toList, (evT tm x).R M (ρ x)) (r : Rel M h w) :
    (∀ c, o.op ≠ .defer c) ∧ OutOk P (execOp ρ o) h M w out := by
  obtain ⟨dst, op, type, pos, after, guard⟩ := o
  cases op <;> simp only [opA_eq, reduceCtorEq] at ho <;> simp only [Op.operands] at hx
  case move x =>
    simp only [Option.some.injEq] at ho; subst ho
    exact ⟨by simp, fun _ => OutV.pure (by simp [execOp]) (hx x (by simp)) r⟩
  case assign x =>
    simp only [Option.some.injEq] at ho; subst ho
    exact ⟨by simp, fun _ => OutV.pure (by simp [execOp]) (hx x (by simp)) r⟩
  case pick c a b =>
    have hc := hx c (by simp)
    have ha := hx a (by simp)
    have hb := hx b (by simp)
    split at ho
    · rename_i t ht
      rw [ht] at hc
      simp only [AV.R] at hc
      simp only [Option.some.injEq] at ho; subst ho
      refine ⟨by simp, fun _ => ?_⟩
      cases t
      · exact OutV.pure (by simp [execOp, hc, asBool]) hb r
      · exact OutV.pure (by simp [execOp, hc, asBool]) ha r
    · cases ho
  case alloc t =>
    split at ho
    · rename_i z hz
      obtain ⟨v, h', hn, rfl⟩ := val2_some ho
      exact ⟨by simp, fun fr => OutV.got (alloc_ok hz hn r fr)⟩
    · cases ho
  case box t x =>
    obtain ⟨v, h', hn, rfl⟩ := val2_some ho
    exact ⟨by simp, fun fr => OutV.got (box_ok hn (hx x (by simp)) r fr)⟩
  case build t ps =>
    obtain ⟨v, hb, rfl⟩ := val?_some ho
    refine ⟨by simp, fun _ => ?_⟩
    have hp := PL_parts (M := M) (tm := tm) (ρ := ρ) ps.toList (fun p hp => hx p.2 (by simp; exact ⟨p.1, by simpa using hp⟩))
    obtain ⟨u, h1, h2⟩ := build_ok (w := w) hb hp
    have e : (ps.toList.map fun p => (p.1, ρ p.2)).toArray = ps.map fun x => (x.1, ρ x.2) := by apply Array.ext'; simp
    rw [e] at h1
    exact OutV.got (Got.pure r h1 h2)
  case buildSlice t n ps =>
    obtain ⟨v, h', hb, rfl⟩ := val2_some ho
    refine ⟨by simp, fun fr => ?_⟩
    have hp := PL_parts (M := M) (tm := tm) (ρ := ρ) ps.toList (fun p hp => hx p.2 (by simp; exact ⟨p.1, by simpa using hp⟩))
    have g := buildSlice_ok (w := w) hb hp r fr
    have e : (ps.toList.map fun p => (p.1, ρ p.2)).toArray = ps.map fun x => (x.1, ρ x.2) := by apply Array.ext'; simp
    rw [e] at g
    exact OutV.got g
  case load t a =>
    obtain ⟨v, hl, rfl⟩ := val?_some ho
    obtain ⟨u, h1, h2⟩ := load_ok (P := P) hl (hx a (by simp)) r
    exact ⟨by simp, fun _ => OutV.got (Got.pure r (h1 w rfl).2 h2)⟩
  case store t a x =>
    obtain ⟨h', hl, rfl⟩ := skip?_some ho
    exact ⟨by simp, fun _ => OutV.skip (store_ok hl (hx a (by simp)) (hx x (by simp)) r)⟩
  case nilCheck x =>
    have ha := hx x (by simp)
    split at ho
    · rename_i id off he
      rw [he] at ha
      have ha0 := ha
      simp only [AV.R] at ha
      obtain ⟨b, c, hM, he2⟩ := ha
      simp only [Option.some.injEq] at ho; subst ho
      exact ⟨by simp, fun _ => OutV.pure (by simp [execOp, he2]; rfl) (by rw [he2] at ha0; exact ha0) r⟩
    · rename_i f c he
      rw [he] at ha
      have ha0 := ha
      simp only [AV.R] at ha
      obtain ⟨vs, hM, he2⟩ := ha
      simp only [Option.some.injEq] at ho; subst ho
      exact ⟨by simp, fun _ => OutV.pure (by simp [execOp, he2]; rfl) (by rw [he2] at ha0; exact ha0) r⟩
    · rename_i l he
      rw [he] at ha
      have ha0 := ha
      simp only [AV.R] at ha
      obtain ⟨b, c, hM, he2⟩ := ha
      simp only [Option.some.injEq] at ho; subst ho
      exact ⟨by simp, fun _ => OutV.pure (by simp [execOp, he2]; rfl) (by rw [he2] at ha0; exact ha0) r⟩
    · rename_i g off he
      rw [he] at ha
      have ha0 := ha
      simp only [AV.R] at ha
      simp only [Option.some.injEq] at ho; subst ho
      exact ⟨by simp, fun _ => OutV.pure (u := .pointer (some ⟨g, off, none⟩)) (by simp [execOp, ha]) rfl r⟩
    · cases ho
  case binOp op t x y yt =>
    obtain ⟨v, hl, rfl⟩ := val?_some ho
    obtain ⟨u, h1, h2⟩ := bin_ok (P := P) (X := x) (Y := y) hl (hx x (by simp)) (hx y (by simp))
    exact ⟨by simp, fun _ => OutV.got (Got.pure r (h1 w) h2)⟩
  case unOp op t x =>
    have ha := hx x (by simp)
    split at ho
    · rename_i b he
      rw [he] at ha
      simp only [AV.R] at ha
      simp only [Option.some.injEq] at ho; subst ho
      exact ⟨by simp, fun _ => OutV.pure (u := .bool !b) (by simp [execOp, ha, Op.unary]) rfl r⟩
    · rename_i k n he
      rw [he] at ha
      simp only [AV.R] at ha
      obtain ⟨v, hl, rfl⟩ := val?_some ho
      obtain ⟨u, h1, h2⟩ := pureV_ok (P := P) (M := M) hl
      exact ⟨by simp, fun _ => OutV.pure (u := u) (by simp [execOp, ha, h1]) h2 r⟩
    · cases ho
  case convert src dst x =>
    obtain ⟨v, hl, rfl⟩ := val?_some ho
    obtain ⟨u, h1, h2⟩ := convHA_ok (P := P) hl (hx x (by simp)) r
    exact ⟨by simp, fun _ => OutV.got (Got.pure r h1 h2)⟩
  case makeInterface t x =>
    have ha := hx x (by simp)
    split at ho
    · cases ho
    · rename_i d hni hd
      simp only [Option.some.injEq] at ho; subst ho
      refine ⟨by simp, fun _ => OutV.pure (u := .iface t (ρ x)) ?_ (by simp only [AV.R]; exact ⟨_, ha, rfl⟩) r⟩
      simp only [execOp, Instr.makeInterface, Sem.run_bind, run_underlying hd, Result.andThen_ok]
      cases d <;> first | rfl | exact absurd rfl (hni _)
    · cases ho
  case makeFunc fn first caps =>
    cases fn <;> simp only [reduceCtorEq] at ho
    rename_i f
    simp only [nbeq, Bool.cond_decide] at ho
    split at ho
    · rename_i h0
      simp only [Option.some.injEq] at ho; subst ho
      have hf : first = #[] := Array.eq_empty_of_size_eq_zero h0
      subst hf
      have rl := RL_args (M := M) (tm := tm) (ρ := ρ) caps.toList (fun p hp => hx p (by simpa using hp))
      refine ⟨by simp, fun _ => OutV.pure (u := .func (.func f) #[] (caps.map ρ)) (by simp [execOp, Instr.makeFunc]) ?_ r⟩
      simp only [AV.R]
      refine ⟨_, rl, ?_⟩
      congr 1
      apply Array.ext'; simp
    · cases ho
  case makeMap t rs =>
    cases rs <;> simp only [reduceCtorEq] at ho
    obtain ⟨v, h', hn, rfl⟩ := val2_some ho
    refine ⟨by simp, fun fr => ?_⟩
    obtain ⟨M', rfl, hM, q⟩ := newA_ok (κ := 0) (ob := .map #[] 0) hn r fr ⟨[], rfl, rfl⟩
    exact OutV.got (s := Instr.makeMap t none) ⟨M', .map (some w.heap.size), _, by simp [Instr.makeMap], by simp only [AV.R]; exact ⟨_, _, hM, rfl⟩, q⟩
  case makeSlice t l c =>
    have hl := hx l (by simp)
    have hc := hx c (by simp)
    split at ho
    · rename_i k l' k' c' e1 e2
      rw [e1] at hl; rw [e2] at hc
      simp only [AV.R] at hl hc
      obtain ⟨v, h', hn, rfl⟩ := val2_some ho
      refine ⟨by simp, fun fr => ?_⟩
      have g := makeSlice_ok (P := P) (k := k) (k' := k') hn r fr
      rw [← hl, ← hc] at g
      exact OutV.got g
    · cases ho
  case slice t x lo hi mx =>
    obtain ⟨v, hl, rfl⟩ := val?_some ho
    obtain ⟨u, h1, h2⟩ := slice_ok (P := P) hl (hx x (by simp)) (OR_map lo (fun p e => hx p (by simp [e]))) (OR_map hi (fun p e => hx p (by simp [e]))) (OR_map mx (fun p e => hx p (by simp [e]))) r
    exact ⟨by simp, fun _ => OutV.got (Got.pure r (h1 w) h2)⟩
  case fieldAddr t x f =>
    obtain ⟨v, hl, rfl⟩ := val?_some ho
    obtain ⟨u, h1, h2⟩ := fieldAddr_ok (P := P) hl (hx x (by simp))
    exact ⟨by simp, fun _ => OutV.got (Got.pure r (h1 w) h2)⟩
  case field t x f =>
    obtain ⟨v, hl, rfl⟩ := val?_some ho
    obtain ⟨u, h1, h2⟩ := field_ok (P := P) hl (hx x (by simp))
    exact ⟨by simp, fun _ => OutV.got (Got.pure r (h1 w) h2)⟩
  case indexAddr t x i =>
    obtain ⟨v, hl, rfl⟩ := val?_some ho
    obtain ⟨u, h1, h2⟩ := indexAddr_ok (P := P) hl (hx x (by simp)) (hx i (by simp))
    exact ⟨by simp, fun _ => OutV.got (Got.pure r (h1 w) h2)⟩
  case index t x i =>
    obtain ⟨v, hl, rfl⟩ := val?_some ho
    obtain ⟨u, h1, h2⟩ := index_ok (P := P) hl (hx x (by simp)) (hx i (by simp))
    exact ⟨by simp, fun _ => OutV.got (Got.pure r (h1 w) h2)⟩
  case lookup t m k ok =>
    obtain ⟨v, hl, rfl⟩ := val?_some ho
    obtain ⟨u, h1, h2⟩ := lookup_ok (P := P) hl (hx m (by simp)) (hx k (by simp)) r
    exact ⟨by simp, fun _ => OutV.got (Got.pure r h1 h2)⟩
  case mapUpdate t m k x =>
    obtain ⟨h', hl, rfl⟩ := skip?_some ho
    exact ⟨by simp, fun _ => OutV.skip (mapUpdate_ok hl (hx m (by simp)) (hx k (by simp)) (hx x (by simp)) r)⟩
  case insert t m k x =>
    obtain ⟨h', hl, rfl⟩ := skip?_some ho
    exact ⟨by simp, fun _ => OutV.skip (mapUpdate_ok hl (hx m (by simp)) (hx k (by simp)) (hx x (by simp)) r)⟩
  case extract x n =>
    have ha := hx x (by simp)
    split at ho
    · rename_i l he
      rw [he] at ha
      simp only [AV.R] at ha
      obtain ⟨vs, rl, he2⟩ := ha
      obtain ⟨v, hl, rfl⟩ := val?_some ho
      obtain ⟨u, h1, h2⟩ := nthA_get hl rl
      exact ⟨by simp, fun _ => OutV.pure (u := u) (by simp [execOp, he2, Instr.extract, h1]) h2 r⟩
    · cases ho
  case call c =>
    obtain ⟨callee, args, tys⟩ := c
    refine ⟨by simp, ?_⟩
    have hargs : ∀ p ∈ args.toList, (evT tm p).R M (ρ p) := fun p hp => hx p (by simp [Call.operands]; right; simpa using hp)
    have hmap : ∀ (l : List Operand), args.toList = l → args.map ρ = (l.map ρ).toArray := fun l e => by subst e; apply Array.ext'; simp
    have htys : ∀ (l : List TypeId), tys.toList = l → tys = l.toArray := fun l e => by subst e; simp
    cases callee with
    | value f =>
      have hf := hx f (by simp [Call.operands])
      have rl := RL_args (M := M) (tm := tm) (ρ := ρ) args.toList hargs
      simp only at ho
      split at ho
      · rename_i g caps he
        rw [he] at hf
        simp only [AV.R] at hf
        obtain ⟨vs, rc, hf⟩ := hf
        simp only [Option.some.injEq] at ho; subst ho
        refine ⟨rfl, _, RL_append rl rc, ?_⟩
        have e : (args.toList.map ρ ++ vs).toArray = args.map ρ ++ vs.toArray := by apply Array.ext'; simp
        rw [e]
        simp [execOp, resolve, hf, Deferred.ofValue, invoke]
      · rename_i l he
        rw [he] at hf
        simp only [AV.R] at hf
        obtain ⟨b, κ, hM, hf⟩ := hf
        simp only [Option.some.injEq] at ho; subst ho
        refine ⟨rfl, _, b, κ, hM, rl, ?_⟩
        have e : (args.toList.map ρ).toArray = args.map ρ := by apply Array.ext'; simp
        rw [e]
        simp [execOp, resolve, hf, Deferred.ofValue, invoke]
      · cases ho
    | invoke x n => simp only [reduceCtorEq] at ho
    | builtin b =>
      cases b <;> simp only [reduceCtorEq] at ho
      case len =>
        split at ho
        · rename_i t ts x xs e1 e2
          obtain ⟨v, hl, rfl⟩ := val?_some ho
          obtain ⟨u, h1, h2⟩ := len_ok (P := P) (ty := type) hl (hargs x (by simp [e2])) r
          have hr : ∀ l, (Builtin.len_ #[t] type #[ρ x]).run P w = l → (Builtin.len_ tys type (args.map ρ)).run P w = l := fun l e => by
            rw [← e, htys _ e1, hmap _ e2]; simp [Builtin.len_]
          exact fun _ => OutV.pure (u := u) (by simp [execOp, resolve, invoke, builtin, hr _ h1]) h2 r
        · cases ho
      case cap =>
        split at ho
        · rename_i t ts x xs e1 e2
          obtain ⟨v, hl, rfl⟩ := val?_some ho
          obtain ⟨u, h1, h2⟩ := cap_ok (P := P) (ty := type) hl (hargs x (by simp [e2]))
          have hr : ∀ l, (Builtin.cap_ #[t] type #[ρ x]).run P w = l → (Builtin.cap_ tys type (args.map ρ)).run P w = l := fun l e => by
            rw [← e, htys _ e1, hmap _ e2]; simp [Builtin.cap_]
          exact fun _ => OutV.pure (u := u) (by simp [execOp, resolve, invoke, builtin, hr _ (h1 w)]) h2 r
        · cases ho
      case append =>
        split at ho
        · rename_i t ts x y xs e1 e2
          obtain ⟨v, h', hl, rfl⟩ := val2_some ho
          intro fr
          cases ts with
          | nil => simp [appendA, srcOk] at hl; (repeat' split at hl) <;> simp_all
          | cons t2 ts =>
            have g := append_ok (P := P) (ty := type) (tx := t2) (by simpa using hl) (hargs x (by simp [e2])) (hargs y (by simp [e2])) r fr
            obtain ⟨M', u, w', h1, h2, h3, h4, h5⟩ := g
            have hr : ∀ l, (Builtin.append_ #[t, t2] type #[ρ x, ρ y]).run P w = l → (Builtin.append_ tys type (args.map ρ)).run P w = l := fun l e => by
              rw [← e, htys _ e1, hmap _ e2]; simp [Builtin.append_]
            exact ⟨M', u, w', .value u, by simp [execOp, resolve, invoke, builtin, hr _ h1], .inl rfl, h2, h3, h4, h5⟩
        · cases ho
      case copy =>
        split at ho
        · rename_i t ts x y xs e1 e2
          obtain ⟨v, h', hl, rfl⟩ := val2_some ho
          intro fr
          have g := copy_ok (P := P) (ty := type) (tx := t) hl (hargs x (by simp [e2])) (hargs y (by simp [e2])) r
          obtain ⟨M', u, w', h1, h2, h3, h4, h5⟩ := g
          have hr : ∀ l, (Builtin.copy_ #[t, t] type #[ρ x, ρ y]).run P w = l → (Builtin.copy_ tys type (args.map ρ)).run P w = l := fun l e => by
            rw [← e, htys _ e1, hmap _ e2]; simp [Builtin.copy_]
          exact ⟨M', u, w', .value u, by simp [execOp, resolve, invoke, builtin, hr _ h1], .inl rfl, h2, h3, h4, h5⟩
        · cases ho
      case clear =>
        split at ho
        · rename_i t ts x xs e1 e2
          obtain ⟨h', hl, rfl⟩ := skip?_some ho
          intro fr
          obtain ⟨w', h1, h3, h4, h5⟩ := clear_ok (P := P) (ty := type) hl (hargs x (by simp [e2])) r
          have hr : ∀ l, (Builtin.clear_ #[t] type #[ρ x]).run P w = l → (Builtin.clear_ tys type (args.map ρ)).run P w = l := fun l e => by
            rw [← e, htys _ e1, hmap _ e2]; simp [Builtin.clear_]
          exact ⟨M, .tuple #[], w', .value (.tuple #[]), by simp [execOp, resolve, invoke, builtin, hr _ h1], .inl rfl, by simp [undefA, AV.R, AV.RL], h3, h4, h5⟩
        · cases ho
      case delete =>
        split at ho
        · rename_i t ts x y xs e1 e2
          split at ho
          · rename_i h' hl
            simp only [Option.some.injEq] at ho; subst ho
            intro fr
            obtain ⟨w', h1, h3, h4, h5⟩ := delete_ok (P := P) (ty := type) (tys := tys) hl (hargs x (by simp [e2])) (hargs y (by simp [e2])) r (by rw [htys _ e1]; simp) (args.map ρ) (by rw [hmap _ e2]; simp)
            exact ⟨M, .tuple #[], w', .value (.tuple #[]), by simp [execOp, resolve, invoke, builtin, h1], .inl rfl, by simp [undefA, AV.R, AV.RL], h3, h4, h5⟩
          · cases ho
        · cases ho
      case min =>
        split at ho
        · rename_i x y e2
          obtain ⟨v, hl, rfl⟩ := val?_some ho
          obtain ⟨u, h1, h2⟩ := min_ok (P := P) (ty := type) (tys := tys) hl (hargs x (by simp [e2])) (hargs y (by simp [e2]))
          have hr : ∀ l, (Builtin.min_ tys type #[ρ x, ρ y]).run P w = l → (Builtin.min_ tys type (args.map ρ)).run P w = l := fun l e => by
            rw [← e, hmap _ e2]; rfl
          exact fun _ => OutV.pure (u := u) (by simp [execOp, resolve, invoke, builtin, hr _ (h1 w)]) h2 r
        · cases ho
      case max =>
        split at ho
        · rename_i x y e2
          obtain ⟨v, hl, rfl⟩ := val?_some ho
          obtain ⟨u, h1, h2⟩ := max_ok (P := P) (ty := type) (tys := tys) hl (hargs x (by simp [e2])) (hargs y (by simp [e2]))
          have hr : ∀ l, (Builtin.max_ tys type #[ρ x, ρ y]).run P w = l → (Builtin.max_ tys type (args.map ρ)).run P w = l := fun l e => by
            rw [← e, hmap _ e2]; rfl
          exact fun _ => OutV.pure (u := u) (by simp [execOp, resolve, invoke, builtin, hr _ (h1 w)]) h2 r
        · cases ho

/-! What an operation does to the heap, whatever it means. -/
theorem wl_put {h h' : AH} {id : Nat} {v : Option AO} (hp : h.put id v = some h') : (∀ x, x ∈ h.wl → x ∈ h'.wl) ∧ (id < h.bs → id ∈ h'.wl) := by
  obtain ⟨_, _, hwl⟩ := AH.put_nx hp
  rw [hwl, nblt, Bool.cond_decide]
  refine ⟨fun x hx => ?_, fun hlt => ?_⟩
  · split
    · cases hm : memN id h.wl <;> simp [hx]
    · exact hx
  · rw [if_pos hlt]
    cases hm : memN id h.wl
    · simp
    · simpa using memN_iff.1 hm
theorem put_ab {h h' : AH} {id : Nat} {old : AO} {v : Option AO} (hg : h.get id = some old) (hp : h.put id v = some h') : Ab h h' := by
  have hgp := AH.get_put hp
  obtain ⟨hnx, hbs, _⟩ := AH.put_nx hp
  obtain ⟨w1, w2⟩ := wl_put hp
  refine ⟨by omega, hbs, w1, fun x hx _ hn => ?_, fun x hx => .inl ?_⟩
  · rw [hgp]
    split
    · rename_i e; subst e; exact absurd (w2 hx) hn
    · rfl
  · rw [hgp] at hx
    split at hx
    · rename_i e; subst e; simp [hg]
    · exact hx
theorem del_ab {h h' : AH} {id : Nat} (hp : h.put id none = some h') : Ab h h' := by
  have hgp := AH.get_put hp
  obtain ⟨hnx, hbs, _⟩ := AH.put_nx hp
  obtain ⟨w1, w2⟩ := wl_put hp
  refine ⟨by omega, hbs, w1, fun x hx _ hn => ?_, fun x hx => .inl ?_⟩
  · rw [hgp]
    split
    · rename_i e; subst e; exact absurd (w2 hx) hn
    · rfl
  · rw [hgp] at hx
    split at hx
    · exact absurd rfl hx
    · exact hx
theorem new_ab {h h' : AH} {o : AO} (hn : h.new o = some h') : Ab h h' := by
  have hg := AH.get_new hn
  obtain ⟨hnx, hbs, hwl⟩ := AH.new_nx hn
  refine ⟨by omega, hbs, fun x hx => by rw [hwl]; exact hx, fun x _ hy _ => ?_, fun x hx => ?_⟩
  · rw [hg, if_neg (by omega)]
  · rw [hg] at hx
    by_cases hid : x = h.nx
    · right; omega
    · left; simpa [hid] using hx
theorem newA_ab {h h' : AH} {o : AO} {f : Nat → AV} {v : AV} (hn : newA h o f = some (v, h')) : Ab h h' := by
  unfold newA at hn
  split at hn
  · rename_i h2 hh
    simp only [Option.some.injEq, Prod.mk.injEq] at hn
    obtain ⟨_, rfl⟩ := hn
    exact new_ab hh
  · cases hn
theorem storeA_ab {h h' : AH} {t : TypeId} {a v : AV} (hl : storeA P h t a v = some h') : Ab h h' := by
  unfold storeA at hl
  simp only [Bool.cond_eq_ite] at hl
  repeat' split at hl
  all_goals first | (cases hl; done) | (rename_i hg _ _ _ _ _ _ _ _; exact put_ab hg hl) | skip
  all_goals first | (exact put_ab (by assumption) hl)
theorem mapUpdateG_ab {h h' : AH} {t : TypeId} {m k v : AV} (hl : mapUpdateG P h t m k v = some h') : Ab h h' := by
  unfold mapUpdateG at hl
  repeat' split at hl
  all_goals first | (cases hl; done) | (exact put_ab (by assumption) hl)
theorem mapUpdateA_ab {h h' : AH} {t : TypeId} {m k v : AV} (hl : mapUpdateA P h t m k v = some h') : Ab h h' := by
  unfold mapUpdateA at hl
  split at hl
  · exact mapUpdateG_ab hl
  all_goals repeat' split at hl
  all_goals first | (cases hl; done) | (exact put_ab (by assumption) hl)
theorem deleteA_ab {h h' : AH} {t : TypeId} {m k : AV} (hl : deleteA P h t m k = some h') : Ab h h' := by
  unfold deleteA at hl
  repeat' split at hl
  all_goals first | (cases hl; done) | (simp only [Option.some.injEq] at hl; subst hl; exact Ab.refl _) | (exact put_ab (by assumption) hl)
theorem clearA_ab {h h' : AH} {t : TypeId} {x : AV} (hl : clearA P h t x = some h') : Ab h h' := by
  unfold clearA at hl
  simp only [Bool.cond_eq_ite] at hl
  repeat' split at hl
  all_goals first | (cases hl; done) | (simp only [Option.some.injEq] at hl; subst hl; exact Ab.refl _) | (exact put_ab (by assumption) hl)
theorem buildSliceA_ab {h h' : AH} {t : TypeId} {n : Nat} {parts : List (Nat × AV)} {v : AV} (hl : buildSliceA P h t n parts = some (v, h')) : Ab h h' := by
  unfold buildSliceA at hl
  simp only [Bool.cond_eq_ite] at hl
  repeat' split at hl
  all_goals first | (cases hl; done) | (exact newA_ab hl)
theorem makeSliceA_ab {h h' : AH} {t : TypeId} {l c : Int} {v : AV} (hl : makeSliceA P h t l c = some (v, h')) : Ab h h' := by
  unfold makeSliceA at hl
  simp only [Bool.cond_eq_ite] at hl
  repeat' split at hl
  all_goals first | (cases hl; done) | (exact newA_ab hl)
theorem copyA_ab {h h' : AH} {t : TypeId} {d x v : AV} (hl : copyA P h t d x = some (v, h')) : Ab h h' := by
  unfold copyA at hl
  simp only [Bool.cond_eq_ite] at hl
  repeat' split at hl
  all_goals first | (cases hl; done) | skip
  all_goals (simp only [Option.some.injEq, Prod.mk.injEq] at hl; obtain ⟨_, rfl⟩ := hl)
  all_goals first | exact Ab.refl _ | exact put_ab (by assumption) (by assumption)
set_option maxHeartbeats 1000000 in
theorem appendA_ab {h h' : AH} {t : TypeId} {tx : Option TypeId} {s x v : AV} (hl : appendA P h t tx s x = some (v, h')) : Ab h h' := by
  unfold appendA at hl
  simp only [Bool.cond_eq_ite] at hl
  repeat' split at hl
  all_goals first
    | (cases hl; done)
    | (exact newA_ab hl)
    | (exact (del_ab (by assumption)).trans (newA_ab hl))
    | (simp only [Option.some.injEq, Prod.mk.injEq] at hl; obtain ⟨_, rfl⟩ := hl; first | exact Ab.refl _ | exact put_ab (by assumption) (by assumption))

theorem opA_ab {tm : Tr AV} {o : Oper} {h h' : AH} {v : AV} (ho : opA P tm o h = some (.val v h')) : Ab h h' := by
  have hv : ∀ {o : Option AV}, val? h o = some (.val v h') → Ab h h' := fun e => by
    obtain ⟨v2, _, e2⟩ := val?_some e; cases e2; exact Ab.refl h
  have hv2 : ∀ {o : Option (AV × AH)}, (∀ v2 h2, o = some (v2, h2) → Ab h h2) → val2 o = some (.val v h') → Ab h h' := fun k e => by
    obtain ⟨v2, h2, e1, e2⟩ := val2_some e; cases e2; exact k _ _ e1
  have hs : ∀ {o : Option AH}, (∀ h2, o = some h2 → Ab h h2) → skip? o = some (.val v h') → Ab h h' := fun k e => by
    obtain ⟨h2, e1, e2⟩ := skip?_some e; cases e2; exact k _ e1
  rw [opA_eq] at ho
  repeat' split at ho
  all_goals first
    | (cases ho; done)
    | exact hv ho
    | (simp only [Option.some.injEq, OutA.val.injEq] at ho; obtain ⟨_, rfl⟩ := ho; exact Ab.refl _)
    | exact hv2 (fun _ _ e => newA_ab e) ho
    | exact hv2 (fun _ _ e => buildSliceA_ab e) ho
    | exact hv2 (fun _ _ e => makeSliceA_ab e) ho
    | exact hv2 (fun _ _ e => appendA_ab e) ho
    | exact hv2 (fun _ _ e => copyA_ab e) ho
    | exact hs (fun _ e => storeA_ab e) ho
    | exact hs (fun _ e => mapUpdateA_ab e) ho
    | exact hs (fun _ e => clearA_ab e) ho
    | (simp only [Option.some.injEq, OutA.val.injEq] at ho; obtain ⟨_, rfl⟩ := ho; exact deleteA_ab (by assumption))
    | skip
  all_goals (simp only [Bool.cond_eq_ite] at ho; split at ho <;> first | (cases ho; done) | (simp only [Option.some.injEq, OutA.val.injEq] at ho; obtain ⟨_, rfl⟩ := ho; exact Ab.refl _))
end
end Go.Proofs.YtiikiphkhfmlcaaGreatDoor.Ex
