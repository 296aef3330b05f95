/- The texts ExK, ExY, ExZ, ExU, ExV, ExW, ExX, ExS, ExL, ExM, ExN: The abstract machine: one operation. The abstract machine: what its operations compute by symbols is what the machine's compute (1). The abstract machine: what its operations compute by symbols is .. -/
import Derived.Test.YtinijejfhmcmdaaDoorU1
set_option linter.all false
set_option maxRecDepth 100000
section
namespace Go.Proofs.YtinijejfhmcmdaaDoor.Ex
open Go
section
variable {P : Program} {M : Mp}
def OutV (P : Program) (s : Sem Next) (h h' : AH) (M : Mp) (w : World) (v : AV) : Prop :=
 ∃ M' u w' nx, s.run P w = .ok nx w' ∧ (nx = .value u ∨ (nx = .skip ∧ u = undef)) ∧ v.R M' u ∧ Rel M' h' w' ∧ Fr h h' M M' w w' ∧ Ab h h'
theorem OutV.got {s : Sem Value} {h h' : AH} {w : World} {v : AV} (g : Got P h h' M w v s) : OutV P (do pure (.value (← s))) h h' M w v := by
 obtain ⟨M', u, w', e, rv, r, f, a⟩ := g
 exact ⟨M', u, w', .value u, by simp [e], .inl rfl, rv, r, f, a⟩
theorem OutV.pure {s : Sem Next} {h : AH} {w : World} {v : AV} {u : Value} (e : s.run P w = .ok (.value u) w) (rv : v.R M u) (r : Rel M h w) : OutV P s h h M w v :=
 ⟨M, u, w, .value u, e, .inl rfl, rv, r, Fr.same h M w, Ab.refl h⟩
theorem OutV.skip {s : Sem Unit} {h h' : AH} {w : World} (g : ∃ w', s.run P w = .ok () w' ∧ Rel M h' w' ∧ Fr h h' M M w w' ∧ Ab h h') : OutV P (do s; Pure.pure Next.skip) h h' M w undefA := by
 obtain ⟨w', e, r, f, a⟩ := g
 exact ⟨M, undef, w', .skip, by simp [e], .inr ⟨rfl, rfl⟩, by simp [undefA, AV.R, AV.RL, undef], r, f, a⟩
def OutOk (P : Program) (s : Sem Next) (h : AH) (M : Mp) (w : World) : OutA → Prop
 | .val v h' => Fresh M h h' → OutV P s h h' M w v
 | .enter f args h' => h' = h ∧ ∃ us, AV.RL M args us ∧ s.run P w = (callFunc f us.toArray).run P w
 | .yld l args h' => h' = h ∧ ∃ us b κ, M l = some (b, κ) ∧ AV.RL M args us ∧ s.run P w = (Instr.yield b us.toArray).run P w
theorem val?_some {h : AH} {o : Option AV} {out : OutA} (e : val? h o = some out) : ∃ v, o = some v ∧ out = .val v h := by
 cases o <;> simp [val?] at e; exact ⟨_, rfl, e.symm⟩
theorem val2_some {o : Option (AV × AH)} {out : OutA} (e : val2 o = some out) : ∃ v h', o = some (v, h') ∧ out = .val v h' := by
 cases o <;> simp [val2] at e; exact ⟨_, _, rfl, e.symm⟩
theorem skip?_some {o : Option AH} {out : OutA} (e : skip? o = some out) : ∃ h', o = some h' ∧ out = .val undefA h' := by
 cases o <;> simp [skip?] at e; exact ⟨_, rfl, e.symm⟩
theorem PL_parts {tm : Tr AV} {ρ : Operand → Value} : ∀ (ps : List (Nat × Operand)), (∀ p ∈ ps, (evT tm p.2).R M (ρ p.2)) → PL M (partsA tm ps) (ps.map fun p => (p.1, ρ p.2))
 | [], _ => rfl
 | p :: ps, h => ⟨ρ p.2, _, h p (by simp), PL_parts ps (fun q hq => h q (by simp [hq])), rfl⟩
theorem RL_args {tm : Tr AV} {ρ : Operand → Value} : ∀ (l : List Operand), (∀ p ∈ l, (evT tm p).R M (ρ p)) → AV.RL M (l.map (evT tm)) (l.map ρ)
 | [], _ => rfl
 | p :: ps, h => by
   simp only [List.map_cons, AV.RL]
   exact ⟨ρ p, _, h p (by simp), RL_args ps (fun q hq => h q (by simp [hq])), rfl⟩
theorem OR_map {tm : Tr AV} {ρ : Operand → Value} (x : Option Operand) (h : ∀ p, x = some p → (evT tm p).R M (ρ p)) : OR M (x.map (evT tm)) (x.map ρ) := by
 cases x with
 | none => rfl
 | some p => exact ⟨ρ p, h p rfl, rfl⟩
theorem makeSlice_ok {h h' : AH} {w : World} {t : TypeId} {l c : Int} {k k' : IntKind} {v : AV} (hb : makeSliceA P h t l c = some (v, h')) (r : Rel M h w) (fr : Fresh M h h') :
   Got P h h' M w v (Instr.makeSlice t (.int k l) (.int k' c)) := by
 unfold makeSliceA at hb
 split at hb
 · rename_i l c
   split at hb
   · rename_i e hu
     split at hb
     · rename_i i hi
       simp only [nble, nbeq, Bool.cond_decide, ← Bool.decide_and] at hb
       split at hb
       · rename_i hle
         obtain ⟨⟨hlc, hc⟩, hbc⟩ := hle
         split at hb
         · rename_i zs hzs
           have hwl : IntKind.i64.wrap (l : Int) = l := wrap_id _ _ (by simp only [negLim]; omega) (by simp only [posLim]; omega)
           have hwc : IntKind.i64.wrap (c : Int) = c := wrap_id _ _ (by simp only [negLim]; omega) (by simp only [posLim]; omega)
           have hno : ¬ (281474976710656 < (i.bytes : Int) * (c : Int)) := by
             have : ((i.bytes * c : Nat) : Int) ≤ ((140737488355328 : Nat) : Int) := Int.ofNat_le.2 hbc
             rw [Int.natCast_mul] at this; omega
           have hno2 : ¬ (281474976710656 < (i.bytes : Int) * (l : Int)) := by
             have h1 : i.bytes * l ≤ i.bytes * c := Nat.mul_le_mul_left _ hlc
             have : ((i.bytes * l : Nat) : Int) ≤ ((140737488355328 : Nat) : Int) := Int.ofNat_le.2 (Nat.le_trans h1 hbc)
             rw [Int.natCast_mul] at this; omega
           have hsi := run_typeInfo' hi
           by_cases h0 : c * i.size = 0
           · simp only [h0, if_true, Option.some.injEq] at hzs; subst hzs
             obtain ⟨M', rfl, hM, q⟩ := newA_ok (κ := 0) hb r fr (ObR_cells (cs := #[]) (by simp [AV.RL]))
             refine ⟨M', .slice (some ⟨w.heap.size, 0, none⟩) l c, _, ?_, by simp only [AV.R]; exact ⟨_, _, hM, rfl⟩, q⟩
             have e0 : ∀ d : Value, Array.map (fun _ : Nat => d) (Array.range 0) = #[] := fun _ => Array.eq_empty_of_size_eq_zero (by simp)
             have hnn : ¬ ((c : Int) < 0) := by omega
             have hnl : ¬ ((l : Int) < 0) := by omega
             have hlc' : ¬ ((c : Int) < (l : Int)) := by omega
             simp [Instr.makeSlice, run_underlying hu, asInt, asIntOf, hsi, hwl, hwc, hno, hnn, hnl, hlc', sizeOf, h0, e0, newRow]
           · simp only [h0, if_false] at hzs
             split at hzs
             · rename_i za hza
               obtain ⟨y, hy, ry, _⟩ := zeroT_ok (M := M) hza
               split at hzs
               · rename_i hl
                 simp only [Option.some.injEq] at hzs; subst hzs
                 have rl := cellsA_R ry
                 have hlen := RL_length rl
                 have hm : c * i.size = c * y.cells.size := by simp at hlen; rw [hlen, hl]
                 obtain ⟨M', rfl, hM, q⟩ := newA_ok (κ := 0) hb r fr (ObR_cells (cs := (repV c y.cells.toList).toArray) (by simpa using RL_rep rl c))
                 refine ⟨M', .slice (some ⟨w.heap.size, 0, none⟩) l c, _, ?_, by simp only [AV.R]; exact ⟨_, _, hM, rfl⟩, q⟩
                 have hrz := rep_zero hm
                 have hnn : ¬ ((c : Int) < 0) := by omega
                 have hnl : ¬ ((l : Int) < 0) := by omega
                 have hlc' : ¬ ((c : Int) < (l : Int)) := by omega
                 have h0' : ¬ (c = 0 ∨ i.size = 0) := by
                   intro e; apply h0
                   rcases e with e | e <;> simp [e]
                 simp [Instr.makeSlice, run_underlying hu, asInt, asIntOf, hsi, hwl, hwc, hno, hnn, hnl, hlc', sizeOf, hy, hrz, newRow]
                 try (intro hh; exact absurd hh h0)
               · cases hzs
             · cases hzs
         · cases hb
       · cases hb
     · cases hb
   · cases hb
 · cases hb
theorem opA_ok {tm : Tr AV} {ρ : Operand → Value} {o : Oper} {h : AH} {w : World} {out : OutA} (ho : opA P tm o h = some out) (hx : ∀ x ∈ o.op.operands.toList, (evT tm x).R M (ρ x)) (r : Rel M h w) :
   (∀ c, o.op ≠ .defer c) ∧ OutOk P (execOp ρ o) h M w out := by
 obtain ⟨dst, op, type, pos, after, guard⟩ := o
 cases op <;> simp only [opA, reduceCtorEq] at ho <;> simp only [Op.operands] at hx
 case move x =>
   simp only [Option.some.injEq] at ho; subst ho
   exact ⟨by simp, fun _ => OutV.pure (by simp [execOp]) (hx x (by simp)) r⟩
 case assign x =>
   simp only [Option.some.injEq] at ho; subst ho
   exact ⟨by simp, fun _ => OutV.pure (by simp [execOp]) (hx x (by simp)) r⟩
 case pick c a b =>
   have hc := hx c (by simp)
   have ha := hx a (by simp)
   have hb := hx b (by simp)
   split at ho
   · rename_i t ht
     rw [ht] at hc
     simp only [AV.R] at hc
     simp only [Option.some.injEq] at ho; subst ho
     refine ⟨by simp, fun _ => ?_⟩
     cases t
     · exact OutV.pure (by simp [execOp, hc, asBool]) hb r
     · exact OutV.pure (by simp [execOp, hc, asBool]) ha r
   · cases ho
 case alloc t =>
   split at ho
   · rename_i z hz
     obtain ⟨v, h', hn, rfl⟩ := val2_some ho
     exact ⟨by simp, fun fr => OutV.got (alloc_ok hz hn r fr)⟩
   · cases ho
 case box t x =>
   obtain ⟨v, h', hn, rfl⟩ := val2_some ho
   exact ⟨by simp, fun fr => OutV.got (box_ok hn (hx x (by simp)) r fr)⟩
 case build t ps =>
   obtain ⟨v, hb, rfl⟩ := val?_some ho
   refine ⟨by simp, fun _ => ?_⟩
   have hp := PL_parts (M := M) (tm := tm) (ρ := ρ) ps.toList (fun p hp => hx p.2 (by simp; exact ⟨p.1, by simpa using hp⟩))
   obtain ⟨u, h1, h2⟩ := build_ok (w := w) hb hp
   have e : (ps.toList.map fun p => (p.1, ρ p.2)).toArray = ps.map fun x => (x.1, ρ x.2) := by apply Array.ext'; simp
   rw [e] at h1
   exact OutV.got (Got.pure r h1 h2)
 case buildSlice t n ps =>
   obtain ⟨v, h', hb, rfl⟩ := val2_some ho
   refine ⟨by simp, fun fr => ?_⟩
   have hp := PL_parts (M := M) (tm := tm) (ρ := ρ) ps.toList (fun p hp => hx p.2 (by simp; exact ⟨p.1, by simpa using hp⟩))
   have g := buildSlice_ok (w := w) hb hp r fr
   have e : (ps.toList.map fun p => (p.1, ρ p.2)).toArray = ps.map fun x => (x.1, ρ x.2) := by apply Array.ext'; simp
   rw [e] at g
   exact OutV.got g
 case load t a =>
   obtain ⟨v, hl, rfl⟩ := val?_some ho
   obtain ⟨u, h1, h2⟩ := load_ok (P := P) hl (hx a (by simp)) r
   exact ⟨by simp, fun _ => OutV.got (Got.pure r (h1 w rfl).2 h2)⟩
 case store t a x =>
   obtain ⟨h', hl, rfl⟩ := skip?_some ho
   exact ⟨by simp, fun _ => OutV.skip (store_ok hl (hx a (by simp)) (hx x (by simp)) r)⟩
 case nilCheck x =>
   have ha := hx x (by simp)
   split at ho
   · rename_i id off he
     rw [he] at ha
     have ha0 := ha
     simp only [AV.R] at ha
     obtain ⟨b, c, hM, he2⟩ := ha
     simp only [Option.some.injEq] at ho; subst ho
     exact ⟨by simp, fun _ => OutV.pure (by simp [execOp, he2]; rfl) (by rw [he2] at ha0; exact ha0) r⟩
   · rename_i f c he
     rw [he] at ha
     have ha0 := ha
     simp only [AV.R] at ha
     obtain ⟨vs, hM, he2⟩ := ha
     simp only [Option.some.injEq] at ho; subst ho
     exact ⟨by simp, fun _ => OutV.pure (by simp [execOp, he2]; rfl) (by rw [he2] at ha0; exact ha0) r⟩
   · rename_i l he
     rw [he] at ha
     have ha0 := ha
     simp only [AV.R] at ha
     obtain ⟨b, c, hM, he2⟩ := ha
     simp only [Option.some.injEq] at ho; subst ho
     exact ⟨by simp, fun _ => OutV.pure (by simp [execOp, he2]; rfl) (by rw [he2] at ha0; exact ha0) r⟩
   · rename_i g off he
     rw [he] at ha
     have ha0 := ha
     simp only [AV.R] at ha
     simp only [Option.some.injEq] at ho; subst ho
     exact ⟨by simp, fun _ => OutV.pure (u := .pointer (some ⟨g, off, none⟩)) (by simp [execOp, ha]) rfl r⟩
   · cases ho
 case binOp op t x y yt =>
   obtain ⟨v, hl, rfl⟩ := val?_some ho
   obtain ⟨u, h1, h2⟩ := bin_ok (P := P) (X := x) (Y := y) hl (hx x (by simp)) (hx y (by simp))
   exact ⟨by simp, fun _ => OutV.got (Got.pure r (h1 w) h2)⟩
 case unOp op t x =>
   have ha := hx x (by simp)
   split at ho
   · rename_i b he
     rw [he] at ha
     simp only [AV.R] at ha
     simp only [Option.some.injEq] at ho; subst ho
     exact ⟨by simp, fun _ => OutV.pure (u := .bool !b) (by simp [execOp, ha, Op.unary]) rfl r⟩
   · rename_i k n he
     rw [he] at ha
     simp only [AV.R] at ha
     obtain ⟨v, hl, rfl⟩ := val?_some ho
     obtain ⟨u, h1, h2⟩ := pureV_ok (P := P) (M := M) hl
     exact ⟨by simp, fun _ => OutV.pure (u := u) (by simp [execOp, ha, h1]) h2 r⟩
   · cases ho
 case convert src dst x =>
   obtain ⟨v, hl, rfl⟩ := val?_some ho
   obtain ⟨u, h1, h2⟩ := convHA_ok (P := P) hl (hx x (by simp)) r
   exact ⟨by simp, fun _ => OutV.got (Got.pure r h1 h2)⟩
 case makeInterface t x =>
   have ha := hx x (by simp)
   split at ho
   · cases ho
   · rename_i d hni hd
     simp only [Option.some.injEq] at ho; subst ho
     refine ⟨by simp, fun _ => OutV.pure (u := .iface t (ρ x)) ?_ (by simp only [AV.R]; exact ⟨_, ha, rfl⟩) r⟩
     simp only [execOp, Instr.makeInterface, Sem.run_bind, run_underlying hd, Result.andThen_ok]
     cases d <;> first | rfl | exact absurd rfl (hni _)
   · cases ho
 case makeFunc fn first caps =>
   cases fn <;> simp only [reduceCtorEq] at ho
   rename_i f
   simp only [nbeq, Bool.cond_decide] at ho
   split at ho
   · rename_i h0
     simp only [Option.some.injEq] at ho; subst ho
     have hf : first = #[] := Array.eq_empty_of_size_eq_zero h0
     subst hf
     have rl := RL_args (M := M) (tm := tm) (ρ := ρ) caps.toList (fun p hp => hx p (by simpa using hp))
     refine ⟨by simp, fun _ => OutV.pure (u := .func (.func f) #[] (caps.map ρ)) (by simp [execOp, Instr.makeFunc]) ?_ r⟩
     simp only [AV.R]
     refine ⟨_, rl, ?_⟩
     congr 1
     apply Array.ext'; simp
   · cases ho
 case makeMap t rs =>
   cases rs <;> simp only [reduceCtorEq] at ho
   obtain ⟨v, h', hn, rfl⟩ := val2_some ho
   refine ⟨by simp, fun fr => ?_⟩
   obtain ⟨M', rfl, hM, q⟩ := newA_ok (κ := 0) (ob := .map #[] 0) hn r fr ⟨[], rfl, rfl⟩
   exact OutV.got (s := Instr.makeMap t none) ⟨M', .map (some w.heap.size), _, by simp [Instr.makeMap], by simp only [AV.R]; exact ⟨_, _, hM, rfl⟩, q⟩
 case makeSlice t l c =>
   have hl := hx l (by simp)
   have hc := hx c (by simp)
   split at ho
   · rename_i k l' k' c' e1 e2
     rw [e1] at hl; rw [e2] at hc
     simp only [AV.R] at hl hc
     obtain ⟨v, h', hn, rfl⟩ := val2_some ho
     refine ⟨by simp, fun fr => ?_⟩
     have g := makeSlice_ok (P := P) (k := k) (k' := k') hn r fr
     rw [← hl, ← hc] at g
     exact OutV.got g
   · cases ho
 case slice t x lo hi mx =>
   obtain ⟨v, hl, rfl⟩ := val?_some ho
   obtain ⟨u, h1, h2⟩ := slice_ok (P := P) hl (hx x (by simp)) (OR_map lo (fun p e => hx p (by simp [e]))) (OR_map hi (fun p e => hx p (by simp [e]))) (OR_map mx (fun p e => hx p (by simp [e]))) r
   exact ⟨by simp, fun _ => OutV.got (Got.pure r (h1 w) h2)⟩
 case fieldAddr t x f =>
   obtain ⟨v, hl, rfl⟩ := val?_some ho
   obtain ⟨u, h1, h2⟩ := fieldAddr_ok (P := P) hl (hx x (by simp))
   exact ⟨by simp, fun _ => OutV.got (Got.pure r (h1 w) h2)⟩
 case field t x f =>
   obtain ⟨v, hl, rfl⟩ := val?_some ho
   obtain ⟨u, h1, h2⟩ := field_ok (P := P) hl (hx x (by simp))
   exact ⟨by simp, fun _ => OutV.got (Got.pure r (h1 w) h2)⟩
 case indexAddr t x i =>
   obtain ⟨v, hl, rfl⟩ := val?_some ho
   obtain ⟨u, h1, h2⟩ := indexAddr_ok (P := P) hl (hx x (by simp)) (hx i (by simp))
   exact ⟨by simp, fun _ => OutV.got (Got.pure r (h1 w) h2)⟩
 case index t x i =>
   obtain ⟨v, hl, rfl⟩ := val?_some ho
   obtain ⟨u, h1, h2⟩ := index_ok (P := P) hl (hx x (by simp)) (hx i (by simp))
   exact ⟨by simp, fun _ => OutV.got (Got.pure r (h1 w) h2)⟩
 case lookup t m k ok =>
   obtain ⟨v, hl, rfl⟩ := val?_some ho
   obtain ⟨u, h1, h2⟩ := lookup_ok (P := P) hl (hx m (by simp)) (hx k (by simp)) r
   exact ⟨by simp, fun _ => OutV.got (Got.pure r h1 h2)⟩
 case mapUpdate t m k x =>
   obtain ⟨h', hl, rfl⟩ := skip?_some ho
   exact ⟨by simp, fun _ => OutV.skip (mapUpdate_ok hl (hx m (by simp)) (hx k (by simp)) (hx x (by simp)) r)⟩
 case insert t m k x =>
   obtain ⟨h', hl, rfl⟩ := skip?_some ho
   exact ⟨by simp, fun _ => OutV.skip (mapUpdate_ok hl (hx m (by simp)) (hx k (by simp)) (hx x (by simp)) r)⟩
 case extract x n =>
   have ha := hx x (by simp)
   split at ho
   · rename_i l he
     rw [he] at ha
     simp only [AV.R] at ha
     obtain ⟨vs, rl, he2⟩ := ha
     obtain ⟨v, hl, rfl⟩ := val?_some ho
     obtain ⟨u, h1, h2⟩ := nthA_get hl rl
     exact ⟨by simp, fun _ => OutV.pure (u := u) (by simp [execOp, he2, Instr.extract, h1]) h2 r⟩
   · cases ho
 case call c =>
   obtain ⟨callee, args, tys⟩ := c
   refine ⟨by simp, ?_⟩
   have hargs : ∀ p ∈ args.toList, (evT tm p).R M (ρ p) := fun p hp => hx p (by simp [Call.operands]; right; simpa using hp)
   have hmap : ∀ (l : List Operand), args.toList = l → args.map ρ = (l.map ρ).toArray := fun l e => by subst e; apply Array.ext'; simp
   have htys : ∀ (l : List TypeId), tys.toList = l → tys = l.toArray := fun l e => by subst e; simp
   cases callee with
   | value f =>
     have hf := hx f (by simp [Call.operands])
     have rl := RL_args (M := M) (tm := tm) (ρ := ρ) args.toList hargs
     simp only at ho
     split at ho
     · rename_i g caps he
       rw [he] at hf
       simp only [AV.R] at hf
       obtain ⟨vs, rc, hf⟩ := hf
       simp only [Option.some.injEq] at ho; subst ho
       refine ⟨rfl, _, RL_append rl rc, ?_⟩
       have e : (args.toList.map ρ ++ vs).toArray = args.map ρ ++ vs.toArray := by apply Array.ext'; simp
       rw [e]
       simp [execOp, resolve, hf, Deferred.ofValue, invoke]
     · rename_i l he
       rw [he] at hf
       simp only [AV.R] at hf
       obtain ⟨b, κ, hM, hf⟩ := hf
       simp only [Option.some.injEq] at ho; subst ho
       refine ⟨rfl, _, b, κ, hM, rl, ?_⟩
       have e : (args.toList.map ρ).toArray = args.map ρ := by apply Array.ext'; simp
       rw [e]
       simp [execOp, resolve, hf, Deferred.ofValue, invoke]
     · cases ho
   | invoke x n => simp only [reduceCtorEq] at ho
   | builtin b =>
     cases b <;> simp only [reduceCtorEq] at ho
     case len =>
       split at ho
       · rename_i t ts x xs e1 e2
         obtain ⟨v, hl, rfl⟩ := val?_some ho
         obtain ⟨u, h1, h2⟩ := len_ok (P := P) (ty := type) hl (hargs x (by simp [e2])) r
         have hr : ∀ l, (Builtin.len_ #[t] type #[ρ x]).run P w = l → (Builtin.len_ tys type (args.map ρ)).run P w = l := fun l e => by
           rw [← e, htys _ e1, hmap _ e2]; simp [Builtin.len_]
         exact fun _ => OutV.pure (u := u) (by simp [execOp, resolve, invoke, builtin, hr _ h1]) h2 r
       · cases ho
     case cap =>
       split at ho
       · rename_i t ts x xs e1 e2
         obtain ⟨v, hl, rfl⟩ := val?_some ho
         obtain ⟨u, h1, h2⟩ := cap_ok (P := P) (ty := type) hl (hargs x (by simp [e2]))
         have hr : ∀ l, (Builtin.cap_ #[t] type #[ρ x]).run P w = l → (Builtin.cap_ tys type (args.map ρ)).run P w = l := fun l e => by
           rw [← e, htys _ e1, hmap _ e2]; simp [Builtin.cap_]
         exact fun _ => OutV.pure (u := u) (by simp [execOp, resolve, invoke, builtin, hr _ (h1 w)]) h2 r
       · cases ho
     case append =>
       split at ho
       · rename_i t ts x y xs e1 e2
         obtain ⟨v, h', hl, rfl⟩ := val2_some ho
         intro fr
         cases ts with
         | nil => simp [appendA, srcOk] at hl; (repeat' split at hl) <;> simp_all
         | cons t2 ts =>
           have g := append_ok (P := P) (ty := type) (tx := t2) (by simpa using hl) (hargs x (by simp [e2])) (hargs y (by simp [e2])) r fr
           obtain ⟨M', u, w', h1, h2, h3, h4, h5⟩ := g
           have hr : ∀ l, (Builtin.append_ #[t, t2] type #[ρ x, ρ y]).run P w = l → (Builtin.append_ tys type (args.map ρ)).run P w = l := fun l e => by
             rw [← e, htys _ e1, hmap _ e2]; simp [Builtin.append_]
           exact ⟨M', u, w', .value u, by simp [execOp, resolve, invoke, builtin, hr _ h1], .inl rfl, h2, h3, h4, h5⟩
       · cases ho
     case copy =>
       split at ho
       · rename_i t ts x y xs e1 e2
         obtain ⟨v, h', hl, rfl⟩ := val2_some ho
         intro fr
         have g := copy_ok (P := P) (ty := type) (tx := t) hl (hargs x (by simp [e2])) (hargs y (by simp [e2])) r
         obtain ⟨M', u, w', h1, h2, h3, h4, h5⟩ := g
         have hr : ∀ l, (Builtin.copy_ #[t, t] type #[ρ x, ρ y]).run P w = l → (Builtin.copy_ tys type (args.map ρ)).run P w = l := fun l e => by
           rw [← e, htys _ e1, hmap _ e2]; simp [Builtin.copy_]
         exact ⟨M', u, w', .value u, by simp [execOp, resolve, invoke, builtin, hr _ h1], .inl rfl, h2, h3, h4, h5⟩
       · cases ho
     case clear =>
       split at ho
       · rename_i t ts x xs e1 e2
         obtain ⟨h', hl, rfl⟩ := skip?_some ho
         intro fr
         obtain ⟨w', h1, h3, h4, h5⟩ := clear_ok (P := P) (ty := type) hl (hargs x (by simp [e2])) r
         have hr : ∀ l, (Builtin.clear_ #[t] type #[ρ x]).run P w = l → (Builtin.clear_ tys type (args.map ρ)).run P w = l := fun l e => by
           rw [← e, htys _ e1, hmap _ e2]; simp [Builtin.clear_]
         exact ⟨M, .tuple #[], w', .value (.tuple #[]), by simp [execOp, resolve, invoke, builtin, hr _ h1], .inl rfl, by simp [undefA, AV.R, AV.RL], h3, h4, h5⟩
       · cases ho
     case delete =>
       split at ho
       · rename_i t ts x y xs e1 e2
         split at ho
         · rename_i h' hl
           simp only [Option.some.injEq] at ho; subst ho
           intro fr
           obtain ⟨w', h1, h3, h4, h5⟩ := delete_ok (P := P) (ty := type) (tys := tys) hl (hargs x (by simp [e2])) (hargs y (by simp [e2])) r (by rw [htys _ e1]; simp) (args.map ρ) (by rw [hmap _ e2]; simp)
           exact ⟨M, .tuple #[], w', .value (.tuple #[]), by simp [execOp, resolve, invoke, builtin, h1], .inl rfl, by simp [undefA, AV.R, AV.RL], h3, h4, h5⟩
         · cases ho
       · cases ho
     case min =>
       split at ho
       · rename_i x y e2
         obtain ⟨v, hl, rfl⟩ := val?_some ho
         obtain ⟨u, h1, h2⟩ := min_ok (P := P) (ty := type) (tys := tys) hl (hargs x (by simp [e2])) (hargs y (by simp [e2]))
         have hr : ∀ l, (Builtin.min_ tys type #[ρ x, ρ y]).run P w = l → (Builtin.min_ tys type (args.map ρ)).run P w = l := fun l e => by
           rw [← e, hmap _ e2]; rfl
         exact fun _ => OutV.pure (u := u) (by simp [execOp, resolve, invoke, builtin, hr _ (h1 w)]) h2 r
       · cases ho
     case max =>
       split at ho
       · rename_i x y e2
         obtain ⟨v, hl, rfl⟩ := val?_some ho
         obtain ⟨u, h1, h2⟩ := max_ok (P := P) (ty := type) (tys := tys) hl (hargs x (by simp [e2])) (hargs y (by simp [e2]))
         have hr : ∀ l, (Builtin.max_ tys type #[ρ x, ρ y]).run P w = l → (Builtin.max_ tys type (args.map ρ)).run P w = l := fun l e => by
           rw [← e, hmap _ e2]; rfl
         exact fun _ => OutV.pure (u := u) (by simp [execOp, resolve, invoke, builtin, hr _ (h1 w)]) h2 r
       · cases ho
/-! What an operation does to the heap, whatever it means. -/
theorem wl_put {h h' : AH} {id : Nat} {v : Option AO} (hp : h.put id v = some h') : (∀ x, x ∈ h.wl → x ∈ h'.wl) ∧ (id < h.bs → id ∈ h'.wl) := by
 obtain ⟨_, _, hwl⟩ := AH.put_nx hp
 rw [hwl, nblt, Bool.cond_decide]
 refine ⟨fun x hx => ?_, fun hlt => ?_⟩
 · split
   · cases hm : memN id h.wl <;> simp [hx]
   · exact hx
 · rw [if_pos hlt]
   cases hm : memN id h.wl
   · simp
   · simpa using memN_iff.1 hm
theorem put_ab {h h' : AH} {id : Nat} {old : AO} {v : Option AO} (hg : h.get id = some old) (hp : h.put id v = some h') : Ab h h' := by
 have hgp := AH.get_put hp
 obtain ⟨hnx, hbs, _⟩ := AH.put_nx hp
 obtain ⟨w1, w2⟩ := wl_put hp
 refine ⟨by omega, hbs, w1, fun x hx _ hn => ?_, fun x hx => .inl ?_⟩
 · rw [hgp]
   split
   · rename_i e; subst e; exact absurd (w2 hx) hn
   · rfl
 · rw [hgp] at hx
   split at hx
   · rename_i e; subst e; simp [hg]
   · exact hx
theorem del_ab {h h' : AH} {id : Nat} (hp : h.put id none = some h') : Ab h h' := by
 have hgp := AH.get_put hp
 obtain ⟨hnx, hbs, _⟩ := AH.put_nx hp
 obtain ⟨w1, w2⟩ := wl_put hp
 refine ⟨by omega, hbs, w1, fun x hx _ hn => ?_, fun x hx => .inl ?_⟩
 · rw [hgp]
   split
   · rename_i e; subst e; exact absurd (w2 hx) hn
   · rfl
 · rw [hgp] at hx
   split at hx
   · exact absurd rfl hx
   · exact hx
theorem new_ab {h h' : AH} {o : AO} (hn : h.new o = some h') : Ab h h' := by
 have hg := AH.get_new hn
 obtain ⟨hnx, hbs, hwl⟩ := AH.new_nx hn
 refine ⟨by omega, hbs, fun x hx => by rw [hwl]; exact hx, fun x _ hy _ => ?_, fun x hx => ?_⟩
 · rw [hg, if_neg (by omega)]
 · rw [hg] at hx
   by_cases hid : x = h.nx
   · right; omega
   · left; simpa [hid] using hx
theorem newA_ab {h h' : AH} {o : AO} {f : Nat → AV} {v : AV} (hn : newA h o f = some (v, h')) : Ab h h' := by
 unfold newA at hn
 split at hn
 · rename_i h2 hh
   simp only [Option.some.injEq, Prod.mk.injEq] at hn
   obtain ⟨_, rfl⟩ := hn
   exact new_ab hh
 · cases hn
theorem storeA_ab {h h' : AH} {t : TypeId} {a v : AV} (hl : storeA P h t a v = some h') : Ab h h' := by
 unfold storeA at hl
 simp only [Bool.cond_eq_ite] at hl
 repeat' split at hl
 all_goals first | (cases hl; done) | (rename_i hg _ _ _ _ _ _ _ _; exact put_ab hg hl) | skip
 all_goals first | (exact put_ab (by assumption) hl)
theorem mapUpdateA_ab {h h' : AH} {t : TypeId} {m k v : AV} (hl : mapUpdateA P h t m k v = some h') : Ab h h' := by
 unfold mapUpdateA at hl
 repeat' split at hl
 all_goals first | (cases hl; done) | (exact put_ab (by assumption) hl)
theorem deleteA_ab {h h' : AH} {t : TypeId} {m k : AV} (hl : deleteA P h t m k = some h') : Ab h h' := by
 unfold deleteA at hl
 repeat' split at hl
 all_goals first | (cases hl; done) | (simp only [Option.some.injEq] at hl; subst hl; exact Ab.refl _) | (exact put_ab (by assumption) hl)
theorem clearA_ab {h h' : AH} {t : TypeId} {x : AV} (hl : clearA P h t x = some h') : Ab h h' := by
 unfold clearA at hl
 simp only [Bool.cond_eq_ite] at hl
 repeat' split at hl
 all_goals first | (cases hl; done) | (simp only [Option.some.injEq] at hl; subst hl; exact Ab.refl _) | (exact put_ab (by assumption) hl)
theorem buildSliceA_ab {h h' : AH} {t : TypeId} {n : Nat} {parts : List (Nat × AV)} {v : AV} (hl : buildSliceA P h t n parts = some (v, h')) : Ab h h' := by
 unfold buildSliceA at hl
 simp only [Bool.cond_eq_ite] at hl
 repeat' split at hl
 all_goals first | (cases hl; done) | (exact newA_ab hl)
theorem makeSliceA_ab {h h' : AH} {t : TypeId} {l c : Int} {v : AV} (hl : makeSliceA P h t l c = some (v, h')) : Ab h h' := by
 unfold makeSliceA at hl
 simp only [Bool.cond_eq_ite] at hl
 repeat' split at hl
 all_goals first | (cases hl; done) | (exact newA_ab hl)
theorem copyA_ab {h h' : AH} {t : TypeId} {d x v : AV} (hl : copyA P h t d x = some (v, h')) : Ab h h' := by
 unfold copyA at hl
 simp only [Bool.cond_eq_ite] at hl
 repeat' split at hl
 all_goals first | (cases hl; done) | skip
 all_goals (simp only [Option.some.injEq, Prod.mk.injEq] at hl; obtain ⟨_, rfl⟩ := hl)
 all_goals first | exact Ab.refl _ | exact put_ab (by assumption) (by assumption)
set_option maxHeartbeats 1000000 in
theorem appendA_ab {h h' : AH} {t : TypeId} {tx : Option TypeId} {s x v : AV} (hl : appendA P h t tx s x = some (v, h')) : Ab h h' := by
 unfold appendA at hl
 simp only [Bool.cond_eq_ite] at hl
 repeat' split at hl
 all_goals first
   | (cases hl; done)
   | (exact newA_ab hl)
   | (exact (del_ab (by assumption)).trans (newA_ab hl))
   | (simp only [Option.some.injEq, Prod.mk.injEq] at hl; obtain ⟨_, rfl⟩ := hl; first | exact Ab.refl _ | exact put_ab (by assumption) (by assumption))
theorem opA_ab {tm : Tr AV} {o : Oper} {h h' : AH} {v : AV} (ho : opA P tm o h = some (.val v h')) : Ab h h' := by
 have hv : ∀ {o : Option AV}, val? h o = some (.val v h') → Ab h h' := fun e => by
   obtain ⟨v2, _, e2⟩ := val?_some e; cases e2; exact Ab.refl h
 have hv2 : ∀ {o : Option (AV × AH)}, (∀ v2 h2, o = some (v2, h2) → Ab h h2) → val2 o = some (.val v h') → Ab h h' := fun k e => by
   obtain ⟨v2, h2, e1, e2⟩ := val2_some e; cases e2; exact k _ _ e1
 have hs : ∀ {o : Option AH}, (∀ h2, o = some h2 → Ab h h2) → skip? o = some (.val v h') → Ab h h' := fun k e => by
   obtain ⟨h2, e1, e2⟩ := skip?_some e; cases e2; exact k _ e1
 unfold opA at ho
 repeat' split at ho
 all_goals first
   | (cases ho; done)
   | exact hv ho
   | (simp only [Option.some.injEq, OutA.val.injEq] at ho; obtain ⟨_, rfl⟩ := ho; exact Ab.refl _)
   | exact hv2 (fun _ _ e => newA_ab e) ho
   | exact hv2 (fun _ _ e => buildSliceA_ab e) ho
   | exact hv2 (fun _ _ e => makeSliceA_ab e) ho
   | exact hv2 (fun _ _ e => appendA_ab e) ho
   | exact hv2 (fun _ _ e => copyA_ab e) ho
   | exact hs (fun _ e => storeA_ab e) ho
   | exact hs (fun _ e => mapUpdateA_ab e) ho
   | exact hs (fun _ e => clearA_ab e) ho
   | (simp only [Option.some.injEq, OutA.val.injEq] at ho; obtain ⟨_, rfl⟩ := ho; exact deleteA_ab (by assumption))
   | skip
 all_goals (simp only [Bool.cond_eq_ite] at ho; split at ho <;> first | (cases ho; done) | (simp only [Option.some.injEq, OutA.val.injEq] at ho; obtain ⟨_, rfl⟩ := ho; exact Ab.refl _))
end
end Go.Proofs.YtinijejfhmcmdaaDoor.Ex
end
section
namespace Go.Proofs.YtinijejfhmcmdaaDoor.Ex
open Go
theorem T.sel_must {α : Type} {b : Bool} {t : T α} {x : α} (h : (T.must b t).sel = some x) : b = true ∧ t.sel = some x := by
 cases b
 · simp [T.must, T.sel] at h
 · exact ⟨rfl, by simpa [T.must, T.sel] using h⟩
theorem T.sel_ret {α : Type} {a x : α} (h : (T.ret a).sel = some x) : a = x := by simpa [T.sel] using h
theorem T.sel_br {α : Type} {b : Bool} {t e : T α} {x : α} (h : (T.br b t e).sel = some x) : (b = true ∧ t.sel = some x) ∨ (b = false ∧ e.sel = some x) := by
 cases b
 · exact .inr ⟨rfl, by simpa [T.sel] using h⟩
 · exact .inl ⟨rfl, by simpa [T.sel] using h⟩
theorem T.sel_of {α : Type} {o : Option α} : (T.of o).sel = o := by cases o <;> rfl
theorem T.sel_bind {α β : Type} (f : α → T β) : ∀ t : T α, (t.bind f).sel = (match t.sel with | some a => (f a).sel | none => none)
 | .ret a => rfl
 | .no => rfl
 | .br b t e => by
   simp only [T.bind, T.sel]
   cases b
   · simpa using T.sel_bind f e
   · simpa using T.sel_bind f t
theorem T.sel_bind_some {α β : Type} {f : α → T β} {t : T α} {x : β} (h : (t.bind f).sel = some x) : ∃ a, t.sel = some a ∧ (f a).sel = some x := by
 rw [T.sel_bind] at h
 cases ht : t.sel with
 | none => rw [ht] at h; cases h
 | some a => rw [ht] at h; exact ⟨a, rfl, h⟩
theorem T.all_sel {α : Type} {p : α → Prop} : ∀ {t : T α}, t.all p → ∃ a, t.sel = some a ∧ p a
 | .ret a, h => ⟨a, rfl, h⟩
 | .br b t e, h => by
   cases b
   · obtain ⟨a, h1, h2⟩ := T.all_sel (h.2 rfl); exact ⟨a, by simpa [T.sel] using h1, h2⟩
   · obtain ⟨a, h1, h2⟩ := T.all_sel (h.1 rfl); exact ⟨a, by simpa [T.sel] using h1, h2⟩
 | .no, h => False.elim h
section
variable {P : Program} {M : Mp}
theorem yI_ok {a : AV} {k : IntKind} {n : Int} {v : Value} (h : yI a = some (k, n)) (r : a.R M v) : v = .int k n := by
 unfold yI at h
 split at h <;> first | (cases h; done) | (simp only [Option.some.injEq, Prod.mk.injEq] at h; obtain ⟨rfl, rfl⟩ := h; simpa only [AV.R] using r)
theorem yB_ok {a : AV} {b : Bool} {v : Value} (h : yB a = some b) (r : a.R M v) : v = .bool b := by
 unfold yB at h
 split at h <;> first | (cases h; done) | (simp only [Option.some.injEq] at h; subst h; simpa only [AV.R] using r)
theorem yS_ok {a : AV} {l : List UInt8} {v : Value} (h : yS a = some l) (r : a.R M v) : v = .string ⟨l.toArray⟩ := by
 unfold yS at h
 split at h <;> first | (cases h; done) | (simp only [Option.some.injEq] at h; subst h; simpa only [AV.R] using r)
theorem yIx_ok {a : AV} {x : Int} {n : Nat} {v : Value} (h : yIx a = some (x, n)) (r : a.R M v) : (∃ k, v = .int k x) ∧ (0 ≤ x → n = x.toNat) := by
 unfold yIx at h
 split at h <;> first
   | (cases h; done)
   | (simp only [Option.some.injEq, Prod.mk.injEq] at h; obtain ⟨rfl, rfl⟩ := h; simp only [AV.R] at r; exact ⟨⟨_, r⟩, fun _ => by first | rfl | simp [yNat]⟩)
def isLst : AV → Bool
 | .lst .. => true
 | _ => false
theorem selA_flat (b : Bool) {x y : AV} {v : Value} (nl : isLst x = false) (h : (bif b then x else y).R M v) : (selA b x y).R M v := by
 unfold selA
 split <;> first
   | exact h
   | (rename_i k a k' c; cases hk : eqK k k' with
     | false => exact h
     | true =>
       obtain rfl := eqK_eq hk
       cases b <;> simpa only [cond_true, cond_false, AV.R, ySel] using h)
   | (cases b <;> simpa only [cond_true, cond_false, AV.R, ySelB] using h)
   | (cases b with
     | true => (simp only [cond_true, AV.R] at h; simp only [AV.R, ySelB, ySelN, cond_true]; exact .inl ⟨trivial, trivial, h⟩)
     | false => exact h)
   | (cases nl; done)
theorem selA_go (b : Bool) : ∀ (x y : AV) (v : Value), (bif b then x else y).R M v → (selA b x y).R M v
 | .lst x nil z n f, y, v, h => by
   cases y
   case lst x' nil' z' n' f' =>
     unfold selA
     cases hz : Nat.beq z z' with
     | false => exact h
     | true =>
       obtain rfl := Nat.eq_of_beq_eq_true hz
       simp only [cond_true]
       cases b with
       | true =>
         simp only [cond_true, AV.R, ySelB, ySelN] at h ⊢
         rcases h with h | ⟨h1, h2, a, c, h3, h4⟩ | ⟨h1, h2, b, off, c, cs, r1, r2, r3, r4, r5⟩
         · exact .inl h
         · exact .inr (.inl ⟨h1, h2, a, c, h3, fun e => h4 (by simp only [Bool.and_eq_true] at e; exact e.1)⟩)
         · refine .inr (.inr ⟨h1, h2, b, off, c, cs, r1, r2, fun e => r3 (by simp only [Bool.and_eq_true] at e; exact e.1), r4, fun i hi j hj => ?_⟩)
           obtain ⟨u, q1, q2, q3⟩ := r5 i hi j hj
           exact ⟨u, q1, q2, selA_go true (f i j) (f' i j) u q3⟩
       | false =>
         simp only [cond_false, AV.R, ySelB, ySelN] at h ⊢
         rcases h with h | ⟨h1, h2, a, c, h3, h4⟩ | ⟨h1, h2, b, off, c, cs, r1, r2, r3, r4, r5⟩
         · exact .inl h
         · exact .inr (.inl ⟨h1, h2, a, c, h3, fun e => h4 (by simp only [Bool.and_eq_true] at e; exact e.2)⟩)
         · refine .inr (.inr ⟨h1, h2, b, off, c, cs, r1, r2, fun e => r3 (by simp only [Bool.and_eq_true] at e; exact e.2), r4, fun i hi j hj => ?_⟩)
           obtain ⟨u, q1, q2, q3⟩ := r5 i hi j hj
           exact ⟨u, q1, q2, selA_go false (f i j) (f' i j) u q3⟩
   case ns =>
     unfold selA
     cases b with
     | true => exact h
     | false =>
       simp only [cond_false, AV.R] at h
       simp only [AV.R, ySelB, ySelN, cond_false]
       exact .inl ⟨trivial, trivial, h⟩
   all_goals exact h
 | .b _, _, _, h | .i _ _, _, _, h | .s _, _, _, h | .np, _, _, h | .ns, _, _, h | .nm, _, _, h | .nf, _, _, h | .ni, _, _, h | .o _, _, _, h | .gl _ _, _, _, h => selA_flat b rfl h
 | .jk, _, _, h | .es, _, _, h | .y _ _, _, _, h | .yb _, _, _, h | .ys _, _, _, h | .ye _, _, _, h | .ysl _ _ _ _ _ _, _, _, h | .ypt _ _ _ _ _, _, _, h | .ptr _ _, _, _, h | .sl _ _ _ _ _, _, _, h | .mp _, _, _, h => selA_flat b rfl h
 | .yl _, _, _, h | .lp _ _ _, _, _, h | .fn _ _, _, _, h | .ifc _ _, _, _, h | .agg _, _, _, h | .tup _, _, _, h => selA_flat b rfl h
theorem selA_ok (b : Bool) {x y : AV} {v : Value} (h : (bif b then x else y).R M v) : (selA b x y).R M v := selA_go b x y v h
theorem pickY_ok {c a b v : AV} {C A B : Value} (h : (pickY c a b).sel = some v) (rc : c.R M C) (ra : a.R M A) (rb : b.R M B) : ∃ t, C = .bool t ∧ v.R M (bif t then A else B) := by
 unfold pickY at h
 split at h
 · rename_i t
   simp only [AV.R] at rc
   refine ⟨t, rc, ?_⟩
   have hgen : (T.br t (.ret a) (.ret b)).sel = some v → v.R M (bif t then A else B) := fun e => by
     rcases T.sel_br e with ⟨rfl, e⟩ | ⟨rfl, e⟩ <;> (obtain rfl := T.sel_ret e; assumption)
   split at h
   · rename_i k x k' y
     cases hk : eqK k k' with
     | false => rw [hk] at h; exact hgen h
     | true =>
       rw [hk] at h
       obtain rfl := eqK_eq hk
       obtain rfl := T.sel_ret h
       simp only [AV.R] at ra rb ⊢
       subst ra rb
       cases t <;> rfl
   · obtain rfl := T.sel_ret h
     simp only [AV.R] at ra rb ⊢
     subst ra rb
     cases t <;> rfl
   · exact hgen h
 · cases h
theorem intBits_eq {op : BinOp} (h : op = .and ∨ op = .or ∨ op = .xor ∨ op = .andNot) (k : IntKind) (a b : Int) : Op.intBits op k a b = .pure (.int k (yBits op k a b)) := by
 rcases h with rfl | rfl | rfl | rfl <;> rfl
theorem intY_ok {op : BinOp} {k : IntKind} {a b : Int} {v : AV} {t : TypeId} (h : (intY op k a b).sel = some v) : ∃ u, (∀ w, (binOp op t (.int k a) (.int k b)).run P w = .ok u w) ∧ v.R M u := by
 unfold intY at h
 cases op
 case add => obtain rfl := T.sel_ret h; exact ⟨.int k (k.wrap (a + b)), fun w => by simp [binOp, Op.intArith], rfl⟩
 case sub => obtain rfl := T.sel_ret h; exact ⟨.int k (k.wrap (a - b)), fun w => by simp [binOp, Op.intArith], rfl⟩
 case mul => obtain rfl := T.sel_ret h; exact ⟨.int k (k.wrap (a * b)), fun w => by simp [binOp, Op.intArith], rfl⟩
 case quo =>
   rcases T.sel_br h with ⟨_, e⟩ | ⟨hb, e⟩
   · cases e
   · obtain rfl := T.sel_ret e
     have hb : ¬ b = 0 := by simpa [yEq] using hb
     exact ⟨.int k (k.wrap (a.tdiv b)), fun w => by simp [binOp, Op.intDiv, hb], rfl⟩
 case rem =>
   rcases T.sel_br h with ⟨_, e⟩ | ⟨hb, e⟩
   · cases e
   · obtain rfl := T.sel_ret e
     have hb : ¬ b = 0 := by simpa [yEq] using hb
     exact ⟨.int k (a.tmod b), fun w => by simp [binOp, Op.intDiv, hb], rfl⟩
 case and => obtain rfl := T.sel_ret h; exact ⟨_, fun w => by simp only [binOp, intBits_eq (.inl rfl), ne_eq, not_true_eq_false, if_false]; rfl, rfl⟩
 case or => obtain rfl := T.sel_ret h; exact ⟨_, fun w => by simp only [binOp, intBits_eq (.inr (.inl rfl)), ne_eq, not_true_eq_false, if_false]; rfl, rfl⟩
 case xor => obtain rfl := T.sel_ret h; exact ⟨_, fun w => by simp only [binOp, intBits_eq (.inr (.inr (.inl rfl))), ne_eq, not_true_eq_false, if_false]; rfl, rfl⟩
 case andNot => obtain rfl := T.sel_ret h; exact ⟨_, fun w => by simp only [binOp, intBits_eq (.inr (.inr (.inr rfl))), ne_eq, not_true_eq_false, if_false]; rfl, rfl⟩
 case eql => obtain rfl := T.sel_ret h; exact ⟨.bool (a == b), fun w => by simp [binOp, Op.intCmp], by simp only [AV.R, yEq, Value.bool.injEq]; rw [Bool.eq_iff_iff]; simp⟩
 case neq => obtain rfl := T.sel_ret h; exact ⟨.bool (a != b), fun w => by simp [binOp, Op.intCmp], by simp only [AV.R, yEq, yNot, Value.bool.injEq]; rw [Bool.eq_iff_iff]; simp⟩
 case lss => obtain rfl := T.sel_ret h; exact ⟨_, fun w => by simp only [binOp, Op.intCmp, ne_eq, not_true_eq_false, if_false]; rfl, rfl⟩
 case leq => obtain rfl := T.sel_ret h; exact ⟨_, fun w => by simp only [binOp, Op.intCmp, ne_eq, not_true_eq_false, if_false]; rfl, rfl⟩
 case gtr => obtain rfl := T.sel_ret h; exact ⟨_, fun w => by simp only [binOp, Op.intCmp, ne_eq, not_true_eq_false, if_false]; rfl, by simp only [AV.R, yLt]⟩
 case geq => obtain rfl := T.sel_ret h; exact ⟨_, fun w => by simp only [binOp, Op.intCmp, ne_eq, not_true_eq_false, if_false]; rfl, by simp only [AV.R, yLe]⟩
 all_goals cases h
theorem shiftY_ok {op : BinOp} {k k' : IntKind} {a b : Int} {v : AV} {t : TypeId} (h : (shiftY op k a b).sel = some v) : ∃ u, (∀ w, (binOp op t (.int k a) (.int k' b)).run P w = .ok u w) ∧ v.R M u := by
 unfold shiftY at h
 cases op <;> first | (cases h; done) | skip
 all_goals
   obtain ⟨h1, h2⟩ := T.sel_must h
   obtain rfl := T.sel_ret h2
   have hb : ¬ b < 0 := by simp [yLe] at h1; omega
   exact ⟨_, fun w => by simp only [binOp, Op.shift, hb, if_false]; rfl, rfl⟩
theorem strY_ok {op : BinOp} {x y : List UInt8} {v : AV} {t : TypeId} (h : (strY op x y).sel = some v) : ∃ u, (∀ w, (binOp op t (.string ⟨x.toArray⟩) (.string ⟨y.toArray⟩)).run P w = .ok u w) ∧ v.R M u := by
 have hb : ∀ {z : AV}, strBin op x y = some z → (∀ v', z.R M v' → v.R M v') → ∃ u, (∀ w, (binOp op t (.string ⟨x.toArray⟩) (.string ⟨y.toArray⟩)).run P w = .ok u w) ∧ v.R M u := fun {z} e k => by
   obtain ⟨u, h1, h2⟩ := strBin_ok (P := P) (M := M) (t := t) e
   exact ⟨u, h1, k u h2⟩
 unfold strY at h
 cases op <;> first | (cases h; done) | skip
 case add =>
   obtain ⟨h1, h2⟩ := T.sel_must h
   obtain rfl := T.sel_ret h2
   have hle : x.length + y.length ≤ 9223372036854775807 := of_decide_eq_true h1
   exact hb (z := .s (x ++ y)) (by simp [strBin, nble, hle]) (fun v' e => e)
 all_goals
   obtain rfl := T.sel_ret h
   exact hb rfl (fun v' e => e)
theorem ptr_nil {t : TypeId} {x y : AV} {u v : Value} {b : Bool} (h : nilY x y = some b) {e : TypeId} (hu : P.underlying t = some (.slice e)) (rx : x.R M u) (ry : y.R M v) : ∀ w, (Op.equal t u v).run P w = .ok b w := by
 have hns : (AV.ns).R M (.slice none 0 0) := rfl
 have keyM : ∀ (N : Mp) (x' y' : AV), x'.R N u → y'.R N v → eqA P 64 t x' y' = some b → ∀ w, (Op.equal t u v).run P w = .ok b w := fun N x' y' rx' ry' hh w => by
   rw [Op.equal]; exact eqA_ok (M := N) 64 Op.maxDepth t x' y' b u v (by decide) hh rx' ry' w
 have key := keyM M
 have es : ∀ {v : Value} {a c}, v = .slice (some a) 0 c → (AV.es).R M v := fun {v a c} e => ⟨a, c, e⟩
 unfold nilY at h
 split at h <;> simp only [Option.some.injEq, reduceCtorEq] at h
 all_goals subst h
 · rename_i ro z o n
   simp only [AV.R] at rx
   rcases rx with ⟨rfl, _, rfl⟩ | ⟨rfl, _, a, c, rfl, _⟩ | ⟨rfl, b', κ, c, hM, rfl, _⟩
   · exact key .ns .ns hns ry (by simp [eqA, hu])
   · exact key .es .ns (es rfl) ry (by simp [eqA, hu])
   · exact key (.sl _ _ n c false) .ns (by simp only [AV.R]; exact ⟨b', κ, hM, rfl⟩) ry (by simp [eqA, hu])
 · rename_i ro z o n
   simp only [AV.R] at ry
   rcases ry with ⟨rfl, _, rfl⟩ | ⟨rfl, _, a, c, rfl, _⟩ | ⟨rfl, b', κ, c, hM, rfl, _⟩
   · exact key .ns .ns rx hns (by simp [eqA, hu])
   · exact key .ns .es rx (es rfl) (by simp [eqA, hu])
   · exact key .ns (.sl _ _ n c false) rx (by simp only [AV.R]; exact ⟨b', κ, hM, rfl⟩) (by simp [eqA, hu])
 · simp only [AV.R] at rx
   rcases rx with ⟨rfl, rfl⟩ | ⟨rfl, a, rfl⟩
   · exact key .ns .ns hns ry (by simp [eqA, hu])
   · exact key .es .ns (es rfl) ry (by simp [eqA, hu])
 · simp only [AV.R] at ry
   rcases ry with ⟨rfl, rfl⟩ | ⟨rfl, a, rfl⟩
   · exact key .ns .ns rx hns (by simp [eqA, hu])
   · exact key .ns .es rx (es rfl) (by simp [eqA, hu])
 · simp only [AV.R] at rx
   rcases rx with ⟨rfl, _, rfl⟩ | ⟨rfl, _, a, c, rfl, _⟩ | ⟨rfl, _, b', off, c, cs, rfl, _⟩
   · exact key .ns .ns hns ry (by simp [eqA, hu])
   · exact key .es .ns (es rfl) ry (by simp [eqA, hu])
   · exact keyM ⟨fun _ => some (b', 0), fun _ => none⟩ (.sl 0 _ _ c false) .ns (by simp only [AV.R]; exact ⟨b', 0, rfl, rfl⟩) ry (by simp [eqA, hu])
 · simp only [AV.R] at ry
   rcases ry with ⟨rfl, _, rfl⟩ | ⟨rfl, _, a, c, rfl, _⟩ | ⟨rfl, _, b', off, c, cs, rfl, _⟩
   · exact key .ns .ns rx hns (by simp [eqA, hu])
   · exact key .ns .es rx (es rfl) (by simp [eqA, hu])
   · exact keyM ⟨fun _ => some (b', 0), fun _ => none⟩ .ns (.sl 0 _ _ c false) rx (by simp only [AV.R]; exact ⟨b', 0, rfl, rfl⟩) (by simp [eqA, hu])
end
end Go.Proofs.YtinijejfhmcmdaaDoor.Ex
end
section
namespace Go.Proofs.YtinijejfhmcmdaaDoor.Ex
open Go
section
variable {P : Program} {M : Mp}
theorem eqY_ok : ∀ (d D : Nat) (t : TypeId) (x y : AV) (b : Bool) (u v : Value), d ≤ D → eqY P d t x y = some b → x.R M u → y.R M v → ∀ w, (Op.equalIn D t u v).run P w = .ok b w := by
 intro d
 induction d with
 | zero => intro D t x y b u v _ h; simp [eqY] at h
 | succ d ih =>
   intro D t x y b u v hD h rx ry w
   simp only [eqY] at h
   split at h
   · rename_i b' he
     simp only [Option.some.injEq] at h; subst h
     exact eqA_ok (d + 1) D t x y _ u v hD he rx ry w
   rename_i hnone
   obtain ⟨D, rfl⟩ : ∃ D', D = D' + 1 := ⟨D - 1, by omega⟩
   split at h
   · rename_i hu
     split at h
     · rename_i a c ha hc
       simp only [Option.some.injEq] at h; subst h
       rw [yB_ok ha rx, yB_ok hc ry]
       exact run_equalIn_bool' w D t _ _ hu
     · cases h
   · rename_i k0 hu
     split at h
     · rename_i k a k' c ha hc
       cases hk : eqK k k' with
       | false => rw [hk] at h; cases h
       | true =>
         rw [hk, cond_true, Option.some.injEq] at h; subst h
         rw [yI_ok ha rx, yI_ok hc ry, eqK_eq hk, run_equalIn_int w D t k' _ _ _ hu, yEq]
         congr 1
     · cases h
   · rename_i hu
     split at h
     · rename_i a c ha hc
       simp only [Option.some.injEq] at h; subst h
       rw [yS_ok ha rx, yS_ok hc ry, run_equalIn_string w D t _ _ hu, ByteArray.toList_eq, ByteArray.toList_eq, ySEq, eqS_eq]
     · cases h
   · rename_i fs xs ys hu
     obtain ⟨us, r1, rfl⟩ := R_agg rx
     obtain ⟨vs, r2, rfl⟩ := R_agg ry
     cases hp : P.stoodInHeld t with
     | true => simp [hp] at h
     | false =>
       rw [hp, cond_false] at h
       have hf : P.fieldsOf t = fs := by simp [Program.fieldsOf, hu]
       rw [run_equalIn_struct w D t us.toArray vs.toArray (by rw [hf]; exact hu) hp, hf]
       generalize fs.toList = l at h ⊢
       induction l generalizing w b with
       | nil => simp only [List.foldr_nil, Option.some.injEq] at h; subst h; simp [Op.eqFields]
       | cons f l ihl =>
         simp only [List.foldr_cons] at h
         simp only [Op.eqFields]
         by_cases hn : f.name = "_"
         · simp only [hn, beq_self_eq_true, cond_true] at h
           simp only [hn, ne_eq, not_true_eq_false, if_false]
           exact ihl b w h
         · have hb : (f.name == "_") = false := by simp [hn]
           rw [hb, cond_false] at h
           simp only [ne_eq, hn, not_false_eq_true, if_true, Sem.run_bind]
           split at h
           · rename_i pa pb ha hb'
             obtain ⟨ua, e1, q1⟩ := part_ok ha r1
             obtain ⟨ub, e2, q2⟩ := part_ok hb' r2
             rw [e1 w, Result.andThen_ok, e2 w, Result.andThen_ok]
             split at h
             · rename_i r r' he hk
               simp only [Option.some.injEq] at h; subst h
               rw [ih D f.type pa pb r ua ub (by omega) he q1 q2 w, Result.andThen_ok]
               cases r
               · simp [yAnd]
               · simp only [Bool.not_true, Bool.false_eq_true, if_false, yAnd, Bool.true_and]
                 exact ihl r' w hk
             · cases h
           · cases h
   · cases h
theorem binY_ok {op : BinOp} {t : TypeId} {x y v : AV} {X Y : Operand} {a b : Value} (h : (binY P op t x y).sel = some v) (rx : x.R M a) (ry : y.R M b) :
   ∃ u, (∀ w, (eqGuard op t X Y a b >>= fun _ => binOp op t a b).run P w = .ok u w) ∧ v.R M u := by
 unfold binY at h
 split at h
 · obtain ⟨us, r1, rfl⟩ := R_agg rx
   obtain ⟨vs, r2, rfl⟩ := R_agg ry
   cases hgf : guardFree P t with
   | false => rw [hgf] at h; cases h
   | true =>
     rw [hgf, cond_true] at h
     have hm : P.eqGuardType P.depth t = false := by simpa [guardFree] using hgf
     cases op <;> first | (cases h; done) | skip
     · simp only at h
       split at h
       · rename_i e he
         obtain rfl := T.sel_ret h
         refine ⟨.bool e, fun w => ?_, rfl⟩
         have := eqY_ok 64 Op.maxDepth t _ _ e _ _ (by decide) he rx ry w
         simp [run_eqGuard_agg w .eql t X Y us.toArray vs.toArray hm, binOp, Op.equal, this]
       · cases h
     · simp only at h
       split at h
       · rename_i e he
         obtain rfl := T.sel_ret h
         refine ⟨.bool !e, fun w => ?_, rfl⟩
         have := eqY_ok 64 Op.maxDepth t _ _ e _ _ (by decide) he rx ry w
         simp [run_eqGuard_agg w .neq t X Y us.toArray vs.toArray hm, binOp, Op.equal, this]
       · cases h
 · split at h
   · rename_i k n k' m ha hb
     obtain rfl := yI_ok ha rx
     obtain rfl := yI_ok hb ry
     have hg := fun w => guard_none (P := P) (op := op) (t := t) (X := X) (Y := Y) (u := .int k n) (v := .int k' m) (by simp) (by simp) w
     have key : ∃ u, (∀ w, (binOp op t (.int k n) (.int k' m)).run P w = .ok u w) ∧ v.R M u := by
       split at h
       · exact shiftY_ok h
       · exact shiftY_ok h
       · cases hk : eqK k k' with
         | false => rw [hk] at h; cases h
         | true =>
           rw [hk, cond_true] at h
           obtain rfl := eqK_eq hk
           exact intY_ok h
     obtain ⟨u, h1, h2⟩ := key
     exact ⟨u, fun w => by simp [hg, h1], h2⟩
   · split at h
     · rename_i p q ha hb
       obtain rfl := yB_ok ha rx
       obtain rfl := yB_ok hb ry
       have hg := fun w => guard_none (P := P) (op := op) (t := t) (X := X) (Y := Y) (u := .bool p) (v := .bool q) (by simp) (by simp) w
       cases op <;> first | (cases h; done) | skip
       · simp only at h
         split at h
         · rename_i hu
           obtain rfl := T.sel_ret h
           refine ⟨.bool (p == q), fun w => ?_, rfl⟩
           have : (Op.equalIn (9999 + 1) t (.bool p) (.bool q)).run P w = .ok (p == q) w := run_equalIn_bool' w 9999 t p q hu
           simp [hg, binOp, Op.equal, Op.maxDepth, this]
         · cases h
       · simp only at h
         split at h
         · rename_i hu
           obtain rfl := T.sel_ret h
           refine ⟨.bool (!(p == q)), fun w => ?_, rfl⟩
           have : (Op.equalIn (9999 + 1) t (.bool p) (.bool q)).run P w = .ok (p == q) w := run_equalIn_bool' w 9999 t p q hu
           simp [hg, binOp, Op.equal, Op.maxDepth, this]
         · cases h
     · split at h
       · rename_i p q ha hb
         obtain rfl := yS_ok ha rx
         obtain rfl := yS_ok hb ry
         have hg := fun w => guard_none (P := P) (op := op) (t := t) (X := X) (Y := Y) (u := .string ⟨p.toArray⟩) (v := .string ⟨q.toArray⟩) (by simp) (by simp) w
         obtain ⟨u, h1, h2⟩ := strY_ok (P := P) (M := M) (t := t) h
         exact ⟨u, fun w => by simp [hg, h1], h2⟩
       · split at h
         · rename_i e z hu hn
           have he := ptr_nil hn hu rx ry
           have hsl : (∃ p n c, a = .slice p n c) := by
             unfold nilY at hn
             split at hn <;> try simp only [AV.R] at rx
             · rcases rx with ⟨_, _, rfl⟩ | ⟨_, _, _, _, rfl, _⟩ | ⟨_, _, _, _, _, rfl, _⟩ <;> exact ⟨_, _, _, rfl⟩
             · subst rx; exact ⟨_, _, _, rfl⟩
             · rcases rx with ⟨_, rfl⟩ | ⟨_, _, rfl⟩ <;> exact ⟨_, _, _, rfl⟩
             · subst rx; exact ⟨_, _, _, rfl⟩
             · rcases rx with ⟨_, _, rfl⟩ | ⟨_, _, _, _, rfl, _⟩ | ⟨_, _, _, _, _, _, rfl, _⟩ <;> exact ⟨_, _, _, rfl⟩
             · subst rx; exact ⟨_, _, _, rfl⟩
             · cases hn
           obtain ⟨p, n, c, rfl⟩ := hsl
           have hg := fun w => guard_none (P := P) (op := op) (t := t) (X := X) (Y := Y) (u := .slice p n c) (v := b) (by simp) (by simp) w
           cases op <;> first | (cases h; done) | skip
           · obtain rfl := T.sel_ret h
             exact ⟨.bool z, fun w => by simp [hg, binOp, he], rfl⟩
           · obtain rfl := T.sel_ret h
             exact ⟨.bool !z, fun w => by simp [hg, binOp, he], rfl⟩
         · cases h
theorem enumT_ok {α : Type} {x : Int} {f : Nat → T α} {v : α} : ∀ {n m : Nat}, (enumT x n m f).sel = some v → ∃ i, m ≤ i ∧ i < m + n ∧ x = i ∧ (f i).sel = some v
 | 0, m, h => by cases h
 | n + 1, m, h => by
   rcases T.sel_br h with ⟨h1, h2⟩ | ⟨h1, h2⟩
   · exact ⟨m, Nat.le_refl _, by omega, by simpa [yEq] using h1, h2⟩
   · obtain ⟨i, q1, q2, q3, q4⟩ := enumT_ok h2
     exact ⟨i, by omega, by omega, q3, q4⟩
theorem yIn_ok {x : Int} {n : Nat} (h : yIn x n = true) : 0 ≤ x ∧ x < n := by simpa [yIn] using h
theorem indexAddrY_ok {t : TypeId} {x ix v : AV} {y iy : Value} (h : (indexAddrY P t x ix).sel = some v) (rx : x.R M y) (ri : ix.R M iy) : ∃ u, (∀ w, (Instr.indexAt t y iy).run P w = .ok u w) ∧ v.R M u := by
 unfold indexAddrY at h
 split at h
 · cases h
 · rename_i iz i hix
   obtain ⟨⟨k, rfl⟩, hnat⟩ := yIx_ok hix ri
   split at h
   · rename_i e ro nil id z o n hu
     split at h
     · rename_i z' hz
       simp only [nbeq, Bool.cond_decide] at h
       split at h
       · rename_i hzz; subst hzz
         obtain ⟨h1, h2⟩ := T.sel_must h
         obtain rfl := T.sel_ret h2
         obtain ⟨h3, h4⟩ := yIn_ok h1
         have hi := hnat h3
         have hlt : i < n := by omega
         have hiz : iz = (i : Int) := by omega
         subst hiz
         simp only [AV.R] at rx
         rcases rx with ⟨_, rfl, _⟩ | ⟨_, rfl, _⟩ | ⟨_, b, κ, c, hM, rfl, _⟩
         · omega
         · omega
         · refine ⟨.pointer (some ⟨b, (if ro = true then κ else 0) + o * z + i * z, none⟩), fun w => ?_, ?_⟩
           · simp [Instr.indexAt, asIntOf, run_underlying hu, hlt, sizeT_ok hz, addr_add]
           · simp only [AV.R]
             refine ⟨b, κ, hM, ?_⟩
             simp only [yNadd, Nat.add_mul, Nat.add_zero, Nat.add_assoc]
       · cases h
     · cases h
   · rename_i e x' nil z n f hu
     split at h
     · rename_i z' hz
       simp only [nbeq, Bool.cond_decide] at h
       split at h
       · rename_i hzz; subst hzz
         obtain ⟨h1, h2⟩ := T.sel_must h
         obtain rfl := T.sel_ret h2
         obtain ⟨h3, h4⟩ := yIn_ok h1
         have hi := hnat h3
         have hlt : i < n := by omega
         have hiz : iz = (i : Int) := by omega
         subst hiz
         simp only [AV.R] at rx
         rcases rx with ⟨_, rfl, _⟩ | ⟨_, rfl, _⟩ | ⟨_, _, b, off, c, cs, rfl, _, _, hcs, hc⟩
         · omega
         · omega
         · refine ⟨.pointer (some ⟨b, off + i * z, none⟩), fun w => ?_, ?_⟩
           · simp [Instr.indexAt, asIntOf, run_underlying hu, hlt, sizeT_ok hz, addr_add]
           · simp only [AV.R]
             exact ⟨b, off + i * z, cs, rfl, hcs, fun q hq => hc i hlt q hq⟩
       · cases h
     · cases h
   · rename_i e id off len cap un hu
     split at h
     · rename_i z hz
       obtain ⟨j, _, hj, rfl, hs⟩ := enumT_ok h
       obtain rfl := T.sel_ret hs
       have hj : j < len := by omega
       simp only [AV.R] at rx
       obtain ⟨b, c, hM, rfl⟩ := rx
       refine ⟨.pointer (some ⟨b, off + j * z, none⟩), fun w => ?_, by simp only [AV.R]; exact ⟨b, c, hM, rfl⟩⟩
       simp [Instr.indexAt, asIntOf, run_underlying hu, hj, sizeT_ok hz, addr_add]
     · cases h
   · rename_i len e id off hu
     split at h
     · rename_i z hz
       obtain ⟨j, _, hj, rfl, hs⟩ := enumT_ok h
       obtain rfl := T.sel_ret hs
       have hj : j < len := by omega
       simp only [AV.R] at rx
       obtain ⟨b, c, hM, rfl⟩ := rx
       refine ⟨.pointer (some ⟨b, off + j * z, none⟩), fun w => ?_, by simp only [AV.R]; exact ⟨b, c, hM, rfl⟩⟩
       simp [Instr.indexAt, asIntOf, run_underlying hu, hj, sizeT_ok hz, addr_add, Instr.sureAddr]
     · cases h
   · cases h
theorem indexY_ok {t : TypeId} {x ix v : AV} {y iy : Value} (h : (indexY P t x ix).sel = some v) (rx : x.R M y) (ri : ix.R M iy) : ∃ u, (∀ w, (Instr.index t y iy).run P w = .ok u w) ∧ v.R M u := by
 unfold indexY at h
 split at h
 · cases h
 · rename_i iz i hix
   obtain ⟨⟨k, rfl⟩, hnat⟩ := yIx_ok hix ri
   split at h
   · rename_i len e cs hu
     split at h
     · rename_i z hz
       obtain ⟨j, _, hj, rfl, hs⟩ := enumT_ok h
       rw [T.sel_of] at hs
       have hj : j < len := by omega
       obtain ⟨us, r1, rfl⟩ := R_agg rx
       obtain ⟨u, h1, h2⟩ := part_ok hs r1
       exact ⟨u, fun w => by simp [Instr.index, asIntOf, run_underlying hu, hj, sizeT_ok hz, h1], h2⟩
     · cases h
   · rename_i hu
     split at h
     · rename_i l hl
       obtain rfl := yS_ok hl rx
       obtain ⟨h1, h2⟩ := T.sel_must h
       obtain rfl := T.sel_ret h2
       obtain ⟨h3, h4⟩ := yIn_ok h1
       have hi := hnat h3
       simp only [yLen] at h4
       have hlt : i < l.length := by omega
       have hiz : iz = (i : Int) := by omega
       subst hiz
       have hsz : i < (⟨l.toArray⟩ : ByteArray).size := by simpa [ByteArray.size] using hlt
       have hc2 : (⟨l.toArray⟩ : ByteArray)[i]? = some (l.getD i 0) := by
         rw [getElem?_pos (⟨l.toArray⟩ : ByteArray) i hsz]
         simp only [Option.some.injEq]
         rw [List.getD_eq_getElem?_getD, List.getElem?_eq_getElem hlt, Option.getD_some]; rfl
       refine ⟨.int .u8 (l.getD i 0).toNat, fun w => ?_, rfl⟩
       simp [Instr.index, asIntOf, run_underlying hu, hc2]
     · cases h
   · cases h
end
end Go.Proofs.YtinijejfhmcmdaaDoor.Ex
end
section
namespace Go.Proofs.YtinijejfhmcmdaaDoor.Ex
open Go
theorem place_ne {p i z q j m : Nat} (hq : q < z) (hj : j + m ≤ z) (h : p ≠ i) : ¬ (i * z + j ≤ p * z + q ∧ p * z + q < i * z + j + m) := by
 rcases Nat.lt_or_gt_of_ne h with h | h
 · have := Nat.mul_le_mul_right z (show p + 1 ≤ i from h)
   rw [Nat.add_mul] at this; omega
 · have := Nat.mul_le_mul_right z (show i + 1 ≤ p from h)
   rw [Nat.add_mul] at this; omega
theorem place_lt {p q z n : Nat} (hp : p < n) (hq : q < z) : p * z + q < n * z := by
 have := Nat.mul_le_mul_right z (show p + 1 ≤ n from hp)
 rw [Nat.add_mul] at this; omega
theorem list_of {α : Type} {Q : Nat → α → Prop} : ∀ (n : Nat), (∀ k, k < n → ∃ v, Q k v) → ∃ l : List α, l.length = n ∧ ∀ k v, l[k]? = some v → Q k v
 | 0, _ => ⟨[], rfl, fun k v h => by simp at h⟩
 | n + 1, h => by
   obtain ⟨l, h1, h2⟩ := list_of n (fun k hk => h k (by omega))
   obtain ⟨v, hv⟩ := h n (by omega)
   refine ⟨l ++ [v], by simp [h1], fun k u hk => ?_⟩
   by_cases hlt : k < l.length
   · rw [List.getElem?_append_left hlt] at hk; exact h2 k u hk
   · rw [List.getElem?_append_right (by omega)] at hk
     have : k = n := by
       have := (List.getElem?_eq_some_iff.1 hk).1
       simp at this; omega
     subst this
     simp [h1] at hk; subst hk; exact hv
section
variable {P : Program} {M : Mp}
theorem arr_cell {h : AH} {w : World} {id b κ z n : Nat} {ro : Bool} {e : TypeId} {f : Nat → Nat → AV} (r : Rel M h w) (hg : h.get id = some (.arr ro e z n f)) (hM : M id = some (b, κ)) :
   ∀ i, i < n → ∀ j, j < z → ∃ v, (∀ m : World, m.heap = w.heap → m.cell? ⟨b, (if ro then κ else 0) + i * z + j, none⟩ = some v) ∧ v.oneCell' = true ∧ (f i j).R M v := fun i hi j hj => by
 obtain ⟨ob, hb, ho⟩ := Ob_of r hg hM
 cases ro with
 | true =>
   obtain ⟨cs, e', fr, rfl, q⟩ := ho
   obtain ⟨v, h1, h2⟩ := q i hi j hj
   exact ⟨v, fun m hm => by simp [World.cell?, hm, hb, h1], h2⟩
 | false =>
   obtain ⟨cs, rfl, _, _, q⟩ := ho
   obtain ⟨v, h1, h2⟩ := q i hi j hj
   exact ⟨v, fun m hm => by simp [World.cell?, hm, hb, h1], h2⟩
theorem cellsF_ok {g : Nat → AV} {R : Nat → Value → Prop} : ∀ (m j : Nat), (∀ q, j ≤ q → q < j + m → ∃ v, R q v ∧ (g q).R M v) → ∃ vs, AV.RL M (cellsF g m j) vs ∧ vs.length = m ∧ ∀ k v, vs[k]? = some v → R (j + k) v
 | 0, j, _ => ⟨[], rfl, rfl, fun k v h => by simp at h⟩
 | m + 1, j, h => by
   obtain ⟨v, h1, h2⟩ := h j (Nat.le_refl _) (by omega)
   obtain ⟨vs, q1, q2, q3⟩ := cellsF_ok m (j + 1) (fun q a b => h q (by omega) (by omega))
   refine ⟨v :: vs, by simp only [cellsF, AV.RL]; exact ⟨v, vs, h2, q1, rfl⟩, by simp [q2], fun k u hk => ?_⟩
   cases k with
   | zero => simp at hk; subst hk; exact h1
   | succ k => have := q3 k u (by simpa using hk); rwa [show j + 1 + k = j + (k + 1) by omega] at this
theorem partF_ok {w : World} {t : TypeId} {b base z j : Nat} {g : Nat → AV} {v : AV} (hp : partF P t z g j = some v) (hcell : ∀ q, q < z → ∃ v, (∀ m : World, m.heap = w.heap → m.cell? ⟨b, base + q, none⟩ = some v) ∧ (g q).R M v) :
   ∃ u, (∀ m : World, m.heap = w.heap → (Instr.loadAt t (.pointer (some ⟨b, base + j, none⟩))).run P m = .ok u m) ∧ v.R M u := by
 unfold partF at hp
 split at hp
 · rename_i ha
   split at hp
   · rename_i m hm
     simp only [nble, Bool.cond_decide] at hp
     split at hp
     · rename_i hle
       simp only [Option.some.injEq] at hp; subst hp
       obtain ⟨vs, q1, q2, q3⟩ := cellsF_ok (M := M) (g := g) (R := fun q v => ∀ m : World, m.heap = w.heap → m.cell? ⟨b, base + q, none⟩ = some v) m j (fun q a c => by
         obtain ⟨v, p1, p2⟩ := hcell q (by omega)
         exact ⟨v, p1, p2⟩)
       refine ⟨.agg vs.toArray, fun m' hm' => ?_, by simp only [AV.R]; exact ⟨vs, q1, rfl⟩⟩
       have := run_loadCells_list (P := P) m' ⟨b, base + j, none⟩ vs (fun k u hk => by rw [addr_add, Nat.add_assoc _ j k]; exact q3 k u hk m' hm')
       rw [q2] at this
       simp [Instr.loadAt, Instr.sureAddr, loadVar, aggT_ok ha, sizeT_ok hm, this]
     · cases hp
   · cases hp
 · rename_i ha
   simp only [nblt, Bool.cond_decide] at hp
   split at hp
   · rename_i hlt
     simp only [Option.some.injEq] at hp; subst hp
     obtain ⟨v, p1, p2⟩ := hcell j hlt
     refine ⟨v, fun m' hm' => ?_, p2⟩
     simp [Instr.loadAt, Instr.sureAddr, loadVar, aggT_ok ha, p1 m' hm']
   · cases hp
 · cases hp
theorem loadY_ok {h : AH} {w : World} {t : TypeId} {a v : AV} {x : Value} (hl : (loadY P h t a).sel = some v) (ra : a.R M x) (r : Rel M h w) :
   ∃ u, (∀ m : World, m.heap = w.heap → ((asAddr x).run P m = (Instr.sureAddr x).run P m) ∧ (Instr.loadAt t x).run P m = .ok u m) ∧ v.R M u := by
 unfold loadY at hl
 split at hl
 · rename_i ro id z i j
   simp only [AV.R] at ra
   obtain ⟨b, κ, hM, rfl⟩ := ra
   split at hl
   · rename_i ro' e z' n f hg
     cases hc : ((ro == ro') && Nat.beq z z') with
     | false => rw [hc] at hl; cases hl
     | true =>
       rw [hc, cond_true] at hl
       simp only [Bool.and_eq_true, beq_iff_eq, nbeq, decide_eq_true_eq] at hc
       obtain ⟨rfl, rfl⟩ := hc
       split at hl
       · rename_i v' hp
         obtain ⟨h1, h2⟩ := T.sel_must hl
         obtain rfl := T.sel_ret h2
         have hi : i < n := of_decide_eq_true h1
         have hcell := arr_cell r hg hM i hi
         obtain ⟨u, q1, q2⟩ := partF_ok (P := P) (M := M) (w := w) hp (fun q hq => by obtain ⟨v, p1, _, p2⟩ := hcell q hq; exact ⟨v, p1, p2⟩)
         exact ⟨u, fun m hm => ⟨rfl, q1 m hm⟩, q2⟩
       · cases hl
   · cases hl
 · rename_i z j g
   simp only [AV.R] at ra
   obtain ⟨b, off, cs, rfl, hz, hc⟩ := ra
   split at hl
   · rename_i v' hp
     obtain rfl := T.sel_ret hl
     obtain ⟨e, fr, hb⟩ := r.fz b cs hz
     obtain ⟨u, q1, q2⟩ := partF_ok (P := P) (M := M) (w := w) (b := b) (base := off) hp (fun q hq => by
       obtain ⟨v, p1, _, p2⟩ := hc q hq
       exact ⟨v, fun m hm => by simp [World.cell?, hm, hb, p1], p2⟩)
     exact ⟨u, fun m hm => ⟨rfl, q1 m hm⟩, q2⟩
   · cases hl
 · cases hl
theorem row_get {cs us : List Value} {o k : Nat} (h : o + us.length ≤ cs.length) : (cs.take o ++ us ++ cs.drop (o + us.length))[k]? = if o ≤ k ∧ k < o + us.length then us[k - o]? else cs[k]? := by
 split
 · rename_i hk
   rw [List.append_assoc, List.getElem?_append_right (by simp; omega), List.getElem?_append_left (by simp; omega)]
   congr 1; simp; omega
 · rename_i hk
   by_cases h1 : k < o
   · rw [List.append_assoc, List.getElem?_append_left (by simp; omega), List.getElem?_take, if_pos h1]
   · rw [List.getElem?_append_right (by simp; omega), List.getElem?_drop]
     congr 1; simp; omega
theorem storeY_ok {h h' : AH} {w : World} {t : TypeId} {a v : AV} {x y : Value} (hl : (storeY P h t a v).sel = some h') (ra : a.R M x) (rv : v.R M y) (r : Rel M h w) :
   ∃ w', (Instr.storeAt t x y).run P w = .ok () w' ∧ Rel M h' w' ∧ Fr h h' M M w w' ∧ Ab h h' := by
 unfold storeY at hl
 split at hl
 · rename_i id z i j
   simp only [AV.R] at ra
   obtain ⟨b, κ, hM, rfl⟩ := ra
   split at hl
   · rename_i e z' n f hg
     split at hl
     · rename_i m hm
       cases hc : (Nat.beq z z' && Nat.beq (cellsA v).length m && Nat.ble (j + m) z && allCell (cellsA v)) with
       | false => rw [hc] at hl; cases hl
       | true =>
         rw [hc, cond_true] at hl
         simp only [Bool.and_eq_true, nbeq, nble, decide_eq_true_eq] at hc
         obtain ⟨⟨⟨rfl, hlen⟩, hjm⟩, hall⟩ := hc
         split at hl
         · rename_i h2 hp
           obtain ⟨h1, hs⟩ := T.sel_must hl
           obtain rfl := T.sel_ret hs
           have hi : i < n := of_decide_eq_true h1
           obtain ⟨ob, hb, cs, rfl, hsz, hnκ, q⟩ := Ob_of r hg hM
           have rl := cellsA_R rv
           have hul := RL_length rl
           have one := allCell_one rl hall
           have hfit : i * z + j + y.cells.toList.length ≤ cs.size := by
             have := Nat.mul_le_mul_right z (show i + 1 ≤ κ by omega)
             rw [Nat.add_mul] at this
             rw [hsz, hul, hlen]; omega
           have hst := run_storeCells_at P b (i * z + j) e y.cells.toList 0 cs w hb (by simpa using hfit) one
           simp only [Nat.add_zero] at hst
           obtain ⟨row, hrow⟩ : ∃ row, row = (cs.toList.take (i * z + j) ++ y.cells.toList ++ cs.toList.drop (i * z + j + y.cells.toList.length)).toArray := ⟨_, rfl⟩
           rw [← hrow] at hst
           refine ⟨w.setRow b row, ?_, put_ok r hg hp hM (upd_setRow hb) ⟨row, rfl, ?_, hnκ, fun p hp2 c hc => ?_⟩⟩
           · have hys : y.cells.size = m := by simp at hul; omega
             simp [Instr.storeAt, Instr.sureAddr, storeVar, sizeT_ok hm, hys, hst]
           · rw [hrow]; simp; rw [← hsz]; simp at hfit; omega
           · have hg2 : row[p * z + c]? = if i * z + j ≤ p * z + c ∧ p * z + c < i * z + j + y.cells.toList.length then y.cells.toList[p * z + c - (i * z + j)]? else cs[p * z + c]? := by
               rw [hrow, List.getElem?_toArray, row_get (by simpa using hfit)]; split <;> simp
             rw [hg2]
             obtain ⟨v0, g1, g2, g3⟩ := q p hp2 c hc
             by_cases hpi : p = i
             · subst hpi
               by_cases hcj : j ≤ c ∧ c < j + y.cells.toList.length
               · rw [if_pos (by omega)]
                 have hk : p * z + c - (p * z + j) = c - j := by omega
                 rw [hk]
                 have hlt : c - j < y.cells.toList.length := by omega
                 refine ⟨y.cells.toList[c - j], by simp, one _ (List.getElem_mem _), ?_⟩
                 simp only [setF, nble, Bool.cond_decide, if_pos hcj.1]
                 have hnth : ∃ a, nthA (cellsA v) (c - j) = some a ∧ a.R M (y.cells.toList[c - j]) := by
                   have hlt2 : c - j < (cellsA v).length := by omega
                   have e1 : ∀ (l : List AV) (k : Nat) (hk : k < l.length), nthA l k = some l[k] := by
                     intro l
                     induction l with
                     | nil => intro k hk; simp at hk
                     | cons a l ih =>
                       intro k hk
                       cases k with
                       | zero => rfl
                       | succ k => exact ih k (by simpa using hk)
                   refine ⟨_, e1 _ _ hlt2, ?_⟩
                   obtain ⟨v1, k1, k2⟩ := nthA_get (e1 _ _ hlt2) rl
                   rw [List.getElem?_eq_getElem hlt] at k1
                   simp only [Option.some.injEq] at k1; rw [k1]; exact k2
                 obtain ⟨a, k1, k2⟩ := hnth
                 rw [k1]
                 exact selA_ok _ (by simp only [yNeq, decide_true, cond_true]; exact k2)
               · rw [if_neg (by omega)]
                 refine ⟨v0, g1, g2, ?_⟩
                 simp only [setF, nble, Bool.cond_decide]
                 split
                 · rename_i hjc
                   have : nthA (cellsA v) (c - j) = none := by
                     have e1 : ∀ (l : List AV) (k : Nat), l.length ≤ k → nthA l k = none := by
                       intro l
                       induction l with
                       | nil => intro k hk; rfl
                       | cons a l ih =>
                         intro k hk
                         cases k with
                         | zero => simp at hk
                         | succ k => exact ih k (by simpa using hk)
                     exact e1 _ _ (by omega)
                   rw [this]; exact g3
                 · exact g3
             · rw [if_neg (by have := place_ne (i := i) (j := j) (m := y.cells.toList.length) hc (by omega) hpi; exact this)]
               refine ⟨v0, g1, g2, ?_⟩
               simp only [setF, nble, Bool.cond_decide]
               split
               · split
                 · exact selA_ok _ (by simp only [yNeq, hpi, decide_false, cond_false]; exact g3)
                 · exact g3
               · exact g3
         · cases hl
     · cases hl
   · cases hl
 · cases hl
end
end Go.Proofs.YtinijejfhmcmdaaDoor.Ex
end
section
namespace Go.Proofs.YtinijejfhmcmdaaDoor.Ex
open Go
section
variable {P : Program} {M : Mp}
theorem yBound_ok {α : Type} {d a n : Nat} {lo : Option AV} {lv : Option Value} {xa : Option Int} {t : T α} {x : α} (h : yBound d lo = some (xa, a)) (r : OR M lo lv) (hs : (mustLe xa n t).sel = some x) :
   ((lv = none ∧ a = d) ∨ ∃ k, lv = some (.int k a) ∧ a ≤ n) ∧ t.sel = some x := by
 unfold yBound at h
 split at h
 · simp only [Option.some.injEq, Prod.mk.injEq] at h
   obtain ⟨rfl, rfl⟩ := h
   simp only [OR] at r
   exact ⟨.inl ⟨r, rfl⟩, hs⟩
 · split at h
   · rename_i v z m hz
     simp only [Option.some.injEq, Prod.mk.injEq] at h
     obtain ⟨rfl, rfl⟩ := h
     simp only [OR] at r
     obtain ⟨u, ru, rfl⟩ := r
     obtain ⟨⟨k, rfl⟩, hn⟩ := yIx_ok hz ru
     obtain ⟨h1, h2⟩ := T.sel_must hs
     obtain ⟨h3, h4⟩ := yIn_ok h1
     have hm := hn h3
     refine ⟨.inr ⟨k, ?_, by omega⟩, h2⟩
     congr 2; omega
   · cases h
theorem bounds_leY {len a b : Nat} {lv hv : Option Value} (h1 : (lv = none ∧ a = 0) ∨ ∃ k, lv = some (.int k a) ∧ a ≤ b) (h2 : (hv = none ∧ b = len) ∨ ∃ k, hv = some (.int k b) ∧ b ≤ len) : a ≤ b ∧ b ≤ len :=
 ⟨by rcases h1 with ⟨_, rfl⟩ | ⟨_, _, h⟩ <;> omega, by rcases h2 with ⟨_, rfl⟩ | ⟨_, _, h⟩ <;> omega⟩
theorem bounds_runY {isS : Bool} {len cap a b : Nat} {lv hv : Option Value} (h1 : (lv = none ∧ a = 0) ∨ ∃ k, lv = some (.int k a) ∧ a ≤ b) (h2 : (hv = none ∧ b = len) ∨ ∃ k, hv = some (.int k b) ∧ b ≤ len) (hc : len ≤ cap) (w : World) :
   (Instr.sliceBounds isS len cap lv hv none).run P w = .ok (a, b, cap) w := by
 obtain ⟨ha, hb⟩ := bounds_leY h1 h2
 rcases h1 with ⟨rfl, rfl⟩ | ⟨k1, rfl, _⟩ <;> rcases h2 with ⟨rfl, rfl⟩ | ⟨k2, rfl, _⟩
 · simp [Instr.sliceBounds]
 · simp [Instr.sliceBounds, sliceBound_run (P := P) (show b ≤ cap by omega)]
 · simp [Instr.sliceBounds, sliceBound_run (P := P) ha]
 · simp [Instr.sliceBounds, sliceBound_run (P := P) ha, sliceBound_run (P := P) (show b ≤ cap by omega)]
theorem cutN_eq {lo : Option AV} {xa : Option Int} {a b : Nat} (h : yBound 0 lo = some (xa, a)) : cutN lo a b = b - a := by
 cases lo with
 | none => simp only [yBound, Option.some.injEq, Prod.mk.injEq] at h; obtain ⟨_, rfl⟩ := h; rfl
 | some v => rfl
theorem shY_eq {lo : Option AV} {xa : Option Int} {a : Nat} (f : Nat → Nat → AV) (i j : Nat) (h : yBound 0 lo = some (xa, a)) : shY lo a f i j = f (a + i) j := by
 cases lo with
 | none => simp only [yBound, Option.some.injEq, Prod.mk.injEq] at h; obtain ⟨_, rfl⟩ := h; simp [shY]
 | some v => rfl
theorem lst_cut {w0 : Bool} {x nil : Bool} {z n a b m : Nat} {f g : Nat → Nat → AV} {p : Option Addr} {c : Nat} (hx : w0 = true → m = b) (hg : ∀ i j, g i j = f (a + i) j) (hab : a ≤ b) (hbn : b ≤ n) (hbm : b ≤ m) (hmc : m ≤ c)
   (r : (AV.lst x nil z n f).R M (.slice p n c)) : (AV.lst w0 nil z (b - a) g).R M (.slice (if m = a then p else p.map fun q => q.add (a * z)) (b - a) (m - a)) := by
 simp only [AV.R, Value.slice.injEq] at r ⊢
 rcases r with ⟨rfl, rfl, rfl, _, rfl⟩ | ⟨rfl, rfl, q, c', ⟨rfl, _, rfl⟩, _⟩ | ⟨rfl, h0, bb, off, c', cs, ⟨rfl, _, rfl⟩, hnc, _, hz, hc⟩
 · refine .inl ⟨rfl, by omega, ?_, by omega, by omega⟩
   split <;> rfl
 · have hb0 : b - a = 0 := by omega
   rw [hb0]
   refine .inr (.inl ⟨rfl, rfl, if m = a then q else q.add (a * z), m - a, ⟨?_, rfl, rfl⟩, fun e => by have := hx e; omega⟩)
   split <;> simp
 · by_cases hba : b - a = 0
   · rw [hba]
     refine .inr (.inl ⟨rfl, rfl, if m = a then ⟨bb, off, none⟩ else Addr.add ⟨bb, off, none⟩ (a * z), m - a, ⟨?_, rfl, rfl⟩, fun e => by have := hx e; omega⟩)
     split <;> simp
   · refine .inr (.inr ⟨rfl, by omega, bb, off + a * z, m - a, cs, ⟨?_, trivial, rfl⟩, by omega, fun e => by have := hx e; omega, hz, fun i hi j hj => ?_⟩)
     · rw [if_neg (by omega)]; simp [addr_add]
     · obtain ⟨u, q1, q2, q3⟩ := hc (a + i) (by omega) j hj
       refine ⟨u, ?_, q2, by rw [hg]; exact q3⟩
       rw [← q1]; congr 1; rw [Nat.add_mul]; omega
theorem sliceL_ok {t : TypeId} {x v : AV} {y : Value} {lo hi mx : Option AV} {lv hv mv : Option Value} (hs : (sliceL P t x lo hi mx).sel = some v) (rx : x.R M y) (r1 : OR M lo lv) (r2 : OR M hi hv) (r3 : OR M mx mv) :
   ∃ u, (∀ m : World, (Instr.sliceAt t y lv hv mv).run P m = .ok u m) ∧ v.R M u := by
 unfold sliceL at hs
 split at hs
 case h_2 => cases hs
 rename_i e x nil z n f hu
 split at hs
 case h_2 => cases hs
 rename_i z' xa a xb b hz hl hh
 simp only [nbeq, Bool.cond_decide] at hs
 split at hs
 case isFalse => cases hs
 rename_i hzz; subst hzz
 obtain ⟨p, c, rfl, hnc, hxc⟩ : ∃ p c, y = .slice p n c ∧ n ≤ c ∧ (x = true → c = n) := by
   simp only [AV.R] at rx
   rcases rx with ⟨_, rfl, rfl⟩ | ⟨_, rfl, a, c, rfl, hx⟩ | ⟨_, _, bb, off, c, cs, rfl, h1, h2, _⟩
   · exact ⟨_, _, rfl, Nat.le_refl _, fun _ => rfl⟩
   · exact ⟨_, _, rfl, Nat.zero_le _, hx⟩
   · exact ⟨_, _, rfl, h1, h2⟩
 split at hs
 · simp only [OR] at r3; subst r3
   obtain ⟨q2, hs⟩ := yBound_ok hh r2 hs
   obtain ⟨q1, hs⟩ := yBound_ok hl r1 hs
   obtain rfl := T.sel_ret hs
   have hb := fun m : World => bounds_runY (P := P) (isS := true) (cap := c) q1 q2 hnc m
   obtain ⟨l1, l2⟩ := bounds_leY q1 q2
   refine ⟨_, fun m => by simp [Instr.sliceAt, run_underlying hu, Instr.slice, hb m, sizeT_ok hz]; rfl, ?_⟩
   rw [cutN_eq hl]
   refine lst_cut (x := x) (fun e => ?_) (fun i j => shY_eq f i j hl) l1 l2 (by omega) (Nat.le_refl _) rx
   cases hhi : hi with
   | none =>
     rw [hhi] at e hh
     simp only [yBound, Option.some.injEq, Prod.mk.injEq] at hh
     rw [← hh.2]; exact hxc e
   | some _ => rw [hhi] at e; cases e
 · rename_i mm
   split at hs
   case h_2 => cases hs
   rename_i _ _ xm m vv hix
   simp only [OR] at r3
   obtain ⟨um, rm, rfl⟩ := r3
   obtain ⟨⟨km, rfl⟩, hnat⟩ := yIx_ok hix rm
   obtain ⟨h1, hs⟩ := T.sel_must hs
   obtain ⟨h2, hs⟩ := T.sel_must hs
   obtain ⟨h3, h4⟩ := yIn_ok h1
   have hmn := hnat h3
   have hbm : b = m := of_decide_eq_true h2
   obtain ⟨q2, hs⟩ := yBound_ok hh r2 hs
   obtain ⟨q1, hs⟩ := yBound_ok hl r1 hs
   obtain rfl := T.sel_ret hs
   obtain ⟨l1, l2⟩ := bounds_leY q1 q2
   simp only [OR] at r2
   obtain ⟨uh, _, rfl⟩ := r2
   obtain ⟨kh, hkh⟩ : ∃ k, uh = .int k b := by
     rcases q2 with ⟨h, _⟩ | ⟨k, h, _⟩
     · cases h
     · simp only [Option.some.injEq] at h; exact ⟨k, h⟩
   subst hkh
   have hxm : xm = (b : Int) := by omega
   subst hxm
   have hb : ∀ w : World, (Instr.sliceBounds true n c lv (some (.int kh b)) (some (.int km b))).run P w = .ok (a, b, b) w := fun w => by
     rcases q1 with ⟨rfl, rfl⟩ | ⟨k1, rfl, _⟩
     · simp [Instr.sliceBounds, sliceBound_run (P := P) (show b ≤ c by omega), sliceBound_run (P := P) (Nat.le_refl b)]
     · simp [Instr.sliceBounds, sliceBound_run (P := P) (show b ≤ c by omega), sliceBound_run (P := P) (Nat.le_refl b), sliceBound_run (P := P) l1]
   refine ⟨_, fun m => by simp [Instr.sliceAt, run_underlying hu, Instr.slice, hb m, sizeT_ok hz]; rfl, ?_⟩
   rw [cutN_eq hl]
   exact lst_cut (x := x) (fun _ => rfl) (fun i j => shY_eq f i j hl) l1 l2 (Nat.le_refl _) (by omega) rx
theorem sliceY_ok {t : TypeId} {x v : AV} {y : Value} {lo hi mx : Option AV} {lv hv mv : Option Value} (hs : (sliceY P t x lo hi mx).sel = some v) (rx : x.R M y) (r1 : OR M lo lv) (r2 : OR M hi hv) (r3 : OR M mx mv) :
   ∃ u, (∀ m : World, (Instr.sliceAt t y lv hv mv).run P m = .ok u m) ∧ v.R M u := by
 unfold sliceY at hs
 split at hs
 · exact sliceL_ok hs rx r1 r2 r3
 rename_i hnl
 clear hnl
 split at hs
 · -- x[:0:0]
   rename_i k0
   simp only [OR, AV.R] at r3
   obtain ⟨_, rfl, rfl⟩ := r3
   have main : ∀ {e : TypeId} {ro nil : Bool} {id z o n : Nat} {k1 : IntKind}, P.underlying t = some (.slice e) → (AV.ysl ro nil id z o n).R M y → hv = some (.int k1 0) → (lv = none ∨ ∃ k2, lv = some (.int k2 0)) → (match sizeT P e with | some _ => T.ret (AV.ye nil) | none => T.no).sel = some v →
       ∃ u, (∀ m : World, (Instr.sliceAt t y lv hv (some (.int k0 0))).run P m = .ok u m) ∧ v.R M u := by
     intro e ro nil id z o n k1 hu rx hhv hlv hs
     split at hs
     case h_2 => cases hs
     rename_i z' hz
     obtain rfl := T.sel_ret hs
     subst hhv
     have hsl : ∃ p nn c, y = .slice p nn c ∧ ((nil = true ∧ p = none) ∨ (nil = false ∧ ∃ a, p = some a)) := by
       simp only [AV.R] at rx
       rcases rx with ⟨h, _, rfl⟩ | ⟨h, _, a, c, rfl, _⟩ | ⟨h, b, κ, c, _, rfl, _⟩
       · exact ⟨_, _, _, rfl, .inl ⟨h, rfl⟩⟩
       · exact ⟨_, _, _, rfl, .inr ⟨h, _, rfl⟩⟩
       · exact ⟨_, _, _, rfl, .inr ⟨h, _, rfl⟩⟩
     obtain ⟨p, nn, c, rfl, hp⟩ := hsl
     refine ⟨.slice p 0 0, fun m => ?_, by simp only [AV.R]; rcases hp with ⟨h, rfl⟩ | ⟨h, a, rfl⟩; exact .inl ⟨h, rfl⟩; exact .inr ⟨h, a, rfl⟩⟩
     have h0 : ∀ (k : IntKind) (y : Nat) (code : BoundsCode), (Instr.sliceBound (.int k 0) y code).run P m = .ok 0 m := fun k y code => by simpa using sliceBound_run (P := P) (k := k) (code := code) (Nat.zero_le y) m
     rcases hlv with rfl | ⟨k2, rfl⟩ <;> simp [Instr.sliceAt, run_underlying hu, Instr.slice, Instr.sliceBounds, h0, sizeT_ok hz]
   split at hs
   · rename_i e ro nil id z o n k1 hu; exact main (by assumption) rx (by simp only [OR, AV.R] at r2; obtain ⟨_, rfl, rfl⟩ := r2; rfl) (.inl (by simpa [OR] using r1)) hs
   · rename_i e ro nil id z o n k1 k2 hu; exact main (by assumption) rx (by simp only [OR, AV.R] at r2; obtain ⟨_, rfl, rfl⟩ := r2; rfl) (.inr (by simp only [OR, AV.R] at r1; obtain ⟨_, rfl, rfl⟩ := r1; exact ⟨_, rfl⟩)) hs
   · cases hs
 · cases hs
 · simp only [OR] at r3; subst r3
   split at hs
   · rename_i e nil id z o n hu
     split at hs
     · rename_i z' xa a xb b hz hl hh
       simp only [nbeq, Bool.cond_decide] at hs
       split at hs
       · rename_i hzz; subst hzz
         obtain ⟨q2, hs⟩ := yBound_ok hh r2 hs
         obtain ⟨q1, hs⟩ := yBound_ok hl r1 hs
         obtain rfl := T.sel_ret hs
         simp only [AV.R] at rx
         rcases rx with ⟨rfl, rfl, rfl⟩ | ⟨rfl, rfl, p, c, rfl, _⟩ | ⟨rfl, bb, κ, c, hM, rfl, hnc, _⟩
         · have hb := fun m : World => bounds_runY (P := P) (isS := true) (cap := 0) q1 q2 (Nat.le_refl _) m
           obtain ⟨l1, l2⟩ := bounds_leY q1 q2
           obtain rfl : b = 0 := by omega
           obtain rfl : a = 0 := by omega
           exact ⟨.slice none 0 0, fun m => by simp [Instr.sliceAt, run_underlying hu, Instr.slice, hb m, sizeT_ok hz], .inl ⟨rfl, rfl, rfl⟩⟩
         · have hb := fun m : World => bounds_runY (P := P) (isS := true) (cap := c) q1 q2 (Nat.zero_le _) m
           obtain ⟨l1, l2⟩ := bounds_leY q1 q2
           obtain rfl : b = 0 := by omega
           obtain rfl : a = 0 := by omega
           refine ⟨.slice (if c = 0 then some p else some (p.add (0 * z))) 0 c, fun m => by simp [Instr.sliceAt, run_underlying hu, Instr.slice, hb m, sizeT_ok hz], .inr (.inl ⟨rfl, rfl, ?_⟩)⟩
           split
           · exact ⟨_, _, rfl, fun e => by cases e⟩
           · exact ⟨_, _, rfl, fun e => by cases e⟩
         · have hb := fun m : World => bounds_runY (P := P) (isS := true) (cap := c) q1 q2 hnc m
           obtain ⟨l1, l2⟩ := bounds_leY q1 q2
           by_cases hba : b = a
           · subst hba
             refine ⟨.slice (if c = b then some ⟨bb, (if true = true then κ else 0) + o * z, none⟩ else some ⟨bb, (if true = true then κ else 0) + o * z + b * z, none⟩) (b - b) (c - b), fun m => by simp [Instr.sliceAt, run_underlying hu, Instr.slice, hb m, sizeT_ok hz, addr_add], .inr (.inl ⟨rfl, by simp [yNsub], ?_⟩)⟩
             rw [Nat.sub_self]
             split
             · exact ⟨_, _, rfl, fun e => by cases e⟩
             · exact ⟨_, _, rfl, fun e => by cases e⟩
           by_cases hca : c = a
           · subst hca
             refine ⟨.slice (some ⟨bb, (if true = true then κ else 0) + o * z, none⟩) (b - c) (c - c), fun m => by simp [Instr.sliceAt, run_underlying hu, Instr.slice, hb m, sizeT_ok hz], .inr (.inl ⟨rfl, ?_, _, _, by rw [show b - c = 0 by omega], fun e => by cases e⟩)⟩
             simp only [yNsub]; omega
           · refine ⟨.slice (some ⟨bb, (if true = true then κ else 0) + o * z + a * z, none⟩) (b - a) (c - a), fun m => by simp [Instr.sliceAt, run_underlying hu, Instr.slice, hb m, sizeT_ok hz, hca, addr_add], .inr (.inr ⟨rfl, bb, κ, c - a, hM, ?_, ?_, ?_, fun e => by cases e⟩)⟩
             · simp only [yNsub, yNadd, Nat.add_mul, Nat.add_assoc]
             · simp only [yNsub]; omega
             · simp only [yNsub]; omega
       · cases hs
     · cases hs
   · rename_i hu
     split at hs
     · rename_i l hlS
       obtain rfl := yS_ok hlS rx
       split at hs
       · rename_i xa a xb b hl hh
         obtain ⟨q2, hs⟩ := yBound_ok hh r2 hs
         obtain ⟨q1, hs⟩ := yBound_ok hl r1 hs
         obtain rfl := T.sel_ret hs
         have hsz : (⟨l.toArray⟩ : ByteArray).size = l.length := by simp [ByteArray.size]
         have hb := fun m : World => bounds_runY (P := P) (isS := false) (cap := l.length) (len := l.length) q1 q2 (Nat.le_refl _) m
         refine ⟨.string ((⟨l.toArray⟩ : ByteArray).extract a b), fun m => ?_, ?_⟩
         · simp [Instr.sliceAt, run_underlying hu, Instr.slice, hsz, hb m]
         · simp only [AV.R, ySlice]
           congr 1
           apply ByteArray.ext
           simp [ByteArray.data_extract]
           try (rw [List.take_drop]; congr 1; omega)
       · cases hs
     · cases hs
   · cases hs
end
end Go.Proofs.YtinijejfhmcmdaaDoor.Ex
end
section
namespace Go.Proofs.YtinijejfhmcmdaaDoor.Ex
open Go
section
variable {P : Program} {M : Mp}
theorem nthA_lt : ∀ {l : List AV} {k : Nat}, k < l.length → ∃ a, nthA l k = some a
 | [], k, h => by simp at h
 | a :: l, 0, _ => ⟨a, rfl⟩
 | a :: l, k + 1, h => nthA_lt (l := l) (k := k) (by simpa using h)
theorem catLit_ok {z : Nat} : ∀ (m n : Nat) (f : Option (Nat → Nat → AV)) (new : List AV) (us : List Value), AV.RL M new us → us.length = m * z → (f = none → n = 0) →
   (∀ i, i < m → ∀ j, j < z → ∃ v, us[i * z + j]? = some v ∧ (orNp (catLit z m n f new) (n + i) j).R M v) ∧ (∀ f0, f = some f0 → ∀ i, i < n → ∀ j v, (f0 i j).R M v → (orNp (catLit z m n f new) i j).R M v)
 | 0, n, f, new, us, r, hl, hf => ⟨fun i hi => by omega, fun f0 e i _ j v h => by subst e; exact h⟩
 | m + 1, n, none, new, us, r, hl, hf => by
   obtain rfl := hf rfl
   have hl1 : us.length = m * z + z := by rw [hl, Nat.add_mul]; omega
   have hln := RL_length r
   obtain ⟨i1, i2⟩ := catLit_ok (z := z) m 1 (some fun _ j => match nthA new j with | some v => v | none => .np) (new.drop z) (us.drop z) (RL_drop z r) (by simp; omega) (fun e => by cases e)
   refine ⟨fun i hi j hj => ?_, fun f0 e => by cases e⟩
   cases i with
   | zero =>
     obtain ⟨a, ha⟩ := nthA_lt (l := new) (k := j) (by omega)
     obtain ⟨v, h1, h2⟩ := nthA_get ha r
     exact ⟨v, by simpa using h1, i2 _ rfl 0 (by omega) j v (by simp only [ha]; exact h2)⟩
   | succ i =>
     obtain ⟨v, h1, h2⟩ := i1 i (by omega) j hj
     rw [List.getElem?_drop] at h1
     refine ⟨v, ?_, ?_⟩
     · rw [← h1]; congr 1; rw [Nat.add_mul]; omega
     · rw [show 0 + (i + 1) = 1 + i by omega]; exact h2
 | m + 1, n, some f0, new, us, r, hl, hf => by
   have hl1 : us.length = m * z + z := by rw [hl, Nat.add_mul]; omega
   have hln := RL_length r
   obtain ⟨i1, i2⟩ := catLit_ok (z := z) m (n + 1) (some fun i j => match nthA new j with | some v => selA (yNlt i n) (f0 i j) v | none => f0 i j) (new.drop z) (us.drop z) (RL_drop z r) (by simp; omega) (fun e => by cases e)
   refine ⟨fun i hi j hj => ?_, fun f1 e i hi j v h => ?_⟩
   · cases i with
     | zero =>
       obtain ⟨a, ha⟩ := nthA_lt (l := new) (k := j) (by omega)
       obtain ⟨v, h1, h2⟩ := nthA_get ha r
       refine ⟨v, by simpa using h1, i2 _ rfl n (by omega) j v ?_⟩
       simp only [ha]
       exact selA_ok _ (by simp only [yNlt, Nat.lt_irrefl, decide_false, cond_false]; exact h2)
     | succ i =>
       obtain ⟨v, h1, h2⟩ := i1 i (by omega) j hj
       rw [List.getElem?_drop] at h1
       refine ⟨v, ?_, ?_⟩
       · rw [← h1]; congr 1; rw [Nat.add_mul]; omega
       · rw [show n + (i + 1) = n + 1 + i by omega]; exact h2
   · simp only [Option.some.injEq] at e; subst e
     refine i2 _ rfl i (by omega) j v ?_
     cases hn : nthA new j with
     | none => exact h
     | some a => exact selA_ok _ (by simp only [yNlt, hi, decide_true, cond_true]; exact h)
theorem src_cells {w : World} {z m c b base : Nat} {tx : TypeId} {g0 : Nat → Nat → AV} (hz : 0 < z) (hk : srcOk (P.underlying tx) = true)
   (hcell : ∀ i, i < m → ∀ j, j < z → ∃ v, (∀ m : World, m.heap = w.heap → m.cell? ⟨b, base + i * z + j, none⟩ = some v) ∧ v.oneCell' = true ∧ (g0 i j).R M v) :
   ∃ us, Src P z tx (.slice (some ⟨b, base, none⟩) m c) m us w ∧ us.length = m * z ∧ ∀ i, i < m → ∀ j, j < z → ∃ v, us[i * z + j]? = some v ∧ (g0 i j).R M v := by
 obtain ⟨us, hul, hus⟩ := list_of (Q := fun k v => (∀ m : World, m.heap = w.heap → m.cell? ⟨b, base + k, none⟩ = some v) ∧ v.oneCell' = true ∧ ∀ i j, i < m → j < z → k = i * z + j → (g0 i j).R M v) (m * z) (fun k hk => by
   have hi : k / z < m := (Nat.div_lt_iff_lt_mul hz).2 hk
   have hj : k % z < z := Nat.mod_lt _ hz
   obtain ⟨v, q1, q2, q3⟩ := hcell (k / z) hi (k % z) hj
   have hkz : k / z * z + k % z = k := by rw [Nat.mul_comm]; exact Nat.div_add_mod k z
   refine ⟨v, fun m hm => ?_, q2, fun i j hi' hj' e => ?_⟩
   · rw [← q1 m hm]; congr 2; omega
   · have : i = k / z := by
       by_cases h : i = k / z
       · exact h
       · exfalso; have := place_ne (i := k / z) (j := 0) (m := z) hj' (by omega) h; omega
     subst this
     have : j = k % z := by omega
     subst this
     exact q3)
 have hone : ∀ v ∈ us, v.oneCell' = true := fun v hv => by
   obtain ⟨k, hk⟩ := List.mem_iff_getElem?.1 hv
   exact (hus k v hk).2.1
 have h5 : ∀ j v, us[j]? = some v → w.cell? ((⟨b, base, none⟩ : Addr).add j) = some v := fun j v hj => by rw [addr_add]; exact (hus j v hj).1 w rfl
 have kind : (∃ e', P.underlying tx = some (.slice e')) ∨ P.underlying tx = some .string := by
   unfold srcOk at hk
   split at hk
   · rename_i e hu; exact .inl ⟨e, hu⟩
   · rename_i hu; exact .inr hu
   · cases hk
 refine ⟨us, ⟨kind, fun _ => rfl, run_firstCells_some w z m _ m _ us hul h5, run_firstCells_some w.drew z m _ m _ us hul (by simpa using h5), hul, hone⟩, hul, fun i hi j hj => ?_⟩
 have hlt : i * z + j < us.length := by rw [hul]; exact place_lt hi hj
 exact ⟨us[i * z + j], by simp, (hus (i * z + j) us[i * z + j] (by simp)).2.2 i j hi hj rfl⟩
theorem srcY_ok {h : AH} {w : World} {z n m : Nat} {f : Option (Nat → Nat → AV)} {g : Nat → Nat → AV} {x : AV} {X : Value} {tx : TypeId} (hz : 0 < z) (hs : (srcY h z n f x).sel = some (m, g)) (rx : x.R M X) (r : Rel M h w) (hk : srcOk (P.underlying tx) = true) (hf : f = none → n = 0) :
   ∃ us, Src P z tx X m us w ∧ us.length = m * z ∧ (∀ i, i < m → ∀ j, j < z → ∃ v, us[i * z + j]? = some v ∧ (g (n + i) j).R M v) ∧ (∀ f0, f = some f0 → ∀ i, i < n → ∀ j v, (f0 i j).R M v → (g i j).R M v) := by
 have lit : ∀ {x : AV} {new : List AV}, srcA h z x = some (m, new) → x.R M X → allCell new = true → g = orNp (catLit z m n f new) → ∃ us, Src P z tx X m us w ∧ us.length = m * z ∧ (∀ i, i < m → ∀ j, j < z → ∃ v, us[i * z + j]? = some v ∧ (g (n + i) j).R M v) ∧ (∀ f0, f = some f0 → ∀ i, i < n → ∀ j v, (f0 i j).R M v → (g i j).R M v) := by
   intro x new hsa rx hc hg
   obtain ⟨us, rn, hul, hlen, hS, _⟩ := srcA_ok (P := P) (tx := tx) hsa rx r hc
   obtain ⟨q1, q2⟩ := catLit_ok (z := z) m n f new us rn hul hf
   subst hg
   exact ⟨us, hS hk, hul, q1, q2⟩
 unfold srcY at hs
 split at hs
 · rename_i ro nil id z' o m'
   split at hs
   · rename_i ro' e' z2 k g0 hg
     cases hc : ((ro == ro') && Nat.beq z z' && Nat.beq z z2) with
     | false => rw [hc] at hs; cases hs
     | true =>
       rw [hc, cond_true] at hs
       simp only [Bool.and_eq_true, beq_iff_eq, nbeq, decide_eq_true_eq] at hc
       obtain ⟨⟨rfl, rfl⟩, rfl⟩ := hc
       obtain ⟨h1, h2⟩ := T.sel_must hs
       have h3 := T.sel_ret h2
       simp only [Prod.mk.injEq] at h3
       obtain ⟨rfl, hgg⟩ := h3
       have hle : o + m' ≤ k := of_decide_eq_true h1
       have hfg : ∀ i, g (n + i) = g0 (o + i) ∨ (∃ f0, f = some f0 ∧ ∀ j, g (n + i) j = selA false (f0 (n + i) j) (g0 (o + i) j)) := fun i => by
         subst hgg
         cases f with
         | none => obtain rfl := hf rfl; left; simp only [catF, yNadd, Nat.zero_add]
         | some f0 =>
           right
           refine ⟨f0, rfl, fun j => ?_⟩
           simp only [catF, yNlt, yNadd, yNsub]
           rw [show decide (n + i < n) = false by simp, show n + i - n = i by omega]
       have hfl : ∀ f0, f = some f0 → ∀ i, i < n → ∀ j v, (f0 i j).R M v → (g i j).R M v := fun f0 e i hi j v hv => by
         subst e; subst hgg
         simp only [catF, yNlt]
         exact selA_ok _ (by simp only [hi, decide_true, cond_true]; exact hv)
       simp only [AV.R] at rx
       rcases rx with ⟨rfl, rfl, rfl⟩ | ⟨rfl, rfl, p, c, rfl, _⟩ | ⟨rfl, b, κ, c, hM, rfl, hnc, _⟩
       · obtain ⟨us, rn, hul, hlen, hS, _⟩ := srcA_ok (P := P) (M := M) (h := h) (z := z) (n := 0) (x := .ns) (new := []) (tx := tx) rfl rfl r rfl
         exact ⟨us, hS hk, by simpa using hul, fun i hi => by omega, hfl⟩
       · obtain ⟨us, rn, hul, hlen, hS, _⟩ := srcA_ok (P := P) (M := M) (h := h) (z := z) (n := 0) (x := .es) (new := []) (tx := tx) rfl (X := .slice (some p) 0 c) ⟨_, _, rfl⟩ r rfl
         exact ⟨us, hS hk, by simpa using hul, fun i hi => by omega, hfl⟩
       · have hcell := arr_cell r hg hM
         obtain ⟨us, hS, hul, hus⟩ := src_cells (P := P) (M := M) (w := w) (m := m') (c := c) (b := b) (base := (if ro then κ else 0) + o * z) (tx := tx) (g0 := fun i j => g0 (o + i) j) hz hk (fun i hi j hj => by
           obtain ⟨v, q1, q2, q3⟩ := hcell (o + i) (by omega) j hj
           exact ⟨v, fun m hm => by rw [← q1 m hm]; congr 2; rw [Nat.add_mul]; omega, q2, q3⟩)
         refine ⟨us, hS, hul, fun i hi j hj => ?_, hfl⟩
         obtain ⟨v, q1, q2⟩ := hus i hi j hj
         refine ⟨v, q1, ?_⟩
         rcases hfg i with e | ⟨f0, _, e⟩
         · rw [e]; exact q2
         · rw [e]; exact selA_ok _ (by simpa using q2)
   · cases hs
 · rename_i xx nil z' m' g0
   simp only [nbeq, Bool.cond_decide] at hs
   split at hs
   case isFalse => cases hs
   rename_i hzz; subst hzz
   have h3 := T.sel_ret hs
   simp only [Prod.mk.injEq] at h3
   obtain ⟨rfl, hgg⟩ := h3
   have hfg : ∀ i, g (n + i) = g0 i ∨ (∃ f0, f = some f0 ∧ ∀ j, g (n + i) j = selA false (f0 (n + i) j) (g0 i j)) := fun i => by
     subst hgg
     cases f with
     | none => obtain rfl := hf rfl; left; simp only [catF, yNadd, Nat.zero_add]
     | some f0 =>
       right
       refine ⟨f0, rfl, fun j => ?_⟩
       simp only [catF, yNlt, yNadd, yNsub]
       rw [show decide (n + i < n) = false by simp, show 0 + (n + i - n) = i by omega]
   have hfl : ∀ f0, f = some f0 → ∀ i, i < n → ∀ j v, (f0 i j).R M v → (g i j).R M v := fun f0 e i hi j v hv => by
     subst e; subst hgg
     simp only [catF, yNlt]
     exact selA_ok _ (by simp only [hi, decide_true, cond_true]; exact hv)
   simp only [AV.R] at rx
   rcases rx with ⟨rfl, rfl, rfl⟩ | ⟨rfl, rfl, p, c, rfl, _⟩ | ⟨rfl, _, b, off, c, cs, rfl, hnc, _, hcs, hc⟩
   · obtain ⟨us, rn, hul, hlen, hS, _⟩ := srcA_ok (P := P) (M := M) (h := h) (z := z) (n := 0) (x := .ns) (new := []) (tx := tx) rfl rfl r rfl
     exact ⟨us, hS hk, by simpa using hul, fun i hi => by omega, hfl⟩
   · obtain ⟨us, rn, hul, hlen, hS, _⟩ := srcA_ok (P := P) (M := M) (h := h) (z := z) (n := 0) (x := .es) (new := []) (tx := tx) rfl (X := .slice (some p) 0 c) ⟨_, _, rfl⟩ r rfl
     exact ⟨us, hS hk, by simpa using hul, fun i hi => by omega, hfl⟩
   · obtain ⟨e, fr, hb⟩ := r.fz b cs hcs
     obtain ⟨us, hS, hul, hus⟩ := src_cells (P := P) (M := M) (w := w) (m := m') (c := c) (b := b) (base := off) (tx := tx) (g0 := g0) hz hk (fun i hi j hj => by
       obtain ⟨v, q1, q2, q3⟩ := hc i hi j hj
       exact ⟨v, fun m hm => by simp [World.cell?, hm, hb, q1], q2, q3⟩)
     refine ⟨us, hS, hul, fun i hi j hj => ?_, hfl⟩
     obtain ⟨v, q1, q2⟩ := hus i hi j hj
     refine ⟨v, q1, ?_⟩
     rcases hfg i with e | ⟨f0, _, e⟩
     · rw [e]; exact q2
     · rw [e]; exact selA_ok _ (by simpa using q2)
 · split at hs
   · rename_i m' new hsa
     cases hc : allCell new with
     | false => rw [hc] at hs; cases hs
     | true =>
       rw [hc, cond_true] at hs
       have h3 := T.sel_ret hs
       simp only [Prod.mk.injEq] at h3
       obtain ⟨rfl, rfl⟩ := h3
       exact lit hsa rx hc rfl
   · cases hs
theorem arr_obj {κ z len m : Nat} {e : TypeId} {olds us zs : List Value} {g : Nat → Nat → AV} (h1 : olds.length = len * z) (h2 : us.length = m * z) (h3 : (olds ++ us ++ zs).length = κ * z) (h4 : len + m ≤ κ)
   (ho : ∀ i, i < len → ∀ j, j < z → ∃ v, olds[i * z + j]? = some v ∧ v.oneCell' = true ∧ (g i j).R M v) (hn : ∀ i, i < m → ∀ j, j < z → ∃ v, us[i * z + j]? = some v ∧ v.oneCell' = true ∧ (g (len + i) j).R M v) :
   ObR M κ (.arr false e z (len + m) g) (.cells (olds ++ us ++ zs).toArray e (0, 0)) := by
 refine ⟨_, rfl, by simpa using h3, h4, fun i hi j hj => ?_⟩
 rw [List.getElem?_toArray]
 by_cases hlt : i < len
 · obtain ⟨v, q1, q2⟩ := ho i hlt j hj
   have := place_lt hlt hj
   exact ⟨v, by rw [List.append_assoc, List.getElem?_append_left (by omega)]; exact q1, q2⟩
 · obtain ⟨v, q1, q2⟩ := hn (i - len) (by omega) j hj
   rw [show len + (i - len) = i by omega] at q2
   have h5 : i * z = len * z + (i - len) * z := by rw [← Nat.add_mul]; congr 1; omega
   have h6 : (i - len) * z + j < us.length := by rw [h2]; exact place_lt (by omega) hj
   exact ⟨v, by rw [List.append_assoc, List.getElem?_append_right (by omega), List.getElem?_append_left (by omega), ← q1]; congr 1; omega, q2⟩
theorem growY_ok {h h' : AH} {w : World} {t tx ty e : TypeId} {i : TypeInfo} {z : Value} {base : Option Addr} {len cap n : Nat} {olds us : List Value} {g : Nat → Nat → AV} {X : Value} {nl : Bool}
   (hu : P.underlying t = some (.slice e)) (hi : P.info? e = some i) (hz : i.zero = some z) (hzs : z.cells.size = i.size)
   (ho : ∀ p, p < len → ∀ j, j < i.size → ∃ v, olds[p * i.size + j]? = some v ∧ v.oneCell' = true ∧ (g p j).R M v) (hnw : ∀ p, p < n → ∀ j, j < i.size → ∃ v, us[p * i.size + j]? = some v ∧ v.oneCell' = true ∧ (g (len + p) j).R M v)
   (hol : olds.length = len * i.size) (hold : (Builtin.firstCells i.size len (.slice base len cap)).run P w.drew = .ok olds.toArray w.drew) (hs : Src P i.size tx X n us w) (hcap : cap < len + n)
   (hg : growOk (len + n) i.bytes = true) (hb : 0 < i.bytes) (r : Rel M h w) (fr : M h.nx = none) (hn : h.new (.arr false e i.size (len + n) g) = some h') (hnl : nl = false) :
   Got P h h' M w (.ysl false nl h.nx i.size 0 (len + n)) (Builtin.append_ #[t, tx] ty #[.slice base len cap, X]) := by
 have hbd : 4 * (len + n) * i.bytes ≤ 140737488355328 := by simpa [growOk, nble] using hg
 have hbd2 : 4 * (len + n) * 1 ≤ 4 * (len + n) * i.bytes := Nat.mul_le_mul_left _ hb
 have hns := nextslicecap_le hcap
 have hfit : Builtin.nextslicecap (len + n) cap * i.bytes ≤ 281474976710656 := by
   have h1 := Nat.mul_le_mul_right i.bytes hns
   have h2 : 4 * (len + n) * i.bytes = 2 * (2 * (len + n) * i.bytes) := by rw [← Nat.mul_assoc]; congr 1; omega
   omega
 have hrun := run_append_grow_src (P := P) w t tx ty e i z hu hi hz base len cap olds hold X n us hs hcap (by omega) hfit
 have hgc := need_le_grown w (len + n) cap e
 have hnl' := hs.newsLen
 have hcs : ((olds ++ us).toArray ++ Builtin.zeroCells z.cells (grownCap w (len + n) cap e - (len + n))) = (olds ++ us ++ (Builtin.zeroCells z.cells (grownCap w (len + n) cap e - (len + n))).toList).toArray := by apply Array.ext'; simp
 have hob : ObR M (grownCap w (len + n) cap e) (.arr false e i.size (len + n) g) (.cells ((olds ++ us).toArray ++ Builtin.zeroCells z.cells (grownCap w (len + n) cap e - (len + n))) e (0, 0)) := by
   rw [hcs]
   exact arr_obj hol hnl' (grow_len (by rw [List.length_append, hol, hnl', Nat.add_mul]) hzs hgc) hgc ho hnw
 have rd : Rel M h w.drew := r.same rfl
 obtain ⟨q1, q2, q3⟩ := new_ok rd hn fr hob
 refine ⟨_, _, _, hrun, ?_, q1, q2.drew, q3⟩
 simp only [AV.R]
 exact .inr (.inr ⟨hnl, _, _, _, by simp [updM]; exact ⟨rfl, rfl⟩, by simp, hgc, by omega, fun _ => ⟨by simp, by omega⟩⟩)
theorem new_vac {h h' : AH} {w : World} {ao : AO} (r : Rel M h w) (hn : h.new ao = some h') (hM : M h.nx = none) (hv : ao.Vac) : Rel M h' w ∧ Fr h h' M M w w ∧ Ab h h' := by
 have hg := AH.get_new hn
 obtain ⟨hnx, hbs, hwl⟩ := AH.new_nx hn
 refine ⟨⟨fun id o e => ?_, fun i j b κ1 κ2 oi h0 hr h2 e1 e2 => ?_, fun x hx => ?_, r.gw, fun i b κ' o e1 hr e2 => ?_, r.fz, fun i b κ' o e1 hr e2 => ?_⟩, ⟨rfl, rfl, rfl, Nat.le_refl _, Le.refl M, fun _ e => absurd rfl e, fun _ _ _ => rfl, fun id b κ' o' e1 e2 => ?_, fun _ _ e => .inl e⟩, new_ab hn⟩
 · rw [hg] at e
   split at e
   · rename_i hid
     simp only [Option.some.injEq] at e; subst e
     exact .inl ⟨hv, by rw [hid]; exact hM⟩
   · exact r.obj id o e
 · rw [hg] at h0 h2
   by_cases hi : i = h.nx
   · rw [hi, hM] at e1; cases e1
   · by_cases hj : j = h.nx
     · rw [hj, hM] at e2; cases e2
     · exact r.inj i j b κ1 κ2 oi (by simpa [hi] using h0) hr (by simpa [hj] using h2) e1 e2
 · rw [hg] at hx
   by_cases hid : x = h.nx
   · omega
   · have := r.wf x (by simpa [hid] using hx); omega
 · by_cases hid : i = h.nx
   · rw [hid, hM] at e2; cases e2
   · rw [hg] at e1; exact r.gf i b κ' o (by simpa [hid] using e1) hr e2
 · by_cases hid : i = h.nx
   · rw [hid, hM] at e2; cases e2
   · rw [hg] at e1; exact r.fo i b κ' o (by simpa [hid] using e1) hr e2
 · by_cases hid : id = h.nx
   · rw [hid, hM] at e2; cases e2
   · rw [hg] at e1; exact .inr ⟨id, κ', o', by simpa [hid] using e1, e2, fun e => e⟩
end
end Go.Proofs.YtinijejfhmcmdaaDoor.Ex
end
section
namespace Go.Proofs.YtinijejfhmcmdaaDoor.Ex
open Go
section
variable {P : Program} {M : Mp}
theorem src_one {z m n : Nat} {tx : TypeId} {X : Value} {us : List Value} {w : World} {g : Nat → Nat → AV} (hS : Src P z tx X m us w) (q : ∀ i, i < m → ∀ j, j < z → ∃ v, us[i * z + j]? = some v ∧ (g (n + i) j).R M v) :
   ∀ i, i < m → ∀ j, j < z → ∃ v, us[i * z + j]? = some v ∧ v.oneCell' = true ∧ (g (n + i) j).R M v := fun i hi j hj => by
 obtain ⟨v, h1, h2⟩ := q i hi j hj
 exact ⟨v, h1, hS.one v (List.mem_of_getElem? h1), h2⟩
theorem newArr_sel {h h' : AH} {e : TypeId} {z m : Nat} {nil : Bool} {f : Nat → Nat → AV} {v : AV} (ha : (newArr h e z m nil f).sel = some (v, h')) : h.new (.arr false e z m f) = some h' ∧ v = .ysl false nil h.nx z 0 m := by
 unfold newArr at ha
 split at ha
 · rename_i h2 hn
   have h3 := T.sel_ret ha
   simp only [Prod.mk.injEq] at h3
   obtain ⟨rfl, rfl⟩ := h3
   exact ⟨hn, rfl⟩
 · cases ha
theorem catLit_none {z : Nat} : ∀ {m n : Nat} {f : Option (Nat → Nat → AV)} {new : List AV}, catLit z m n f new = none → m = 0
 | 0, _, _, _, _ => rfl
 | m + 1, n, none, new, h => by have := catLit_none (m := m) h; subst this; cases h
 | m + 1, n, some f, new, h => by have := catLit_none (m := m) h; subst this; cases h
set_option maxHeartbeats 2000000 in
theorem appendY_ok {h h' : AH} {w : World} {t tx ty : TypeId} {s x v : AV} {S X : Value} (ha : (appendY P h t (some tx) s x).sel = some (v, h')) (rs : s.R M S) (rx : x.R M X) (r : Rel M h w) (fr : Fresh M h h') :
   Got P h h' M w v (Builtin.append_ #[t, tx] ty #[S, X]) := by
 unfold appendY at ha
 split at ha
 · rename_i e hu
   split at ha
   · rename_i i za hi hza
     obtain ⟨z, hzr, rz, i', hi', hzz⟩ := zeroT_ok (M := M) hza
     rw [hi] at hi'
     simp only [Option.some.injEq] at hi'; subst hi'
     cases hcond : (srcOk ((some tx).bind P.underlying) && Nat.beq (cellsA za).length i.size && Nat.blt 0 i.bytes && Nat.blt 0 i.size) with
     | false => rw [hcond] at ha; cases ha
     | true =>
       rw [hcond, cond_true] at ha
       simp only [Option.bind_some, Bool.and_eq_true, nbeq, nblt, decide_eq_true_eq] at hcond
       obtain ⟨⟨⟨hk, hzl⟩, hby⟩, hsz⟩ := hcond
       have hzs : z.cells.size = i.size := by have := RL_length (cellsA_R rz); simp at this; omega
       -- nothing is there yet
       have start : ∀ {nil nl : Bool} {m : Nat} {f : Nat → Nat → AV} {base : Option Addr}, S = .slice base 0 0 → ((nil = true ∧ base = none) ∨ (nil = false ∧ ∃ a, base = some a)) → nl = (nil && decide (m = 0)) →
           (srcY h i.size 0 none x).sel = some (m, f) → growOk m i.bytes = true → h.new (.arr false e i.size m f) = some h' → v = .ysl false nl h.nx i.size 0 m →
           Got P h h' M w v (Builtin.append_ #[t, tx] ty #[S, X]) := by
         intro nil nl m f base hS hb hnl hsrc hgr hn hv
         obtain ⟨us, hSrc, hul, q1, _⟩ := srcY_ok (tx := tx) hsz hsrc rx r hk (fun _ => rfl)
         subst hS hv
         have hfr : M h.nx = none := fr h.nx (Nat.le_refl _) (by have := (AH.new_nx hn).1; omega)
         by_cases hm : m = 0
         · subst hm
           have : us = [] := List.length_eq_zero_iff.1 (by rw [hul]; simp)
           subst this
           obtain ⟨p1, p2, p3⟩ := new_vac r hn hfr (by simp [AO.Vac])
           refine ⟨M, .slice base 0 0, w, run_append_nothing w t tx ty e i hu hi base 0 0 (Nat.le_refl _) X hSrc, ?_, p1, p2, p3⟩
           simp only [AV.R]
           rcases hb with ⟨rfl, rfl⟩ | ⟨rfl, a, rfl⟩
           · exact .inl ⟨by simpa using hnl, by simp, rfl⟩
           · exact .inr (.inl ⟨by simpa using hnl, by simp, a, 0, rfl, fun _ => rfl⟩)
         · have hold : (Builtin.firstCells i.size 0 (.slice base 0 0)).run P w.drew = .ok ([] : List Value).toArray w.drew := by
             cases base with
             | none => exact run_firstCells_none w.drew i.size 0 0 0
             | some a => exact run_firstCells_some w.drew i.size 0 a 0 0 [] (by simp) (by simp)
           have g := growY_ok (P := P) (w := w) (ty := ty) (base := base) (len := 0) (cap := 0) (n := m) (olds := []) (us := us) (g := f) (nl := nl) hu hi hzz hzs (fun p hp => by omega) (src_one hSrc q1) (by simp) hold hSrc (by omega) (by simpa using hgr) hby r hfr (by simpa using hn) (by rw [hnl]; simp [hm])
           simpa using g
       -- a row without room behind it
       have full : ∀ {p : Option Addr} {n m : Nat} {fo : Option (Nat → Nat → AV)} {g : Nat → Nat → AV} {us0 : List Value} {sv : AV}, S = .slice p n n → Src P i.size t S n us0 w →
           (∀ q, q < n → ∀ j, j < i.size → ∃ v, us0[q * i.size + j]? = some v ∧ (orNp fo q j).R M v) → (srcY h i.size n fo x).sel = some (m, g) → (fo = none → n = 0) → sv.R M S →
           ((m = 0 ∧ v = sv ∧ h' = h) ∨ (m ≠ 0 ∧ growOk (n + m) i.bytes = true ∧ h.new (.arr false e i.size (n + m) g) = some h' ∧ v = .ysl false false h.nx i.size 0 (n + m))) →
           Got P h h' M w v (Builtin.append_ #[t, tx] ty #[S, X]) := by
         intro p n m fo g us0 sv hS h0 q0 hsrc hfo rsv hcase
         obtain ⟨us, hSrc, hul, q1, q2⟩ := srcY_ok (tx := tx) hsz hsrc rx r hk hfo
         rcases hcase with ⟨rfl, rfl, rfl⟩ | ⟨hm, hgr, hn, rfl⟩
         · have : us = [] := List.length_eq_zero_iff.1 (by rw [hul]; simp)
           subst this
           subst hS
           exact Got.pure r (run_append_nothing w t tx ty e i hu hi p n n (Nat.le_refl _) X hSrc) rsv
         · have hfr : M h.nx = none := fr h.nx (Nat.le_refl _) (by have := (AH.new_nx hn).1; omega)
           subst hS
           refine growY_ok (P := P) (w := w) (ty := ty) (base := p) (len := n) (cap := n) (n := m) (olds := us0) (us := us) (g := g) (nl := false) hu hi hzz hzs (fun q hq j hj => ?_) (src_one hSrc q1) h0.newsLen h0.cellsD hSrc (by omega) hgr hby r hfr hn rfl
           obtain ⟨u, k1, k2⟩ := q0 q hq j hj
           refine ⟨u, k1, h0.one u (List.mem_of_getElem? k1), ?_⟩
           cases fo with
           | none => have := hfo rfl; omega
           | some f0 => exact q2 f0 rfl q hq j u k2
       have hkt : srcOk (P.underlying t) = true := by rw [hu]; rfl
       split at ha
       · -- nil
         obtain ⟨⟨m, f⟩, hsrc, ha⟩ := T.sel_bind_some ha
         obtain ⟨hgr, ha⟩ := T.sel_must ha
         obtain ⟨hn, hv⟩ := newArr_sel ha
         exact start (nil := true) (base := none) (by simpa only [AV.R] using rs) (.inl ⟨rfl, rfl⟩) (by simp [yNeq]) hsrc hgr hn hv
       · -- empty, without room
         rename_i nil
         obtain ⟨⟨m, f⟩, hsrc, ha⟩ := T.sel_bind_some ha
         obtain ⟨hgr, ha⟩ := T.sel_must ha
         obtain ⟨hn, hv⟩ := newArr_sel ha
         simp only [AV.R] at rs
         rcases rs with ⟨rfl, hS⟩ | ⟨rfl, a, hS⟩
         · exact start (nil := true) (base := none) hS (.inl ⟨rfl, rfl⟩) (by simp [yNeq, yAnd]) hsrc hgr hn hv
         · exact start (nil := false) (base := some a) hS (.inr ⟨rfl, a, rfl⟩) (by simp [yAnd]) hsrc hgr hn hv
       · -- a list without room
         rename_i nil z' n f
         simp only [nbeq, Bool.cond_decide] at ha
         split at ha
         case isFalse => cases ha
         rename_i hz1; subst hz1
         obtain ⟨⟨m, g⟩, hsrc, ha⟩ := T.sel_bind_some ha
         obtain ⟨p, c, hS, hnc, hxc⟩ : ∃ p c, S = .slice p n c ∧ n ≤ c ∧ c = n := by
           have rs2 := rs
           simp only [AV.R] at rs2
           rcases rs2 with ⟨_, rfl, rfl⟩ | ⟨_, rfl, a, c, rfl, hx⟩ | ⟨_, _, bb, off, c, cs, rfl, h1, h2, _⟩
           · exact ⟨_, _, rfl, Nat.le_refl _, rfl⟩
           · exact ⟨_, _, rfl, Nat.zero_le _, hx trivial⟩
           · exact ⟨_, _, rfl, h1, h2 trivial⟩
         subst hxc
         obtain ⟨us0, h0, hul0, p1, _⟩ := srcY_ok (P := P) (M := M) (h := h) (w := w) (z := i.size) (n := 0) (m := c) (f := none) (g := catF 0 none 0 f) (x := .lst true nil i.size c f) (X := S) (tx := t) hsz (by simp [srcY, T.sel]) rs r hkt (fun _ => rfl)
         refine full (fo := some f) (sv := .lst true nil i.size c f) hS h0 (fun q hq j hj => by
           obtain ⟨u, k1, k2⟩ := p1 q hq j hj
           exact ⟨u, k1, by simpa [catF, yNadd, orNp] using k2⟩) hsrc (fun e => by cases e) rs ?_
         rcases T.sel_br ha with ⟨hm, ha⟩ | ⟨hm, ha⟩
         · have h3 := T.sel_ret ha
           simp only [Prod.mk.injEq] at h3
           exact .inl ⟨by simpa [yNeq] using hm, h3.1.symm, h3.2.symm⟩
         · obtain ⟨hgr, ha⟩ := T.sel_must ha
           obtain ⟨hn, hv⟩ := newArr_sel ha
           exact .inr ⟨by simpa [yNeq] using hm, hgr, hn, hv⟩
       · -- elements that are written out, without room
         rename_i id off len cap
         split at ha
         case h_2 => cases ha
         rename_i cc et gg hg
         split at ha
         case h_2 => cases ha
         rename_i old hold
         cases hc : (Nat.beq len cap && allCell old) with
         | false => rw [hc] at ha; cases ha
         | true =>
           rw [hc, cond_true] at ha
           simp only [Bool.and_eq_true, nbeq, decide_eq_true_eq] at hc
           obtain ⟨rfl, hac⟩ := hc
           obtain ⟨⟨m, g⟩, hsrc, ha⟩ := T.sel_bind_some ha
           have rs2 := rs
           simp only [AV.R] at rs2
           obtain ⟨b, κ, hM, hS⟩ := rs2
           simp only [Bool.false_eq_true, if_false] at hS
           obtain ⟨us0, h0, hul0, p1, _⟩ := srcY_ok (P := P) (M := M) (h := h) (w := w) (z := i.size) (n := 0) (m := len) (f := none) (g := orNp (catLit i.size len 0 none old)) (x := .sl id off len len false) (X := S) (tx := t) hsz (by simp [srcY, srcA, hg, hold, hac, T.sel]) rs r hkt (fun _ => rfl)
           refine full (fo := catLit i.size len 0 none old) (sv := .sl id off len len false) hS h0 (fun q hq j hj => by
             obtain ⟨u, k1, k2⟩ := p1 q hq j hj
             exact ⟨u, k1, by simpa using k2⟩) hsrc catLit_none rs ?_
           rcases T.sel_br ha with ⟨hm, ha⟩ | ⟨hm, ha⟩
           · have h3 := T.sel_ret ha
             simp only [Prod.mk.injEq] at h3
             exact .inl ⟨by simpa [yNeq] using hm, h3.1.symm, h3.2.symm⟩
           · obtain ⟨hgr, ha⟩ := T.sel_must ha
             obtain ⟨hn, hv⟩ := newArr_sel ha
             exact .inr ⟨by simpa [yNeq] using hm, hgr, hn, hv⟩
       · -- elements
         rename_i nil id z' n
         split at ha
         · rename_i e' z2 n' f hg
           cases hc : (Nat.beq z' i.size && Nat.beq z' z2 && Nat.beq e e') with
           | false => rw [hc] at ha; cases ha
           | true =>
             rw [hc, cond_true] at ha
             simp only [Bool.and_eq_true, nbeq, decide_eq_true_eq] at hc
             obtain ⟨⟨hz1, hz2⟩, rfl⟩ := hc
             subst hz2
             subst hz1
             obtain ⟨⟨m, g⟩, hsrc, ha⟩ := T.sel_bind_some ha
             obtain ⟨hnn, ha1⟩ := T.sel_must ha
             obtain ⟨hgr, ha2⟩ := T.sel_must ha1
             have hnn : n = n' := of_decide_eq_true hnn
             clear ha ha1
             subst hnn
             have ha := ha2
             clear ha2
             obtain ⟨us, hSrc, hul, q1, q2⟩ := srcY_ok (tx := tx) hsz hsrc rx r hk (fun e => by cases e)
             split at ha
             · rename_i h1 hd
               have hna := newArr_sel ha
               clear ha
               · obtain ⟨hn, hv⟩ := hna
                 obtain rfl := hv.symm
                 obtain ⟨rd1, rd2, rd3⟩ := del_ok r hd
                 have hnx1 := (AH.put_nx hd).1
                 have hnx2 := (AH.new_nx hn).1
                 have hfr : M h1.nx = none := fr h1.nx (by omega) (by omega)
                 -- where there is nothing
                 have empty : ∀ {base : Option Addr}, n = 0 → S = .slice base 0 0 → ((nil = true ∧ base = none) ∨ (nil = false ∧ ∃ a, base = some a)) → Got P h h' M w (.ysl false (yAnd nil (yNeq m 0)) h1.nx i.size 0 (yNadd n m)) (Builtin.append_ #[t, tx] ty #[S, X]) := by
                   intro base hn0 hS hb
                   subst hn0 hS
                   by_cases hm : m = 0
                   · subst hm
                     have : us = [] := List.length_eq_zero_iff.1 (by rw [hul]; simp)
                     subst this
                     obtain ⟨p1, p2, p3⟩ := new_vac rd1 hn hfr (by simp [AO.Vac, yNadd])
                     refine ⟨M, .slice base 0 0, w, run_append_nothing w t tx ty e i hu hi base 0 0 (Nat.le_refl _) X hSrc, ?_, p1, rd2.trans rd3.nx p3.nx p2, rd3.trans p3⟩
                     simp only [AV.R]
                     rcases hb with ⟨rfl, rfl⟩ | ⟨rfl, a, rfl⟩
                     · exact .inl ⟨by simp [yAnd, yNeq], rfl, rfl⟩
                     · exact .inr (.inl ⟨by simp [yAnd], rfl, a, 0, rfl, fun _ => rfl⟩)
                   · have hold : (Builtin.firstCells i.size 0 (.slice base 0 0)).run P w.drew = .ok ([] : List Value).toArray w.drew := by
                       cases base with
                       | none => exact run_firstCells_none w.drew i.size 0 0 0
                       | some a => exact run_firstCells_some w.drew i.size 0 a 0 0 [] (by simp) (by simp)
                     refine Got.after rd2 rd3 ?_
                     exact growY_ok (P := P) (w := w) (ty := ty) (base := base) (len := 0) (cap := 0) (n := m) (olds := []) (us := us) (g := g) (nl := yAnd nil (yNeq m 0)) hu hi hzz hzs (fun p hp => by omega) (src_one hSrc q1) (by simp) hold hSrc (by omega) (by simpa [yGrow, yNadd] using hgr) hby rd1 hfr (by simpa [yNadd] using hn) (by simp [yAnd, yNeq, hm])
                 simp only [AV.R] at rs
                 rcases rs with ⟨rfl, hn0, rfl⟩ | ⟨rfl, hn0, p, c, rfl, hc0⟩ | ⟨rfl, b, κ, c, hM, rfl, hnc, hn0, hcc⟩
                 · exact empty hn0 rfl (.inl ⟨rfl, rfl⟩)
                 · obtain rfl : c = 0 := hc0 trivial
                   exact empty hn0 rfl (.inr ⟨rfl, p, rfl⟩)
                 · obtain ⟨hcκ, hle⟩ := hcc trivial
                   have hcκ : κ = c := by simpa using hcκ.symm
                   subst hcκ
                   simp only [Nat.zero_add, Nat.zero_mul, Bool.false_eq_true, if_false] at hle ⊢
                   obtain ⟨ob, hb, cs, rfl, hcs, hnκ, q⟩ := Ob_of r hg hM
                   have hcell := arr_cell r hg hM
                   have ho : ∀ p, p < n → ∀ j, j < i.size → ∃ v, cs[p * i.size + j]? = some v ∧ v.oneCell' = true ∧ (g p j).R M v := fun p hp j hj => by
                     obtain ⟨v, k1, k2, k3⟩ := q p hp j hj
                     exact ⟨v, k1, k2, q2 f rfl p hp j v k3⟩
                   by_cases hin : n + m ≤ κ
                   · -- in its own place
                     have hfit : n * i.size + us.length ≤ cs.size := by
                       have := Nat.mul_le_mul_right i.size hin
                       rw [Nat.add_mul] at this
                       rw [hcs, hul]; exact this
                     have hst := run_storeCells_at P b (n * i.size) e us 0 cs w hb (by simpa using hfit) hSrc.one
                     simp only [Nat.add_zero] at hst
                     obtain ⟨row, hrow⟩ : ∃ row, row = (cs.toList.take (n * i.size) ++ us ++ cs.toList.drop (n * i.size + us.length)).toArray := ⟨_, rfl⟩
                     rw [← hrow] at hst
                     have hob : ObR M κ (.arr false e i.size (yNadd n m) g) (.cells row e (0, 0)) := by
                       refine ⟨row, rfl, by rw [hrow]; simp; rw [← hcs]; omega, hin, fun p hp j hj => ?_⟩
                       have hp : p < n + m := hp
                       have hg2 : row[p * i.size + j]? = if n * i.size ≤ p * i.size + j ∧ p * i.size + j < n * i.size + us.length then us[p * i.size + j - n * i.size]? else cs[p * i.size + j]? := by
                         rw [hrow, List.getElem?_toArray, row_get (by simpa using hfit)]; split <;> simp
                       by_cases hpn : p < n
                       · have := place_lt hpn hj
                         rw [hg2, if_neg (by omega)]
                         exact ho p hpn j hj
                       · obtain ⟨v, k1, k2, k3⟩ := src_one hSrc q1 (p - n) (by omega) j hj
                         have h5 : p * i.size = n * i.size + (p - n) * i.size := by rw [← Nat.add_mul]; congr 1; omega
                         have h6 : (p - n) * i.size + j < us.length := by rw [hul]; exact place_lt (by omega) hj
                         rw [hg2, if_pos (by omega)]
                         refine ⟨v, by rw [← k1]; congr 1; omega, k2, ?_⟩
                         rwa [show n + (p - n) = p by omega] at k3
                     obtain ⟨p1, p2, p3⟩ := re_ok (κ := κ) (w' := w.setRow b row) r hg hM hd hn (by rw [← hnx1]; exact hfr) (upd_setRow hb) hob
                     refine ⟨_, .slice (some ⟨b, 0, none⟩) (n + m) κ, _, ?_, ?_, p1, p2, p3⟩
                     · rcases hSrc.kind with ⟨e2, hk2⟩ | hk2 <;> simp [Builtin.append_, run_underlying hu, run_underlying hk2, sizeOf, typeInfo, hi, hSrc.len, hin, hSrc.cells, addr_add, hst]
                     · simp only [AV.R]
                       exact .inr (.inr ⟨by simp [yAnd], b, κ, κ, by simp [updM, hnx1], by simp [yNadd], by simpa [yNadd] using hin, by simp [yNadd]; omega, fun _ => ⟨by simp, by simpa [yNadd] using hin⟩⟩)
                   · -- in a new one
                     refine Got.after rd2 rd3 ?_
                     have hcl : n * i.size ≤ cs.size := by rw [hcs]; exact Nat.mul_le_mul_right _ hnκ
                     have hold : (Builtin.firstCells i.size n (.slice (some ⟨b, 0, none⟩) n κ)).run P w.drew = .ok (cs.toList.take (n * i.size)).toArray w.drew := by
                       refine run_firstCells_some w.drew i.size n ⟨b, 0, none⟩ n κ _ (by simp; omega) (fun j v hj => ?_)
                       rw [List.getElem?_take] at hj
                       split at hj
                       · rw [addr_add]
                         show w.cell? _ = _
                         simp only [Array.getElem?_toList] at hj
                         simp [World.cell?, hb, hj]
                       · cases hj
                     have := growY_ok (P := P) (w := w) (ty := ty) (base := some ⟨b, 0, none⟩) (len := n) (cap := κ) (n := m) (olds := cs.toList.take (n * i.size)) (us := us) (g := g) (nl := yAnd false (yNeq m 0)) hu hi hzz hzs (fun p hp j hj => by
                       obtain ⟨v, k1, k2⟩ := ho p hp j hj
                       exact ⟨v, by rw [List.getElem?_take, if_pos (place_lt hp hj), Array.getElem?_toList]; exact k1, k2⟩) (src_one hSrc q1) (by simp; omega) hold hSrc (by omega) (by simpa [yGrow, yNadd] using hgr) hby rd1 hfr (by simpa [yNadd] using hn) (by simp [yAnd])
                     simpa [yNadd] using this
             · cases ha
         · cases ha
       · -- a row of no elements, with room behind it
         rename_i id
         split at ha
         case h_2 => cases ha
         rename_i e' z' hg
         cases hc : (Nat.beq z' i.size && Nat.beq e e') with
         | false => rw [hc] at ha; cases ha
         | true =>
           rw [hc, cond_true] at ha
           simp only [Bool.and_eq_true, nbeq, decide_eq_true_eq] at hc
           obtain ⟨hz1, rfl⟩ := hc
           subst hz1
           obtain ⟨⟨m, g⟩, hsrc, ha⟩ := T.sel_bind_some ha
           obtain ⟨us, hSrc, hul, q1, _⟩ := srcY_ok (tx := tx) hsz hsrc rx r hk (fun _ => rfl)
           have rs2 := rs
           simp only [AV.R] at rs2
           obtain ⟨b, κ, hM, hS⟩ := rs2
           simp only [if_true, Nat.sub_zero] at hS
           rcases T.sel_br ha with ⟨hm, ha⟩ | ⟨hm, ha⟩
           · have h3 := T.sel_ret ha
             simp only [Prod.mk.injEq] at h3
             obtain ⟨rfl, rfl⟩ := h3
             have hm0 : m = 0 := by simpa [yNeq] using hm
             have : us = [] := List.length_eq_zero_iff.1 (by rw [hul, hm0]; simp)
             subst this
             subst hm0
             have hS2 := hS
             subst hS2
             exact Got.pure r (run_append_nothing w t tx ty e i hu hi _ 0 κ (Nat.zero_le _) X hSrc) rs
           · obtain ⟨hgr, ha⟩ := T.sel_must ha
             split at ha
             case h_2 => cases ha
             rename_i h1 hd
             obtain ⟨hn, hv⟩ := newArr_sel ha
             subst hv hS
             have hm0 : m ≠ 0 := by simpa [yNeq] using hm
             obtain ⟨rd1, rd2, rd3⟩ := del_ok r hd
             have hnx1 := (AH.put_nx hd).1
             have hnx2 := (AH.new_nx hn).1
             have hfr : M h1.nx = none := fr h1.nx (by omega) (by omega)
             obtain ⟨ob, hb, vs, rest, rl, rfl, hκ⟩ := Ob_of r hg hM
             simp only [AV.RL] at rl
             subst rl
             simp only [List.nil_append] at hb hκ
             by_cases hin : m ≤ κ
             · have hfit : us.length ≤ rest.length := by
                 have := Nat.mul_le_mul_right i.size hin
                 rw [hul]; omega
               have hst := run_storeCells_at P b 0 e us 0 rest.toArray w hb (by simpa using hfit) hSrc.one
               simp only [Nat.zero_add, List.take_zero, List.nil_append] at hst
               obtain ⟨row, hrow⟩ : ∃ row, row = (us ++ rest.drop us.length).toArray := ⟨_, rfl⟩
               rw [← hrow] at hst
               have hob : ObR M κ (.arr false e i.size m g) (.cells row e (0, 0)) := by
                 refine ⟨row, rfl, by rw [hrow]; simp; omega, hin, fun p hp j hj => ?_⟩
                 obtain ⟨v, k1, k2, k3⟩ := src_one hSrc q1 p hp j hj
                 have h6 : p * i.size + j < us.length := by rw [hul]; exact place_lt hp hj
                 refine ⟨v, ?_, k2, by simpa using k3⟩
                 rw [hrow, List.getElem?_toArray, List.getElem?_append_left h6]; exact k1
               obtain ⟨p1, p2, p3⟩ := re_ok (κ := κ) (w' := w.setRow b row) r hg hM hd hn (by rw [← hnx1]; exact hfr) (upd_setRow hb) hob
               refine ⟨_, .slice (some ⟨b, 0, none⟩) m κ, _, ?_, ?_, p1, p2, p3⟩
               · rcases hSrc.kind with ⟨e2, hk2⟩ | hk2 <;> simp [Builtin.append_, run_underlying hu, run_underlying hk2, sizeOf, typeInfo, hi, hSrc.len, hin, hSrc.cells, addr_add, hst]
               · simp only [AV.R]
                 exact .inr (.inr ⟨trivial, b, κ, κ, by simp [updM, hnx1], by simp, hin, by omega, fun _ => ⟨by simp, by simpa using hin⟩⟩)
             · refine Got.after rd2 rd3 ?_
               have hold : (Builtin.firstCells i.size 0 (.slice (some ⟨b, 0, none⟩) 0 κ)).run P w.drew = .ok ([] : List Value).toArray w.drew := run_firstCells_some w.drew i.size 0 ⟨b, 0, none⟩ 0 κ [] (by simp) (by simp)
               have := growY_ok (P := P) (w := w) (ty := ty) (base := some ⟨b, 0, none⟩) (len := 0) (cap := κ) (n := m) (olds := []) (us := us) (g := g) (nl := false) hu hi hzz hzs (fun p hp => by omega) (src_one hSrc q1) (by simp) hold hSrc (by omega) (by simpa [yGrow] using hgr) hby rd1 hfr (by simpa using hn) rfl
               simpa using this
       · cases ha
   · cases ha
 · cases ha
theorem makeSliceY_ok {h h' : AH} {w : World} {t : TypeId} {l c v : AV} {L C : Value} (hb : (makeSliceY P h t l c).sel = some (v, h')) (rl : l.R M L) (rc : c.R M C) (r : Rel M h w) (fr : Fresh M h h') :
   Got P h h' M w v (Instr.makeSlice t L C) := by
 unfold makeSliceY at hb
 split at hb
 · rename_i k l k' c
   simp only [AV.R] at rl rc; subst rl rc
   split at hb
   · rename_i e hu
     split at hb
     · rename_i i za hi hza
       obtain ⟨z, hzr, rz, i', hi', hzz⟩ := zeroT_ok (M := M) hza
       rw [hi] at hi'
       simp only [Option.some.injEq] at hi'; subst hi'
       cases hcond : (Nat.beq (cellsA za).length i.size && Nat.blt 0 i.bytes && Nat.blt 0 i.size && allCell (cellsA za)) with
       | false => rw [hcond] at hb; cases hb
       | true =>
         rw [hcond, cond_true] at hb
         simp only [Bool.and_eq_true, nbeq, nblt, decide_eq_true_eq] at hcond
         obtain ⟨⟨⟨hzl, hby⟩, hsz⟩, hall⟩ := hcond
         obtain ⟨h1, hb1⟩ := T.sel_must hb
         obtain ⟨h2, hb2⟩ := T.sel_must hb1
         obtain ⟨h3, hb3⟩ := T.sel_must hb2
         have h1 : 0 ≤ l := of_decide_eq_true h1
         have h2 : l = c := of_decide_eq_true h2
         clear hb hb1 hb2
         subst h2
         have hb := hb3
         clear hb3
         obtain ⟨n, rfl⟩ : ∃ n : Nat, l = n := ⟨l.toNat, by omega⟩
         have hnn : yNat (n : Int) = n := by simp [yNat]
         rw [hnn] at h3 hb
         have hgr : 4 * n * i.bytes ≤ 140737488355328 := by simpa [yGrow, growOk, nble] using h3
         have hgr2 : n * 1 ≤ n * i.bytes := Nat.mul_le_mul_left _ hby
         have hgr3 : n * i.bytes ≤ 140737488355328 := by rw [Nat.mul_assoc] at hgr; omega
         split at hb
         · rename_i h4 hn
           have h5 := T.sel_ret hb
           simp only [Prod.mk.injEq] at h5
           obtain ⟨rfl, rfl⟩ := h5
           have hfr : M h.nx = none := fr h.nx (Nat.le_refl _) (by have := (AH.new_nx hn).1; omega)
           have rlz := cellsA_R rz
           have hlen := RL_length rlz
           have hm : n * i.size = n * z.cells.size := by simp at hlen; rw [hlen, hzl]
           have hrz := rep_zero hm
           have hone := allCell_one rlz hall
           have hob : ObR M n (.arr false e i.size n (fun _ j => match nthA (cellsA za) j with | some v => v | none => .np)) (.cells (repV n z.cells.toList).toArray e (0, 0)) := by
             refine ⟨_, rfl, by simp [repV_len]; simp at hlen; rw [hlen, hzl], Nat.le_refl _, fun p hp j hj => ?_⟩
             have hzc : z.cells.toList.length = i.size := by rw [hlen, hzl]
             have hpl := place_lt hp hj
             have hmod : (p * i.size + j) % z.cells.toList.length = j := by
               rw [hzc, Nat.mul_comm, Nat.mul_add_mod, Nat.mod_eq_of_lt hj]
             obtain ⟨a, ha⟩ := nthA_lt (l := cellsA za) (k := j) (by omega)
             obtain ⟨v, q1, q2⟩ := nthA_get ha rlz
             refine ⟨v, ?_, hone v (List.mem_of_getElem? q1), by simp only [ha]; exact q2⟩
             rw [List.getElem?_toArray, repV_get z.cells.toList undef n _ (by rw [hzc]; exact hpl), hmod]
             rw [List.getD_eq_getElem?_getD, q1]; rfl
           obtain ⟨p1, p2, p3⟩ := new_ok r hn hfr hob
           refine ⟨_, .slice (some ⟨w.heap.size, 0, none⟩) n n, _, ?_, ?_, p1, p2, p3⟩
           · have hwl : IntKind.i64.wrap (n : Int) = n := wrap_id _ _ (by simp only [negLim]; omega) (by simp only [posLim]; omega)
             have hno : ¬ (281474976710656 < (i.bytes : Int) * (n : Int)) := by
               have : ((n * i.bytes : Nat) : Int) ≤ ((140737488355328 : Nat) : Int) := Int.ofNat_le.2 hgr3
               rw [Int.natCast_mul, Int.mul_comm] at this; omega
             have hsi := run_typeInfo' hi
             have hnn' : ¬ ((n : Int) < 0) := by omega
             by_cases h0 : n = 0 ∨ i.size = 0
             · have hn0 : n = 0 := by omega
               subst hn0
               have e0 : ∀ d : Value, Array.map (fun _ : Nat => d) (Array.range 0) = #[] := fun _ => Array.eq_empty_of_size_eq_zero (by simp)
               have hw0 : IntKind.i64.wrap 0 = 0 := by simpa using hwl
               simp [Instr.makeSlice, run_underlying hu, asInt, asIntOf, hsi, hw0, sizeOf, e0, newRow, repV]
             · simp [Instr.makeSlice, run_underlying hu, asInt, asIntOf, hsi, hwl, hno, hnn', sizeOf, hzr, hrz, newRow]
               try (intro hh; exfalso; rcases Nat.mul_eq_zero.1 hh with hh | hh <;> omega)
           · simp only [AV.R]
             by_cases hn0 : n = 0
             · subst hn0; exact .inr (.inl ⟨trivial, rfl, _, 0, rfl, fun _ => rfl⟩)
             · exact .inr (.inr ⟨trivial, _, _, n, by simp [updM]; exact ⟨rfl, rfl⟩, by simp, Nat.le_refl _, by omega, fun _ => ⟨by simp, by omega⟩⟩)
         · cases hb
     · cases hb
   · cases hb
 · cases hb
theorem yStr_rel {n : Nat} {g : Nat → Nat → AV} {us : List Value} (hul : us.length = n) (h : ∀ i, i < n → ∃ v, us[i]? = some v ∧ (g i 0).R M v) (h8 : yU8 n g = true) :
   ∃ ns : List Int, us = ns.map (Value.int .u8) ∧ yStr n g = ns.map fun n => UInt8.ofNat n.toNat := by
 have k8 : ∀ i, i < n → ∃ m, yI (g i 0) = some (.u8, m) := fun i hi => by
   have := List.all_eq_true.1 h8 i (List.mem_range.2 hi)
   unfold u8A at this
   split at this
   · rename_i k m e
     obtain rfl := eqK_eq this
     exact ⟨m, e⟩
   · cases this
 refine ⟨(List.range n).map fun i => (match yI (g i 0) with | some (_, m) => m | none => 0), ?_, ?_⟩
 · apply List.ext_getElem?
   intro i
   by_cases hi : i < n
   · obtain ⟨m, e⟩ := k8 i hi
     obtain ⟨v, h1, h2⟩ := h i hi
     rw [h1]
     simp only [List.map_map, List.getElem?_map, List.getElem?_range hi, Option.map_some, Function.comp_apply, e, Option.some.injEq]
     exact yI_ok e h2
   · rw [List.getElem?_eq_none (by omega), List.getElem?_eq_none (by simp; omega)]
 · unfold yStr
   rw [List.map_map]
   apply List.map_congr_left
   intro i hi
   obtain ⟨m, e⟩ := k8 i (List.mem_range.1 hi)
   simp only [byteA, Function.comp_apply, e]
end
end Go.Proofs.YtinijejfhmcmdaaDoor.Ex
end
section
namespace Go.Proofs.YtinijejfhmcmdaaDoor.Ex
open Go
section
variable {P : Program} {M : Mp}
theorem valT_some {h : AH} {t : T AV} {out : OutA} (e : (valT h t).sel = some out) : ∃ v, t.sel = some v ∧ out = .val v h := by
 obtain ⟨a, h1, h2⟩ := T.sel_bind_some e
 exact ⟨a, h1, (T.sel_ret h2).symm⟩
theorem valT2_some {t : T (AV × AH)} {out : OutA} (e : (valT2 t).sel = some out) : ∃ v h', t.sel = some (v, h') ∧ out = .val v h' := by
 obtain ⟨⟨a, b⟩, h1, h2⟩ := T.sel_bind_some e
 exact ⟨a, b, h1, (T.sel_ret h2).symm⟩
theorem unY_ok {op : UnOp} {x v : AV} {X : Value} (h : (unY op x).sel = some v) (rx : x.R M X) : ∃ u, (∀ w, (Op.unary op X).run P w = .ok u w) ∧ v.R M u := by
 unfold unY at h
 split at h <;> first | (cases h; done) | (obtain rfl := T.sel_ret h; simp only [AV.R] at rx; subst rx)
 · exact ⟨_, fun w => by simp only [Op.unary]; rfl, rfl⟩
 · rename_i k n; exact ⟨.int k (k.wrap (0 - n)), fun w => by simp [Op.unary, Op.intArith], rfl⟩
 · exact ⟨_, fun w => by simp only [Op.unary, intBits_eq (.inr (.inr (.inl rfl)))]; rfl, by simp only [AV.R, Bool.cond_eq_ite]⟩
theorem convY_ok {src dst : TypeId} {x v : AV} {y : Value} (h : (convY P src dst x).sel = some v) (rx : x.R M y) : ∃ u, (∀ w, (convert src dst y).run P w = .ok u w) ∧ v.R M u := by
 unfold convY at h
 split at h
 · rename_i d k k' n hs hd
   obtain rfl := T.sel_ret h
   simp only [AV.R] at rx; subst rx
   exact ⟨.int k (k.wrap n), fun w => by simp [convert, run_underlying hs, run_underlying hd, Conv.intToInt], rfl⟩
 · rename_i d l hs hd
   obtain rfl := T.sel_ret h
   simp only [AV.R] at rx; subst rx
   exact ⟨.string ⟨l.toArray⟩, fun w => by simp [convert, run_underlying hs, run_underlying hd], rfl⟩
 · cases h
theorem convHY_ok {h : AH} {w : World} {src dst : TypeId} {x v : AV} {y : Value} (e : (convHY P h src dst x).sel = some v) (rx : x.R M y) (r : Rel M h w) : ∃ u, (convert src dst y).run P w = .ok u w ∧ v.R M u := by
 unfold convHY at e
 cases hx : slV x with
 | false =>
   rw [hx] at e
   obtain ⟨u, h1, h2⟩ := convY_ok (P := P) e rx
   exact ⟨u, h1 w, h2⟩
 | true =>
   rw [hx, cond_true] at e
   cases hb : byteSl P src dst with
   | false => rw [hb] at e; cases e
   | true =>
     rw [hb, cond_true] at e
     obtain ⟨⟨n, f⟩, e1, e2⟩ := T.sel_bind_some e
     obtain ⟨h8, e3⟩ := T.sel_must e2
     obtain rfl := T.sel_ret e3
     obtain ⟨el, t1, _, _⟩ := byteSl_ok hb
     obtain ⟨us, hS, hul, q1, _⟩ := srcY_ok (P := P) (tx := src) (by omega) e1 rx r (by simp [srcOk, t1]) (fun _ => rfl)
     rw [Nat.mul_one] at hul
     obtain ⟨ns, rfl, e4⟩ := yStr_rel hul (fun i hi => by
       obtain ⟨v, a, b⟩ := q1 i hi 0 (by omega)
       exact ⟨v, by simpa using a, by simpa using b⟩) h8
     simp only [List.length_map] at hul
     have hX : ∃ a m c, y = .slice a m c := by
       cases x <;> simp only [slV, Bool.false_eq_true] at hx <;> simp only [AV.R] at rx
       · obtain ⟨b, c, hM, rfl⟩ := rx; exact ⟨_, _, _, rfl⟩
       · exact ⟨_, _, _, rx⟩
       · obtain ⟨a, c, rfl⟩ := rx; exact ⟨_, _, _, rfl⟩
       · rcases rx with ⟨_, _, rfl⟩ | ⟨_, _, a, c, rfl, _⟩ | ⟨_, b, c, d, _, rfl, _⟩ <;> exact ⟨_, _, _, rfl⟩
       · rcases rx with ⟨_, rfl⟩ | ⟨_, a, rfl⟩ <;> exact ⟨_, _, _, rfl⟩
       · rcases rx with ⟨_, _, rfl⟩ | ⟨_, _, a, c, rfl, _⟩ | ⟨_, _, b, off, c, cs, rfl, _⟩ <;> exact ⟨_, _, _, rfl⟩
     obtain ⟨a, m, c, rfl⟩ := hX
     have hl := hS.len w
     have hmn : m = (ns.map (Value.int .u8)).length := by
       have h1 : (Result.ok m w : Result Nat) = _ := hl
       simp only [Result.ok.injEq, and_true] at h1
       simp [h1, hul]
     simp only [List.length_map] at hmn
     subst hmn
     exact ⟨_, convBytes hb ⟨_, _, rfl⟩ rfl (by have h5 := hS.cells; rw [← hul] at h5; exact h5), by simp only [AV.R, e4]⟩
theorem minY_ok {ty : TypeId} {tys : Array TypeId} {x y v : AV} {X Y : Value} (ha : (minY x y).sel = some v) (rx : x.R M X) (ry : y.R M Y) : ∃ u, (∀ w, (Builtin.min_ tys ty #[X, Y]).run P w = .ok u w) ∧ v.R M u := by
 unfold minY at ha
 split at ha
 · rename_i k a k' b h1 h2
   cases hk : eqK k k' with
   | false => rw [hk] at ha; cases ha
   | true =>
     rw [hk] at ha
     obtain rfl := eqK_eq hk
     obtain rfl := T.sel_ret ha
     obtain rfl := yI_ok h1 rx
     obtain rfl := yI_ok h2 ry
     refine ⟨.int k (if b < a then b else a), fun w => by simp [Builtin.min_, Builtin.min2], ?_⟩
     simp only [AV.R, ySel, yLt, Bool.cond_decide]
 · cases ha
theorem maxY_ok {ty : TypeId} {tys : Array TypeId} {x y v : AV} {X Y : Value} (ha : (maxY x y).sel = some v) (rx : x.R M X) (ry : y.R M Y) : ∃ u, (∀ w, (Builtin.max_ tys ty #[X, Y]).run P w = .ok u w) ∧ v.R M u := by
 unfold maxY at ha
 split at ha
 · rename_i k a k' b h1 h2
   cases hk : eqK k k' with
   | false => rw [hk] at ha; cases ha
   | true =>
     rw [hk] at ha
     obtain rfl := eqK_eq hk
     obtain rfl := T.sel_ret ha
     obtain rfl := yI_ok h1 rx
     obtain rfl := yI_ok h2 ry
     refine ⟨.int k (if a < b then b else a), fun w => by simp [Builtin.max_, Builtin.max2], ?_⟩
     simp only [AV.R, ySel, yLt, Bool.cond_decide]
 · cases ha
theorem lenY_ok {w : World} {t ty : TypeId} {x v : AV} {X : Value} (ha : (lenY P t x).sel = some v) (rx : x.R M X) : ∃ u, (Builtin.len_ #[t] ty #[X]).run P w = .ok u w ∧ v.R M u := by
 unfold lenY at ha
 split at ha
 · rename_i e ro nil id z o n hu
   obtain rfl := T.sel_ret ha
   have : ∃ p c, X = .slice p n c := by
     simp only [AV.R] at rx
     rcases rx with ⟨_, rfl, rfl⟩ | ⟨_, rfl, a, c, rfl, _⟩ | ⟨_, b, κ, c, _, rfl, _⟩ <;> exact ⟨_, _, rfl⟩
   obtain ⟨p, c, rfl⟩ := this
   exact ⟨.int .i64 n, by simp [Builtin.len_, run_underlying hu, goInt], rfl⟩
 · rename_i e xx nil z n f hu
   obtain rfl := T.sel_ret ha
   have : ∃ p c, X = .slice p n c := by
     simp only [AV.R] at rx
     rcases rx with ⟨_, rfl, rfl⟩ | ⟨_, rfl, a, c, rfl, _⟩ | ⟨_, _, b, off, c, cs, rfl, _⟩ <;> exact ⟨_, _, rfl⟩
   obtain ⟨p, c, rfl⟩ := this
   exact ⟨.int .i64 n, by simp [Builtin.len_, run_underlying hu, goInt], rfl⟩
 · rename_i e nil hu
   obtain rfl := T.sel_ret ha
   have : ∃ p c, X = .slice p 0 c := by
     simp only [AV.R] at rx
     rcases rx with ⟨_, rfl⟩ | ⟨_, a, rfl⟩ <;> exact ⟨_, _, rfl⟩
   obtain ⟨p, c, rfl⟩ := this
   exact ⟨.int .i64 0, by simp [Builtin.len_, run_underlying hu, goInt], rfl⟩
 · rename_i l hu
   obtain rfl := T.sel_ret ha
   simp only [AV.R] at rx; subst rx
   have hsz : (⟨l.toArray⟩ : ByteArray).size = l.length := by simp [ByteArray.size]
   exact ⟨.int .i64 l.length, by simp [Builtin.len_, run_underlying hu, hsz, goInt], rfl⟩
 · cases ha
/-! Maps from numbers to numbers. -/
theorem findY_ok {k k0 kv : IntKind} {v : Int → Int} {n : Int} : ∀ {l : List MapEntry} {j : Nat}, (∀ e, e ∈ l → ∃ m, e.key = .int k m ∧ e.val = .int kv (v m)) →
   ∃ ov, Instr.findNow (.int k0) (.int k n) l j = some ov ∧ (match ov with | none => ∀ e, e ∈ l → e.key ≠ .int k n | some (i, y) => j ≤ i ∧ i < j + l.length ∧ y = .int kv (v n) ∧ ∃ e, l[i - j]? = some e ∧ e.key = .int k n)
 | [], j, _ => ⟨none, rfl, fun e he => by cases he⟩
 | e :: l, j, h => by
   obtain ⟨m, h1, h2⟩ := h e (by simp)
   by_cases hm : n = m
   · subst hm
     exact ⟨some (j, e.val), by simp [Instr.findNow, Instr.sameNow, h1], Nat.le_refl _, by simp, h2, e, by simp, h1⟩
   · obtain ⟨ov, q1, q2⟩ := findY_ok (k0 := k0) (n := n) (l := l) (j := j + 1) (fun e he => h e (by simp [he]))
     have hb : (n == m) = false := by simpa using hm
     refine ⟨ov, by simp [Instr.findNow, Instr.sameNow, h1, hb, q1], ?_⟩
     cases ov with
     | none =>
       intro e' he'
       rcases List.mem_cons.1 he' with rfl | he'
       · rw [h1]; intro hh; injection hh with _ hh; exact hm hh.symm
       · exact q2 e' he'
     | some q =>
       obtain ⟨i, y⟩ := q
       obtain ⟨a1, a2, a3, e', a4, a5⟩ := q2
       refine ⟨by omega, by rw [List.length_cons]; omega, a3, e', ?_, a5⟩
       rw [show i - j = (i - (j + 1)) + 1 by omega]
       simpa using a4
theorem keyY_ok {t : TypeId} {a : AV} {k : IntKind} {n : Int} {u : Value} (h : keyY P t a = some (k, n)) (r : a.R M u) :
   u = .int k n ∧ ∃ kt e k0, P.underlying t = some (.map kt e) ∧ P.underlying kt = some (.int k0) := by
 unfold keyY at h
 split at h
 · rename_i k' n' hy
   split at h
   · rename_i kt e hu
     split at h
     · rename_i k0 hk
       simp only [Option.some.injEq, Prod.mk.injEq] at h
       obtain ⟨rfl, rfl⟩ := h
       exact ⟨yI_ok hy r, kt, e, k0, hu, hk⟩
     · cases h
   · cases h
 · cases h
theorem MapY.ints {k kv : IntKind} {p : Int → Bool} {v : Int → Int} {l : List MapEntry} (h : MapY k kv p v l) : ∀ e, e ∈ l → ∃ m, e.key = .int k m ∧ e.val = .int kv (v m) := fun e he => by
 obtain ⟨m, q1, q2, _⟩ := h.ent e he
 exact ⟨m, q1, q2⟩
theorem int_inj {k : IntKind} {a b : Int} (h : Value.int k a = .int k b) : a = b := by injection h
theorem lookupY_ok {h : AH} {w : World} {t : TypeId} {m k x : AV} {mv kv : Value} {ok : Bool} (hl : lookupY P h t m k ok = some x) (rm : m.R M mv) (rk : k.R M kv) (r : Rel M h w) :
   ∃ u, (Instr.lookup t mv kv ok).run P w = .ok u w ∧ x.R M u := by
 unfold lookupY at hl
 split at hl
 · rename_i kk n id kz z0 hk hz
   obtain ⟨rfl, kt, e, k0, hu, hkt⟩ := keyY_ok hk rk
   have hck : ∀ em (w : World), (Instr.checkKey em 10000 kt (.int kk n)).run P w = .ok () w := fun em w => checkKey_run (d := 9999) hkt w
   have hz' : zeroT P e = some (.i kz z0) := by simpa [elemZ, hu] using hz
   obtain ⟨y, hy, ry, _⟩ := zeroT_ok (M := M) hz'
   simp only [AV.R] at ry rm
   subst ry
   obtain ⟨b, κ, hM, rfl⟩ := rm
   split at hl
   · rename_i k' kv' p v hg
     obtain ⟨ob, hb, l, ck, rfl, hY⟩ := Ob_of r hg hM
     have hgo := run_getObj' (P := P) hb (by simp)
     cases hkk : eqK kk k' && eqK kz kv' with
     | false => rw [hkk] at hl; cases hl
     | true =>
       rw [hkk, cond_true] at hl
       simp only [Bool.and_eq_true] at hkk
       obtain rfl := eqK_eq hkk.1
       obtain rfl := eqK_eq hkk.2
       obtain ⟨ov, h1, h2⟩ := findY_ok (k0 := k0) (n := n) (j := 0) hY.ints
       have hfk : (Instr.findKey kt (.int kk n) l).run P w = .ok ov w := by simp [Instr.findKey, run_underlying hkt, h1]
       cases ov with
       | none =>
         have hp : p n = false := by
           cases hp : p n with
           | false => rfl
           | true =>
             obtain ⟨e', q1, q2⟩ := hY.has n hp
             exact absurd q2 (h2 e' q1)
         have hs : ySel false (v n) z0 = z0 := rfl
         rw [hp, hs] at hl
         cases ok
         · rw [cond_false, Option.some.injEq] at hl; subst hl
           exact ⟨.int kz z0, by simp [Instr.lookup, run_underlying hu, hck, hgo, hfk, hy], rfl⟩
         · rw [cond_true, Option.some.injEq] at hl; subst hl
           exact ⟨.tuple #[.int kz z0, .bool false], by simp [Instr.lookup, run_underlying hu, hck, hgo, hfk, hy], _, ⟨_, _, rfl, ⟨_, _, rfl, rfl, rfl⟩, rfl⟩, rfl⟩
       | some q =>
         obtain ⟨i, y⟩ := q
         obtain ⟨_, _, rfl, e', q1, q2⟩ := h2
         have hp : p n = true := by
           obtain ⟨m, a1, _, a3⟩ := hY.ent e' (List.mem_of_getElem? q1)
           have := int_inj (a1.symm.trans q2)
           subst this; exact a3
         have hs : ySel true (v n) z0 = v n := rfl
         rw [hp, hs] at hl
         cases ok
         · rw [cond_false, Option.some.injEq] at hl; subst hl
           exact ⟨.int kz (v n), by simp [Instr.lookup, run_underlying hu, hck, hgo, hfk], rfl⟩
         · rw [cond_true, Option.some.injEq] at hl; subst hl
           exact ⟨.tuple #[.int kz (v n), .bool true], by simp [Instr.lookup, run_underlying hu, hck, hgo, hfk], _, ⟨_, _, rfl, ⟨_, _, rfl, rfl, rfl⟩, rfl⟩, rfl⟩
   · cases hl
 · cases hl
theorem mem_modify {α : Type} {f : α → α} : ∀ {l : List α} {j : Nat} {x : α}, x ∈ l.modify j f → x ∈ l ∨ ∃ y, l[j]? = some y ∧ x = f y
 | [], j, x, h => by cases j <;> simp at h
 | a :: l, 0, x, h => by
   simp only [List.modify_zero_cons, List.mem_cons] at h
   rcases h with rfl | h
   · exact .inr ⟨a, rfl, rfl⟩
   · exact .inl (by simp [h])
 | a :: l, j + 1, x, h => by
   simp only [List.modify_succ_cons, List.mem_cons] at h
   rcases h with rfl | h
   · exact .inl (by simp)
   · rcases mem_modify h with h | ⟨y, h1, h2⟩
     · exact .inl (by simp [h])
     · exact .inr ⟨y, by simpa using h1, h2⟩
theorem keys_modify {l : List MapEntry} {j : Nat} {e0 : MapEntry} {kv vv : Value} (h0 : l[j]? = some e0) (hk : e0.key = kv) : (l.modify j fun e => { e with key := kv, val := vv }).map (·.key) = l.map (·.key) := by
 apply List.ext_getElem?
 intro i
 rw [List.getElem?_map, List.getElem?_map, List.getElem?_modify]
 by_cases hi : j = i
 · subst hi
   rw [h0]; simp [hk]
 · cases l[i]? <;> simp [hi]
theorem pair_keys {l : List MapEntry} : (l.Pairwise fun a b => a.key ≠ b.key) ↔ (l.map (·.key)).Pairwise fun a b => a ≠ b := by
 rw [List.pairwise_map]
theorem yOr_l {a : Bool} (b : Bool) (h : a = true) : yOr a b = true := by rw [h]; rfl
theorem yEq_self (n : Int) : yEq n n = true := decide_eq_true rfl
theorem yEq_ne' {a b : Int} (h : a ≠ b) : yEq a b = false := decide_eq_false h
theorem mapUpdateY_ok {h h' : AH} {w : World} {t : TypeId} {m k x : AV} {mv kv vv : Value} (hl : mapUpdateY P h t m k x = some h') (rm : m.R M mv) (rk : k.R M kv) (rv : x.R M vv) (r : Rel M h w) :
   ∃ w', (Instr.mapUpdate t mv kv vv).run P w = .ok () w' ∧ Rel M h' w' ∧ Fr h h' M M w w' ∧ Ab h h' := by
 unfold mapUpdateY at hl
 split at hl
 · rename_i kk n id kx y hk hx
   obtain ⟨rfl, kt, e, k0, hu, hkt⟩ := keyY_ok hk rk
   obtain rfl := yI_ok hx rv
   have hck : ∀ em (w : World), (Instr.checkKey em 10000 kt (.int kk n)).run P w = .ok () w := fun em w => checkKey_run (d := 9999) hkt w
   simp only [AV.R] at rm
   obtain ⟨b, κ, hM, rfl⟩ := rm
   split at hl
   · rename_i k' kv' p v hg
     obtain ⟨ob, hb, l, ck, rfl, hY⟩ := Ob_of r hg hM
     have hgo := run_getObj' (P := P) hb (by simp)
     have hso := fun o' => run_setObj' (P := P) (o' := o') hb (by simp)
     cases hkk : eqK kk k' && eqK kx kv' with
     | false => rw [hkk] at hl; cases hl
     | true =>
       rw [hkk, cond_true] at hl
       simp only [Bool.and_eq_true] at hkk
       obtain rfl := eqK_eq hkk.1
       obtain rfl := eqK_eq hkk.2
       obtain ⟨ov, h1, h2⟩ := findY_ok (k0 := k0) (n := n) (j := 0) hY.ints
       have hfk : (Instr.findKey kt (.int kk n) l).run P w = .ok ov w := by simp [Instr.findKey, run_underlying hkt, h1]
       have old : ∀ e, e ∈ l → e.key ≠ .int kk n → ∃ m, e.key = .int kk m ∧ e.val = .int kx (ySel (yEq m n) y (v m)) ∧ yOr (yEq m n) (p m) = true := fun e he hne => by
         obtain ⟨m, a1, a2, a3⟩ := hY.ent e he
         have hmn : m ≠ n := fun e2 => hne (e2 ▸ a1)
         exact ⟨m, a1, by rw [yEq_ne' hmn]; exact a2, by rw [a3]; cases yEq m n <;> rfl⟩
       cases ov with
       | none =>
         refine ⟨_, ?_, put_ok r hg hl hM (upd_setObj (heap_lt hb)) ⟨l ++ [{ key := .int kk n, val := .int kx y, born := ck }], ck + 1, rfl, fun e he => ?_, fun i hi => ?_, ?_⟩⟩
         · simp [Instr.mapUpdate, run_underlying hu, hgo, hck, hfk, hso]
         · rcases List.mem_append.1 he with he | he
           · exact old e he (h2 e he)
           · obtain rfl := List.mem_singleton.1 he
             exact ⟨n, rfl, by rw [yEq_self]; rfl, yOr_l _ (yEq_self n)⟩
         · by_cases hin : i = n
           · subst hin; exact ⟨_, List.mem_append_right _ (List.mem_singleton.2 rfl), rfl⟩
           · rw [yEq_ne' hin] at hi
             obtain ⟨e', q1, q2⟩ := hY.has i hi
             exact ⟨e', List.mem_append_left _ q1, q2⟩
         · rw [List.pairwise_append]
           refine ⟨hY.one, List.pairwise_singleton _ _, fun a ha b hb => ?_⟩
           obtain rfl := List.mem_singleton.1 hb
           exact h2 a ha
       | some q =>
         obtain ⟨j, y0⟩ := q
         obtain ⟨_, _, rfl, e0, q1, q2⟩ := h2
         have q1 : l[j]? = some e0 := by simpa using q1
         have hks : (Instr.keyThatStays (.int kk n) (.int kk n)).run P w = .ok (.int kk n) w := by simp [Instr.keyThatStays, Instr.sameBits]
         have hkeys := keys_modify (vv := .int kx y) q1 q2
         refine ⟨_, ?_, put_ok r hg hl hM (upd_setObj (heap_lt hb)) ⟨l.modify j fun e => { e with key := .int kk n, val := .int kx y }, ck, rfl, fun e he => ?_, fun i hi => ?_, ?_⟩⟩
         · simp [Instr.mapUpdate, run_underlying hu, hgo, hck, hfk, q1, q2, hks, hso]
         · by_cases hke : e.key = .int kk n
           · rcases mem_modify he with he2 | ⟨y2, b1, rfl⟩
             · have : e ∈ l := he2
               obtain ⟨i, hi⟩ := List.getElem?_of_mem he
               rw [List.getElem?_modify] at hi
               by_cases hij : j = i
               · subst hij
                 rw [q1] at hi
                 simp only [Option.map_eq_map, Option.map_some, ↓reduceIte, Option.some.injEq] at hi
                 subst hi
                 exact ⟨n, rfl, by rw [yEq_self]; rfl, yOr_l _ (yEq_self n)⟩
               · simp only [hij, ↓reduceIte] at hi
                 have hi : l[i]? = some e := by simpa using hi
                 exfalso
                 have hp := List.pairwise_iff_getElem.1 hY.one
                 obtain ⟨l1, e1⟩ := List.getElem?_eq_some_iff.1 q1
                 obtain ⟨l2, e2⟩ := List.getElem?_eq_some_iff.1 hi
                 rcases Nat.lt_or_gt_of_ne hij with hlt | hlt
                 · exact hp j i l1 l2 hlt (by rw [e1, e2, q2, hke])
                 · exact hp i j l2 l1 hlt (by rw [e1, e2, q2, hke])
             · exact ⟨n, rfl, by rw [yEq_self]; rfl, yOr_l _ (yEq_self n)⟩
           · rcases mem_modify he with he2 | ⟨y2, b1, rfl⟩
             · exact old e he2 hke
             · exact absurd rfl hke
         · have hmem : Value.int kk i ∈ (l.map (·.key)) := by
             by_cases hin : i = n
             · subst hin; rw [← q2]; exact List.mem_map.2 ⟨e0, List.mem_of_getElem? q1, rfl⟩
             · rw [yEq_ne' hin] at hi
               obtain ⟨e', a1, a2⟩ := hY.has i hi
               rw [← a2]; exact List.mem_map.2 ⟨e', a1, rfl⟩
           rw [← hkeys] at hmem
           obtain ⟨e', a1, a2⟩ := List.mem_map.1 hmem
           exact ⟨e', a1, a2⟩
         · rw [pair_keys, hkeys, ← pair_keys]; exact hY.one
   · cases hl
 · cases hl
theorem deleteY_ok {h h' : AH} {w : World} {t : TypeId} {m k : AV} {mv kv : Value} {tys : Array TypeId} {ty : TypeId} (hl : deleteY P h t m k = some h') (rm : m.R M mv) (rk : k.R M kv) (r : Rel M h w) (ht : tys[0]? = some t) (ars : Array Value) (ha : ars[0]? = some mv ∧ ars[1]? = some kv) :
   ∃ w', (Builtin.delete_ tys ty ars).run P w = .ok (.tuple #[]) w' ∧ Rel M h' w' ∧ Fr h h' M M w w' ∧ Ab h h' := by
 unfold deleteY at hl
 split at hl
 · rename_i kk n id hk
   obtain ⟨rfl, kt, e, k0, hu, hkt⟩ := keyY_ok hk rk
   have hck : ∀ em (w : World), (Instr.checkKey em 10000 kt (.int kk n)).run P w = .ok () w := fun em w => checkKey_run (d := 9999) hkt w
   simp only [AV.R] at rm
   obtain ⟨b, κ, hM, rfl⟩ := rm
   split at hl
   · rename_i k' kv' p v hg
     obtain ⟨ob, hb, l, ck, rfl, hY⟩ := Ob_of r hg hM
     have hgo := run_getObj' (P := P) hb (by simp)
     have hso := fun o' => run_setObj' (P := P) (o' := o') hb (by simp)
     cases hkk : eqK kk k' with
     | false => rw [hkk] at hl; cases hl
     | true =>
       rw [hkk, cond_true] at hl
       obtain rfl := eqK_eq hkk
       obtain ⟨ov, h1, h2⟩ := findY_ok (k0 := k0) (n := n) (j := 0) hY.ints
       have hfk : (Instr.findKey kt (.int kk n) l).run P w = .ok ov w := by simp [Instr.findKey, run_underlying hkt, h1]
       cases ov with
       | none =>
         refine ⟨_, ?_, put_ok r hg hl hM (upd_setObj (heap_lt hb)) ⟨l, ck, rfl, fun e he => ?_, fun i hi => ?_, hY.one⟩⟩
         · simp [Builtin.delete_, ht, ha.1, ha.2, run_underlying hu, hgo, hck, hfk, hso]
         · obtain ⟨m, a1, a2, a3⟩ := hY.ent e he
           have hmn : m ≠ n := fun e2 => h2 e he (e2 ▸ a1)
           exact ⟨m, a1, a2, by rw [yEq_ne' hmn, a3]; rfl⟩
         · have hi2 : p i = true := by
             cases hp : p i with
             | true => rfl
             | false => rw [hp] at hi; cases hq : yEq i n <;> rw [hq] at hi <;> cases hi
           exact hY.has i hi2
       | some q =>
         obtain ⟨j, y0⟩ := q
         obtain ⟨_, hlt, rfl, e0, q1, q2⟩ := h2
         have q1 : l[j]? = some e0 := by simpa using q1
         have hlt : j < l.length := by omega
         have hp := List.pairwise_iff_getElem.1 hY.one
         obtain ⟨l1, e1⟩ := List.getElem?_eq_some_iff.1 q1
         refine ⟨_, ?_, put_ok r hg hl hM (upd_setObj (heap_lt hb)) ⟨l.eraseIdx j, ck, rfl, fun e he => ?_, fun i hi => ?_, hY.one.sublist (List.eraseIdx_sublist _ _)⟩⟩
         · simp [Builtin.delete_, ht, ha.1, ha.2, run_underlying hu, hgo, hck, hfk, hso, Array.eraseIdxIfInBounds, hlt]
         · obtain ⟨i, hij, hi⟩ := List.mem_eraseIdx_iff_getElem?.1 he
           obtain ⟨m, a1, a2, a3⟩ := hY.ent e (List.mem_of_getElem? hi)
           have hmn : m ≠ n := fun e2 => by
             obtain ⟨l2, e3⟩ := List.getElem?_eq_some_iff.1 hi
             rcases Nat.lt_or_gt_of_ne hij with hlt | hlt
             · exact hp i j l2 l1 hlt (by rw [e1, e3, q2, a1, e2])
             · exact hp j i l1 l2 hlt (by rw [e1, e3, q2, a1, e2])
           exact ⟨m, a1, a2, by rw [yEq_ne' hmn, a3]; rfl⟩
         · by_cases hin : i = n
           · subst hin; rw [yEq_self] at hi; cases hi
           · rw [yEq_ne' hin] at hi
             obtain ⟨e', a1, a2⟩ := hY.has i hi
             refine ⟨e', List.mem_eraseIdx_iff_getElem?.2 ?_, a2⟩
             obtain ⟨i', hi'⟩ := List.getElem?_of_mem a1
             refine ⟨i', fun e2 => ?_, hi'⟩
             subst e2
             rw [q1, Option.some.injEq] at hi'
             subst hi'
             exact hin (int_inj (a2.symm.trans q2))
   · cases hl
 · cases hl
theorem opY_ok {tm : Tr AV} {ρ : Operand → Value} {o : Oper} {h : AH} {w : World} {out : OutA} (ho : (opY P tm o h).sel = some out) (hx : ∀ x ∈ o.op.operands.toList, (evT tm x).R M (ρ x)) (r : Rel M h w) :
   (∀ c, o.op ≠ .defer c) ∧ OutOk P (execOp ρ o) h M w out := by
 obtain ⟨dst, op, type, pos, after, guard⟩ := o
 cases op <;> simp only [opY] at ho <;> first | (cases ho; done) | simp only [Op.operands] at hx
 case pick c a b =>
   obtain ⟨v, hl, rfl⟩ := valT_some ho
   obtain ⟨t, hc, hv⟩ := pickY_ok hl (hx c (by simp)) (hx a (by simp)) (hx b (by simp))
   refine ⟨by simp, fun _ => ?_⟩
   cases t
   · exact OutV.pure (by simp [execOp, hc, asBool]) hv r
   · exact OutV.pure (by simp [execOp, hc, asBool]) hv r
 case load t a =>
   obtain ⟨v, hl, rfl⟩ := valT_some ho
   obtain ⟨u, h1, h2⟩ := loadY_ok (P := P) hl (hx a (by simp)) r
   exact ⟨by simp, fun _ => OutV.got (Got.pure r (h1 w rfl).2 h2)⟩
 case store t a x =>
   obtain ⟨h', hl, h2⟩ := T.sel_bind_some ho
   obtain rfl := (T.sel_ret h2).symm
   exact ⟨by simp, fun _ => OutV.skip (storeY_ok hl (hx a (by simp)) (hx x (by simp)) r)⟩
 case nilCheck x =>
   have ha := hx x (by simp)
   split at ho
   · rename_i ro id z i j he
     rw [he] at ha
     have ha0 := ha
     simp only [AV.R] at ha
     obtain ⟨b, c, hM, he2⟩ := ha
     obtain rfl := (T.sel_ret ho).symm
     exact ⟨by simp, fun _ => OutV.pure (by simp [execOp, he2]; rfl) (by rw [he2] at ha0; exact ha0) r⟩
   · rename_i z j g he
     rw [he] at ha
     have ha0 := ha
     simp only [AV.R] at ha
     obtain ⟨b, off, cs, he2, _⟩ := ha
     obtain rfl := (T.sel_ret ho).symm
     exact ⟨by simp, fun _ => OutV.pure (by simp [execOp, he2]; rfl) (by rw [he2] at ha0; exact ha0) r⟩
   · cases ho
 case lookup t m k ok =>
   obtain ⟨v, hl, rfl⟩ := valT_some ho
   rw [T.sel_of] at hl
   obtain ⟨u, h1, h2⟩ := lookupY_ok (P := P) hl (hx m (by simp)) (hx k (by simp)) r
   exact ⟨by simp, fun _ => OutV.got (Got.pure r h1 h2)⟩
 case mapUpdate t m k x =>
   obtain ⟨h', hl, h2⟩ := T.sel_bind_some ho
   rw [T.sel_of] at hl
   obtain rfl := (T.sel_ret h2).symm
   exact ⟨by simp, fun _ => OutV.skip (mapUpdateY_ok hl (hx m (by simp)) (hx k (by simp)) (hx x (by simp)) r)⟩
 case binOp op t x y yt =>
   obtain ⟨v, hl, rfl⟩ := valT_some ho
   obtain ⟨u, h1, h2⟩ := binY_ok (P := P) (X := x) (Y := y) hl (hx x (by simp)) (hx y (by simp))
   exact ⟨by simp, fun _ => OutV.got (Got.pure r (h1 w) h2)⟩
 case unOp op t x =>
   obtain ⟨v, hl, rfl⟩ := valT_some ho
   obtain ⟨u, h1, h2⟩ := unY_ok (P := P) hl (hx x (by simp))
   exact ⟨by simp, fun _ => OutV.pure (u := u) (by simp [execOp, h1]) h2 r⟩
 case convert src dst x =>
   obtain ⟨v, hl, rfl⟩ := valT_some ho
   obtain ⟨u, h1, h2⟩ := convHY_ok (P := P) hl (hx x (by simp)) r
   exact ⟨by simp, fun _ => OutV.got (Got.pure r h1 h2)⟩
 case makeSlice t l c =>
   obtain ⟨v, h', hl, rfl⟩ := valT2_some ho
   exact ⟨by simp, fun fr => OutV.got (makeSliceY_ok hl (hx l (by simp)) (hx c (by simp)) r fr)⟩
 case slice t x lo hi mx =>
   obtain ⟨v, hl, rfl⟩ := valT_some ho
   obtain ⟨u, h1, h2⟩ := sliceY_ok (P := P) hl (hx x (by simp)) (OR_map lo (fun p e => hx p (by simp [e]))) (OR_map hi (fun p e => hx p (by simp [e]))) (OR_map mx (fun p e => hx p (by simp [e])))
   exact ⟨by simp, fun _ => OutV.got (Got.pure r (h1 w) h2)⟩
 case fieldAddr t x f =>
   have ha := hx x (by simp)
   split at ho
   · rename_i fs ro id z i j hu he
     split at ho
     · rename_i fd hf
       rw [nthF_eq, Array.getElem?_toList] at hf
       split at ho
       · cases ho
       · rename_i n hn hz
         obtain rfl := (T.sel_ret ho).symm
         rw [he] at ha
         simp only [AV.R] at ha
         obtain ⟨b, c, hM, he2⟩ := ha
         have hn0 : ¬ (n = 0) := fun e => hn e
         refine ⟨by simp, fun _ => OutV.got (Got.pure (u := .pointer (some ⟨b, (if ro = true then c else 0) + i * z + j + fd.offset, none⟩)) r ?_ (by simp only [AV.R]; exact ⟨b, c, hM, by rw [Nat.add_assoc]⟩))⟩
         simp [Instr.fieldAt, run_underlying hu, hf, Instr.sureAddr, fieldPlace, sizeT_ok hz, hn0, addr_add, he2]
       · cases ho
     · cases ho
   · rename_i fs z j g hu he
     split at ho
     · rename_i fd hf
       rw [nthF_eq, Array.getElem?_toList] at hf
       split at ho
       · cases ho
       · rename_i n hn hz
         obtain rfl := (T.sel_ret ho).symm
         rw [he] at ha
         simp only [AV.R] at ha
         obtain ⟨b, off, cs, he2, hcs⟩ := ha
         have hn0 : ¬ (n = 0) := fun e => hn e
         refine ⟨by simp, fun _ => OutV.got (Got.pure (u := .pointer (some ⟨b, off + j + fd.offset, none⟩)) r ?_ (by simp only [AV.R]; exact ⟨b, off, cs, by rw [Nat.add_assoc], hcs⟩))⟩
         simp [Instr.fieldAt, run_underlying hu, hf, Instr.sureAddr, fieldPlace, sizeT_ok hz, hn0, addr_add, he2]
       · cases ho
     · cases ho
   · cases ho
 case indexAddr t x i =>
   obtain ⟨v, hl, rfl⟩ := valT_some ho
   obtain ⟨u, h1, h2⟩ := indexAddrY_ok (P := P) hl (hx x (by simp)) (hx i (by simp))
   exact ⟨by simp, fun _ => OutV.got (Got.pure r (h1 w) h2)⟩
 case index t x i =>
   obtain ⟨v, hl, rfl⟩ := valT_some ho
   obtain ⟨u, h1, h2⟩ := indexY_ok (P := P) hl (hx x (by simp)) (hx i (by simp))
   exact ⟨by simp, fun _ => OutV.got (Got.pure r (h1 w) h2)⟩
 case call c =>
   obtain ⟨callee, args, tys⟩ := c
   refine ⟨by simp, ?_⟩
   have hargs : ∀ p ∈ args.toList, (evT tm p).R M (ρ p) := fun p hp => hx p (by simp [Call.operands]; right; simpa using hp)
   have hmap : ∀ (l : List Operand), args.toList = l → args.map ρ = (l.map ρ).toArray := fun l e => by subst e; apply Array.ext'; simp
   have htys : ∀ (l : List TypeId), tys.toList = l → tys = l.toArray := fun l e => by subst e; simp
   cases callee with
   | value f => cases ho
   | invoke x n => cases ho
   | builtin b =>
     cases b <;> first | (cases ho; done) | skip
     case len =>
       simp only at ho
       split at ho
       · rename_i t ts x xs e1 e2
         obtain ⟨v, hl, rfl⟩ := valT_some ho
         obtain ⟨u, h1, h2⟩ := lenY_ok (P := P) (ty := type) (w := w) hl (hargs x (by simp [e2]))
         have hr : ∀ l, (Builtin.len_ #[t] type #[ρ x]).run P w = l → (Builtin.len_ tys type (args.map ρ)).run P w = l := fun l e => by
           rw [← e, htys _ e1, hmap _ e2]; simp [Builtin.len_]
         exact fun _ => OutV.pure (u := u) (by simp [execOp, resolve, invoke, builtin, hr _ h1]) h2 r
       · cases ho
     case append =>
       simp only at ho
       split at ho
       · rename_i t ts x y xs e1 e2
         obtain ⟨v, h', hl, rfl⟩ := valT2_some ho
         intro fr
         cases ts with
         | nil =>
           exfalso
           simp only [List.head?_nil] at hl
           unfold appendY at hl
           split at hl
           · split at hl
             · simp only [srcOk, Option.bind_none, Bool.false_and, cond_false] at hl; cases hl
             · cases hl
           · cases hl
         | cons t2 ts =>
           have g := appendY_ok (P := P) (ty := type) (tx := t2) (by simpa using hl) (hargs x (by simp [e2])) (hargs y (by simp [e2])) r fr
           obtain ⟨M', u, w', h1, h2, h3, h4, h5⟩ := g
           have hr : ∀ l, (Builtin.append_ #[t, t2] type #[ρ x, ρ y]).run P w = l → (Builtin.append_ tys type (args.map ρ)).run P w = l := fun l e => by
             rw [← e, htys _ e1, hmap _ e2]; simp [Builtin.append_]
           exact ⟨M', u, w', .value u, by simp [execOp, resolve, invoke, builtin, hr _ h1], .inl rfl, h2, h3, h4, h5⟩
       · cases ho
     case delete =>
       simp only at ho
       split at ho
       · rename_i t ts x y rest e1 e2
         obtain ⟨h', hl, h2⟩ := T.sel_bind_some ho
         rw [T.sel_of] at hl
         obtain rfl := (T.sel_ret h2).symm
         obtain ⟨w', h1, h3, h4, h5⟩ := deleteY_ok (P := P) (ty := type) (tys := tys) hl (hargs x (by simp [e2])) (hargs y (by simp [e2])) r (by rw [htys _ e1]; simp) (args.map ρ) (by rw [hmap _ e2]; simp)
         exact fun _ => ⟨M, .tuple #[], w', .value (.tuple #[]), by simp [execOp, resolve, invoke, builtin, h1], .inl rfl, by simp [undefA, AV.R, AV.RL], h3, h4, h5⟩
       · cases ho
     case min =>
       simp only at ho
       split at ho
       · rename_i x y e2
         obtain ⟨v, hl, rfl⟩ := valT_some ho
         obtain ⟨u, h1, h2⟩ := minY_ok (P := P) (ty := type) (tys := tys) hl (hargs x (by simp [e2])) (hargs y (by simp [e2]))
         have hr : ∀ l, (Builtin.min_ tys type #[ρ x, ρ y]).run P w = l → (Builtin.min_ tys type (args.map ρ)).run P w = l := fun l e => by
           rw [← e, hmap _ e2]; rfl
         exact fun _ => OutV.pure (u := u) (by simp [execOp, resolve, invoke, builtin, hr _ (h1 w)]) h2 r
       · cases ho
     case max =>
       simp only at ho
       split at ho
       · rename_i x y e2
         obtain ⟨v, hl, rfl⟩ := valT_some ho
         obtain ⟨u, h1, h2⟩ := maxY_ok (P := P) (ty := type) (tys := tys) hl (hargs x (by simp [e2])) (hargs y (by simp [e2]))
         have hr : ∀ l, (Builtin.max_ tys type #[ρ x, ρ y]).run P w = l → (Builtin.max_ tys type (args.map ρ)).run P w = l := fun l e => by
           rw [← e, hmap _ e2]; rfl
         exact fun _ => OutV.pure (u := u) (by simp [execOp, resolve, invoke, builtin, hr _ (h1 w)]) h2 r
       · cases ho
theorem mvA_some {tm : Tr AV} {o : Oper} {b : Bool} (h : mvA tm o = some b) : ∃ x, o.op = .move x ∧ evT tm x = .yb b := by
 unfold mvA at h
 split at h
 · rename_i x hop
   split at h
   · rename_i b' he
     simp only [Option.some.injEq] at h; subst h
     exact ⟨x, hop, he⟩
   · cases h
 · cases h
theorem opS_ok {tm : Tr AV} {ρ : Operand → Value} {o : Oper} {h : AH} {w : World} {out : OutA} (ho : opS P tm o h = some out) (hx : ∀ x ∈ o.op.operands.toList, (evT tm x).R M (ρ x)) (r : Rel M h w) :
   (∀ c, o.op ≠ .defer c) ∧ OutOk P (execOp ρ o) h M w out := by
 unfold opS at ho
 split at ho
 · rename_i b hb
   obtain ⟨x, hop, he⟩ := mvA_some hb
   simp only [Option.some.injEq] at ho; subst ho
   have hxx := hx x (by rw [hop]; simp [Op.operands])
   rw [he] at hxx
   exact ⟨by rw [hop]; simp, fun _ => OutV.pure (u := ρ x) (by simp [execOp, hop]) (by simpa only [AV.R] using hxx) r⟩
 · split at ho
   · rename_i out' ha
     simp only [Option.some.injEq] at ho; subst ho
     exact opA_ok ha hx r
   · exact opY_ok ho hx r
theorem storeY_ab {h h' : AH} {t : TypeId} {a v : AV} (hl : (storeY P h t a v).sel = some h') : Ab h h' := by
 unfold storeY at hl
 split at hl
 · split at hl
   · rename_i hg
     split at hl
     · simp only [Bool.cond_eq_ite] at hl
       split at hl
       · split at hl
         · rename_i hp
           obtain ⟨_, hs⟩ := T.sel_must hl
           obtain rfl := T.sel_ret hs
           exact put_ab hg hp
         · cases hl
       · cases hl
     · cases hl
   · cases hl
 · cases hl
theorem makeSliceY_ab {h h' : AH} {t : TypeId} {l c v : AV} (hl : (makeSliceY P h t l c).sel = some (v, h')) : Ab h h' := by
 unfold makeSliceY at hl
 split at hl
 · split at hl
   · split at hl
     · simp only [Bool.cond_eq_ite] at hl
       split at hl
       · obtain ⟨_, hl⟩ := T.sel_must hl
         obtain ⟨_, hl⟩ := T.sel_must hl
         obtain ⟨_, hl⟩ := T.sel_must hl
         split at hl
         · rename_i hn
           have := T.sel_ret hl
           simp only [Prod.mk.injEq] at this
           obtain ⟨_, rfl⟩ := this
           exact new_ab hn
         · cases hl
       · cases hl
     · cases hl
   · cases hl
 · cases hl
theorem newArr_ab {h h' : AH} {e : TypeId} {z m : Nat} {nil : Bool} {f : Nat → Nat → AV} {v : AV} (ha : (newArr h e z m nil f).sel = some (v, h')) : Ab h h' := new_ab (newArr_sel ha).1
theorem ret_ab {h h' : AH} {v w : AV} (hl : (T.ret (w, h)).sel = some (v, h')) : Ab h h' := by
 have := T.sel_ret hl
 simp only [Prod.mk.injEq] at this
 obtain ⟨_, rfl⟩ := this
 exact Ab.refl h
theorem appendY_ab {h h' : AH} {t : TypeId} {tx : Option TypeId} {s x v : AV} (hl : (appendY P h t tx s x).sel = some (v, h')) : Ab h h' := by
 unfold appendY at hl
 split at hl
 · split at hl
   · simp only [Bool.cond_eq_ite] at hl
     split at hl
     · split at hl
       · obtain ⟨⟨m, f⟩, _, hl⟩ := T.sel_bind_some hl
         obtain ⟨_, hl⟩ := T.sel_must hl
         exact newArr_ab hl
       · obtain ⟨⟨m, f⟩, _, hl⟩ := T.sel_bind_some hl
         obtain ⟨_, hl⟩ := T.sel_must hl
         exact newArr_ab hl
       · split at hl
         · obtain ⟨⟨m, f⟩, _, hl⟩ := T.sel_bind_some hl
           rcases T.sel_br hl with ⟨_, hl⟩ | ⟨_, hl⟩
           · exact ret_ab hl
           · obtain ⟨_, hl⟩ := T.sel_must hl
             exact newArr_ab hl
         · cases hl
       · split at hl
         · split at hl
           · split at hl
             · obtain ⟨⟨m, f⟩, _, hl⟩ := T.sel_bind_some hl
               rcases T.sel_br hl with ⟨_, hl⟩ | ⟨_, hl⟩
               · exact ret_ab hl
               · obtain ⟨_, hl⟩ := T.sel_must hl
                 exact newArr_ab hl
             · cases hl
           · cases hl
         · cases hl
       · split at hl
         · split at hl
           · obtain ⟨⟨m, f⟩, _, hl⟩ := T.sel_bind_some hl
             obtain ⟨_, hl⟩ := T.sel_must hl
             obtain ⟨_, hl⟩ := T.sel_must hl
             split at hl
             · rename_i hd
               exact (del_ab hd).trans (newArr_ab hl)
             · cases hl
           · cases hl
         · cases hl
       · split at hl
         · split at hl
           · obtain ⟨⟨m, f⟩, _, hl⟩ := T.sel_bind_some hl
             rcases T.sel_br hl with ⟨_, hl⟩ | ⟨_, hl⟩
             · exact ret_ab hl
             · obtain ⟨_, hl⟩ := T.sel_must hl
               split at hl
               · rename_i hd
                 exact (del_ab hd).trans (newArr_ab hl)
               · cases hl
           · cases hl
         · cases hl
       · cases hl
     · cases hl
   · cases hl
 · cases hl
theorem mapUpdateY_ab {h h' : AH} {t : TypeId} {m k v : AV} (hl : mapUpdateY P h t m k v = some h') : Ab h h' := by
 unfold mapUpdateY at hl
 simp only [Bool.cond_eq_ite] at hl
 repeat' split at hl
 all_goals first | (cases hl; done) | (exact put_ab (by assumption) hl)
theorem deleteY_ab {h h' : AH} {t : TypeId} {m k : AV} (hl : deleteY P h t m k = some h') : Ab h h' := by
 unfold deleteY at hl
 simp only [Bool.cond_eq_ite] at hl
 repeat' split at hl
 all_goals first | (cases hl; done) | (exact put_ab (by assumption) hl)
theorem opY_ab {tm : Tr AV} {o : Oper} {h h' : AH} {v : AV} (ho : (opY P tm o h).sel = some (.val v h')) : Ab h h' := by
 have hv : ∀ {t : T AV}, (valT h t).sel = some (.val v h') → Ab h h' := fun e => by
   obtain ⟨v2, _, e2⟩ := valT_some e; cases e2; exact Ab.refl h
 have hv2 : ∀ {t : T (AV × AH)}, (∀ v2 h2, t.sel = some (v2, h2) → Ab h h2) → (valT2 t).sel = some (.val v h') → Ab h h' := fun k e => by
   obtain ⟨v2, h2, e1, e2⟩ := valT2_some e; cases e2; exact k _ _ e1
 unfold opY at ho
 repeat' split at ho
 all_goals first
   | (cases ho; done)
   | exact hv ho
   | (have e := T.sel_ret ho; simp only [OutA.val.injEq] at e; obtain ⟨_, rfl⟩ := e; exact Ab.refl _)
   | exact hv2 (fun _ _ e => makeSliceY_ab e) ho
   | exact hv2 (fun _ _ e => appendY_ab e) ho
   | (obtain ⟨h2, e1, e2⟩ := T.sel_bind_some ho; have e := T.sel_ret e2; simp only [OutA.val.injEq] at e; obtain ⟨_, rfl⟩ := e; exact storeY_ab e1)
   | (obtain ⟨h2, e1, e2⟩ := T.sel_bind_some ho; rw [T.sel_of] at e1; have e := T.sel_ret e2; simp only [OutA.val.injEq] at e; obtain ⟨_, rfl⟩ := e; exact mapUpdateY_ab e1)
   | (obtain ⟨h2, e1, e2⟩ := T.sel_bind_some ho; rw [T.sel_of] at e1; have e := T.sel_ret e2; simp only [OutA.val.injEq] at e; obtain ⟨_, rfl⟩ := e; exact deleteY_ab e1)
theorem opS_ab {tm : Tr AV} {o : Oper} {h h' : AH} {v : AV} (ho : opS P tm o h = some (.val v h')) : Ab h h' := by
 unfold opS at ho
 split at ho
 · simp only [Option.some.injEq, OutA.val.injEq] at ho; obtain ⟨_, rfl⟩ := ho; exact Ab.refl _
 · split at ho
   · rename_i out' ha
     simp only [Option.some.injEq] at ho; subst ho
     exact opA_ab ha
   · exact opY_ab ho
end
end Go.Proofs.YtinijejfhmcmdaaDoor.Ex
end
section
namespace Go.Proofs.YtinijejfhmcmdaaDoor.Ex
open Go
def FW (r : Option Nat) : Fence := { fn := fun _ => True, depth := none, alive := false, round := r }
def exitOf : AX → Exit
 | .nm => .normal
 | .ex id => .exit id
 | .rt => .ret
def RdR (M : Mp) : Option Nat → Option Nat → Prop
 | none, r => r = none
 | some l, r => ∃ b κ, M l = some (b, κ) ∧ r = some b
def DfR (M : Mp) : List Nat → List Deferred → Prop
 | [], ds => ds = []
 | d :: l, ds => ∃ b κ ds', M d = some (b, κ) ∧ DfR M l ds' ∧ ds = { target := .collected b, args := #[] } :: ds'
theorem DfR.mono {M M' : Mp} (h : Le M M') : ∀ {l : List Nat} {ds : List Deferred}, DfR M l ds → DfR M' l ds
 | [], _, r => r
 | _ :: _, _, ⟨b, κ, ds', r1, r2, r3⟩ => ⟨b, κ, ds', h _ _ r1, DfR.mono h r2, r3⟩
theorem RdR.mono {M M' : Mp} (h : Le M M') : ∀ {l r : Option Nat}, RdR M l r → RdR M' l r
 | none, _, e => e
 | some _, _, ⟨b, κ, r1, r2⟩ => ⟨b, κ, h _ _ r1, r2⟩
structure StR (M : Mp) (s : St) (a : Act) (w : World) : Prop where
 tm : TR M s.tm a.tmps
 sz : a.tmps.size = s.sz
 df : DfR M s.df a.defers
 h : Rel M s.h w
def SmCall (P : Program) (f : FuncId) (g : List AV → AH → Option (AV × AH)) : Prop := ∀ args h v h', g args h = some (v, h') → (h.nx ≤ h'.nx ∧ Ab h h') ∧
 ∀ (M : Mp) (us : List Value) (w : World) (r : Option Nat) (R : Ending → World → Prop), AV.RL M args us → Rel M h w → Fresh M h h' →
   (∀ M' u w', v.R M' u → Rel M' h' w' → Fr h h' M M' w w' → Ab h h' → R (.returned u) w') →
   (callFunc f us.toArray).run P w = .ok (.enter f us.toArray) w ∧ CallsIn (FW r) 0 P f us.toArray w R
def SmVal (P : Program) (f : FuncId) (g : List AV → Option AV) : Prop := ∀ args v (M : Mp) (us : List Value) (w : World), g args = some v → AV.RL M args us → ∃ u, (callFunc f us.toArray).run P w = .ok (.value u) w ∧ v.R M u
def SmOK (P : Program) (sm : FuncId → Option Sm) : Prop := ∀ f, (∀ g, sm f = some (.call g) → SmCall P f g) ∧ (∀ g, sm f = some (.val g) → SmVal P f g) ∧ (∀ g, sm f = some (.ct g) → SmCall P f fun a h => (g a h).sel)
structure Good (P : Program) (rec : Rc) : Prop where
 code : ∀ c s x s', rec.code c s = some (x, s') → (s.h.nx ≤ s'.h.nx ∧ Ab s.h s'.h) ∧ s'.sz = s.sz ∧ s'.rd = s.rd ∧
   ∀ (M : Mp) (a : Act) (w : World) (r : Option Nat) (Q : Exit → Act → World → Prop), StR M s a w → RdR M s.rd r → Fresh M s.h s'.h →
     (∀ M' a' w', StR M' s' a' w' → Fr s.h s'.h M M' w w' → Ab s.h s'.h → Q (exitOf x) a' w') → c.wpIn (FW r) 0 P Q a w
 sm : SmOK P rec.sm
theorem TR.put {M : Mp} {tm tm' : Tr AV} {tmps : Array Value} {d : Nat} {v : AV} {u : Value} (r : TR M tm tmps) (hd : d < tmps.size) (hs : Tr.set 64 tm (Nat.succ d) (some v) = some tm') (rv : v.R M u) : TR M tm' (tmps.setIfInBounds d u) := by
 intro n
 rw [Tr.get_set _ _ _ _ _ hs]
 by_cases h : n = d
 · subst h
   simpa [hd] using rv
 · have h1 : n + 1 ≠ Nat.succ d := by omega
   have h2 := r n
   rw [if_neg h1]
   have : (tmps.setIfInBounds d u).getD n undef = tmps.getD n undef := by
     simp only [Array.getD_eq_getD_getElem?, Array.getElem?_setIfInBounds_ne (Ne.symm h)]
   rw [this]; exact h2
theorem putA_ok {M : Mp} {s s' : St} {a : Act} {w : World} {dst : Option Tmp} {v : AV} {u : Value} (h : putA s dst v = some s') (r : StR M s a w) (rv : v.R M u) : StR M s' (a.put dst u) w := by
 unfold putA at h
 split at h
 · simp only [Option.some.injEq] at h; subst h; exact r
 · rename_i d
   simp only [nblt, Bool.cond_decide] at h
   split at h
   · rename_i hd
     split at h
     · rename_i t ht
       simp only [Option.some.injEq] at h; subst h
       refine ⟨r.tm.put (by rw [r.sz]; exact hd) ht rv, ?_, r.df, r.h⟩
       have := r.sz
       simpa [Act.put] using this
     · cases h
   · cases h
theorem putA_same {s s' : St} {dst : Option Tmp} {v : AV} (h : putA s dst v = some s') : s'.h = s.h ∧ s'.sz = s.sz ∧ s'.rd = s.rd ∧ s'.df = s.df := by
 unfold putA at h
 split at h
 · simp only [Option.some.injEq] at h; subst h; exact ⟨rfl, rfl, rfl, rfl⟩
 · simp only [nblt, Bool.cond_decide] at h
   split at h
   · split at h
     · simp only [Option.some.injEq] at h; subst h; exact ⟨rfl, rfl, rfl, rfl⟩
     · cases h
   · cases h
theorem ev_ok {M : Mp} {tm : Tr AV} {a : Act} (r : TR M tm a.tmps) (x : Operand) : (evT tm x).R M (a.eval x) := by
 cases x with
 | tmp t => exact r t
 | const v => exact ofV_R M 2 v
 | global g => rfl
 | func f => simp only [evT, AV.R, Act.eval]; exact ⟨[], rfl, rfl⟩
theorem initT_get : ∀ (l : List AV) (t t' : Tr AV) (k : Nat), initT t k l = some t' → ∀ q, t'.get (q + 1) = if k ≤ q ∧ q < k + l.length then l[q - k]? else t.get (q + 1)
 | [], t, t', k, h, q => by
   simp only [initT, Option.some.injEq] at h; subst h
   rw [if_neg (by simp only [List.length_nil]; omega)]
 | a :: l, t, t', k, h, q => by
   simp only [initT] at h
   split at h
   · rename_i t1 h1
     rw [initT_get l t1 t' (k + 1) h q, Tr.get_set _ _ _ _ _ h1]
     by_cases hq : q = k
     · subst hq; rw [if_neg (by omega), if_pos rfl, if_pos (by simp)]; simp
     · have e : ¬ (q + 1 = Nat.succ k) := by omega
       rw [if_neg e]
       by_cases hk : k ≤ q ∧ q < k + (a :: l).length
       · rw [if_pos hk, if_pos (by simp at hk ⊢; omega)]
         rw [show q - k = (q - (k + 1)) + 1 by omega]
         simp
       · rw [if_neg hk, if_neg (by simp at hk ⊢; omega)]
   · cases h
theorem RL_get {M : Mp} : ∀ {l : List AV} {vs : List Value} (q : Nat) (a : AV), AV.RL M l vs → l[q]? = some a → ∃ v, vs[q]? = some v ∧ a.R M v
 | [], _, q, a, _, h => by simp at h
 | x :: l, vs, 0, a, r, h => by
   simp only [AV.RL] at r; obtain ⟨v, vs', r1, r2, rfl⟩ := r
   simp at h; subst h
   exact ⟨v, rfl, r1⟩
 | x :: l, vs, q + 1, a, r, h => by
   simp only [AV.RL] at r; obtain ⟨v, vs', r1, r2, rfl⟩ := r
   simpa using RL_get q a r2 (by simpa using h)
theorem initT_TR {M : Mp} {args : List AV} {us : List Value} {t : Tr AV} {n : Nat} (h : initT .lf 0 args = some t) (r : AV.RL M args us) : TR M t (us.toArray ++ Array.replicate n undef) := by
 intro q
 rw [initT_get args .lf t 0 h q]
 have hl := RL_length r
 by_cases hq : q < args.length
 · rw [if_pos (by omega)]
   obtain ⟨v, h1, h2⟩ := RL_get q args[q] r (by simp [hq])
   have : (us.toArray ++ Array.replicate n undef).getD q undef = v := by
     have hq2 : q < us.length := by omega
     simp [Array.getD_eq_getD_getElem?, Array.getElem?_append, hq2]
     exact (List.getElem?_eq_some_iff.1 h1).2
   rw [this]
   simpa [hq] using h2
 · rw [if_neg (by omega)]
   have : (us.toArray ++ Array.replicate n undef).getD q undef = undef := by
     have hq2 : ¬ q < us.length := by omega
     simp only [Array.getD_eq_getD_getElem?, Array.getElem?_append, List.size_toArray, hq2, if_false]
     by_cases h3 : q - us.length < n <;> simp [h3]
   rw [this]
   simp [Tr.get, undefA, AV.R, AV.RL, undef]
section
variable {P : Program} {M : Mp}
/-! Leaving a function. -/
theorem takeAll_ok {fn : Func} {tmps : Array Value} {R : Ending → World → Prop} {r : Option Nat} : ∀ {l : List Nat} {h h' : AH} {w : World} {ds : List Deferred}, takeAll h l = some h' → DfR M l ds → Rel M h w →
   h.nx = h'.nx ∧ ((∀ w', Rel M h' w' → Fr h h' M M w w' → Ab h h' → ∃ v, (results fn tmps).run P w' = .ok v w' ∧ R (.returned v) w') → LeavesInM (FW r) 0 P fn tmps R ds .returning w)
 | [], h, h', w, ds, ht, rd, rr => by
   simp only [takeAll, Option.some.injEq] at ht; subst ht
   simp only [DfR] at rd; subst rd
   exact ⟨rfl, fun k => k w rr (Fr.same h M w) (Ab.refl h)⟩
 | d :: l, h, h', w, ds, ht, rd, rr => by
   simp only [takeAll] at ht
   simp only [DfR] at rd
   obtain ⟨b, κ, ds', hM, r2, rfl⟩ := rd
   split at ht
   · rename_i hg
     split at ht
     · rename_i h1 hp
       obtain ⟨ob, hb, ho⟩ := Ob_of rr hg hM
       simp only [ObR, if_true] at ho; subst ho
       obtain ⟨q1, q2, q3⟩ := put_ok (ob := .deferred none) (w' := w.putObj b (.deferred none)) rr hg hp hM (upd_setObj (heap_lt hb)) (by simp [ObR])
       obtain ⟨e1, e2⟩ := takeAll_ok (fn := fn) (tmps := tmps) (R := R) (r := r) ht r2 q1
       have hnx := (AH.put_nx hp).1
       refine ⟨by omega, fun k => ⟨by simp, .inl ⟨b, _, rfl, run_takeDeferred hb, e2 fun w' t1 t2 t3 => k w' t1 ?_ (q3.trans t3)⟩⟩⟩
       exact q2.trans q3.nx (by omega) t2
     · cases ht
   · cases ht
theorem takeAll_ab : ∀ {l : List Nat} {h h' : AH}, takeAll h l = some h' → Ab h h'
 | [], h, h', e => by simp only [takeAll, Option.some.injEq] at e; subst e; exact Ab.refl _
 | d :: l, h, h', e => by
   simp only [takeAll] at e
   split at e
   · rename_i hg
     split at e
     · rename_i h1 hp
       exact (put_ab hg hp).trans (takeAll_ab e)
     · cases e
   · cases e
def resF (tmps : Array Value) : ResultVar → Sem Value
 | .tmp t => pure (tmps.getD t undef)
 | .cell x t => do loadVar t (← asAddr (tmps.getD x undef))
theorem results_eq (fn : Func) (tmps : Array Value) : results fn tmps = (fn.results.mapM (resF tmps) >>= fun vs => pure (if h : vs.size = 1 then vs[0] else .tuple vs)) := by
 unfold results
 congr 1
theorem resOne_ok {h : AH} {w : World} {tm : Tr AV} {a : Act} {rv : ResultVar} {v : AV} (hr : resOne P tm h rv = some v) (rt : TR M tm a.tmps) (r : Rel M h w) :
   ∃ u, (resF a.tmps rv).run P w = .ok u w ∧ v.R M u := by
 cases rv with
 | tmp t =>
   simp only [resOne, Option.some.injEq] at hr; subst hr
   exact ⟨_, rfl, ev_ok rt (.tmp t)⟩
 | cell x t =>
   simp only [resOne] at hr
   have hx := ev_ok rt (.tmp x)
   obtain ⟨u, h1, h2⟩ := load_ok (P := P) hr hx r
   refine ⟨u, ?_, h2⟩
   obtain ⟨e1, e2⟩ := h1 w rfl
   simp only [Instr.loadAt, Sem.run_bind] at e2
   simp only [resF, Sem.run_bind, ← e2]
   have : a.eval (.tmp x) = a.tmps.getD x undef := rfl
   rw [← this, e1]
theorem resAll_ok {h : AH} {w : World} {tm : Tr AV} {a : Act} (rt : TR M tm a.tmps) (r : Rel M h w) : ∀ {l : List ResultVar} {vs : List AV}, resAll P tm h l = some vs →
   ∃ us, (l.mapM (resF a.tmps)).run P w = .ok us w ∧ AV.RL M vs us
 | [], vs, hr => by simp only [resAll, Option.some.injEq] at hr; subst hr; exact ⟨[], by simp, rfl⟩
 | rv :: l, vs, hr => by
   simp only [resAll] at hr
   split at hr
   · rename_i v hv
     split at hr
     · rename_i vs' hvs
       simp only [Option.some.injEq] at hr; subst hr
       obtain ⟨u, h1, h2⟩ := resOne_ok hv rt r
       obtain ⟨us, h3, h4⟩ := resAll_ok rt r hvs
       refine ⟨u :: us, ?_, by simp only [AV.RL]; exact ⟨u, us, h2, h4, rfl⟩⟩
       simp only [List.mapM_cons, Sem.run_bind, h1, Result.andThen_ok, h3, Sem.run_pure]
     · cases hr
   · cases hr
theorem resA_ok {h : AH} {w : World} {tm : Tr AV} {a : Act} {fn : Func} {v : AV} (hr : resA P tm h fn.results.toList = some v) (rt : TR M tm a.tmps) (r : Rel M h w) :
   ∃ u, (results fn a.tmps).run P w = .ok u w ∧ v.R M u := by
 unfold resA at hr
 cases hra : resAll P tm h fn.results.toList with
 | none => simp [hra] at hr
 | some vs =>
   obtain ⟨us, h1, h2⟩ := resAll_ok rt r hra
   have hrun : ∀ u, (if hh : us.toArray.size = 1 then us.toArray[0] else Value.tuple us.toArray) = u → (results fn a.tmps).run P w = .ok u w := fun u e => by
     rw [results_eq, Array.mapM_eq_mapM_toList]
     simp only [Sem.run_bind, Sem.run_map, h1, Result.andThen_ok, Sem.run_pure, e]
   rw [hra] at hr
   have hl := RL_length h2
   match vs, hr with
   | [], hr =>
     simp only [Option.some.injEq] at hr; subst hr
     have : us = [] := by simpa using hl
     subst this
     exact ⟨.tuple #[], hrun _ (by simp), by simp [AV.R, AV.RL]⟩
   | [x], hr =>
     simp only [Option.some.injEq] at hr; subst hr
     simp only [AV.RL] at h2
     obtain ⟨u, vs', r1, r2, rfl⟩ := h2
     subst r2
     exact ⟨u, hrun _ (by simp), r1⟩
   | x :: y :: l, hr =>
     simp only [Option.some.injEq] at hr; subst hr
     refine ⟨.tuple us.toArray, hrun _ (by rw [dif_neg (by simp [hl])]), by simp only [AV.R]; exact ⟨us, h2, rfl⟩⟩
theorem callA_ok {rec : Rc} (hG : Good P rec) {f : FuncId} {args : List AV} {h h' : AH} {v : AV} (hc : callA P rec f args h = some (v, h')) :
   (h.nx ≤ h'.nx ∧ Ab h h') ∧ ∀ (M : Mp) (us : List Value) (w : World) (r : Option Nat) (R : Ending → World → Prop), AV.RL M args us → Rel M h w → Fresh M h h' →
     (∀ M' u w', v.R M' u → Rel M' h' w' → Fr h h' M M' w w' → Ab h h' → R (.returned u) w') →
     (callFunc f us.toArray).run P w = .ok (.enter f us.toArray) w ∧ CallsIn (FW r) 0 P f us.toArray w R := by
 unfold callA at hc
 split at hc
 · rename_i g hsm
   exact (hG.sm f).1 g hsm args h v h' hc
 · rename_i g hsm
   exact (hG.sm f).2.2 g hsm args h v h' hc
 · cases hc
 · split at hc
   case h_2 => cases hc
   rename_i fn hf
   cases hok : okFn fn with
   | false => rw [hok] at hc; cases hc
   | true =>
     rw [hok, cond_true] at hc
     split at hc
     · rename_i c hb
       split at hc
       · rename_i tm htm
         have main : ∀ (x : AX) (s : St), rec.code c ⟨tm, max fn.ntmps args.length, [], none, h⟩ = some (x, s) → (x = .nm ∨ x = .rt) →
             (match takeAll s.h s.df with
               | some h' => match resA P s.tm h' fn.results.toList with
                 | some v => some (v, h')
                 | none => none
               | none => none) = some (v, h') →
             (h.nx ≤ h'.nx ∧ Ab h h') ∧ ∀ (M : Mp) (us : List Value) (w : World) (r : Option Nat) (R : Ending → World → Prop), AV.RL M args us → Rel M h w → Fresh M h h' →
               (∀ M' u w', v.R M' u → Rel M' h' w' → Fr h h' M M' w w' → Ab h h' → R (.returned u) w') →
               (callFunc f us.toArray).run P w = .ok (.enter f us.toArray) w ∧ CallsIn (FW r) 0 P f us.toArray w R := by
           intro x s hrec hx hrest
           obtain ⟨⟨g1, ga⟩, g2, g3, g4⟩ := hG.code _ _ _ _ hrec
           split at hrest
           · rename_i h2 htk
             split at hrest
             · rename_i v2 hres
               simp only [Option.some.injEq, Prod.mk.injEq] at hrest
               obtain ⟨rfl, rfl⟩ := hrest
               have hnx : s.h.nx = h2.nx := by
                 clear g4
                 generalize s.df = l at htk
                 generalize s.h = hh at htk
                 induction l generalizing hh with
                 | nil => simp only [takeAll, Option.some.injEq] at htk; rw [htk]
                 | cons d l ih =>
                   simp only [takeAll] at htk
                   split at htk
                   · split at htk
                     · rename_i h1 hp
                       have := (AH.put_nx hp).1
                       rw [← ih h1 htk]; omega
                     · cases htk
                   · cases htk
               refine ⟨⟨by simp only at g1; omega, ga.trans (takeAll_ab htk)⟩, fun M us w r R ra rr fr k => ⟨?_, ?_⟩⟩
               · have hnn : ¬ (fn.name = "runtime.NumGoroutine") := by simpa [okFn] using hok
                 simp [callFunc, hf, hnn, hb]
               · show CallsIn (FW none) 0 P f us.toArray w R
                 refine callsIn_of_wp_marks hf hb trivial ?_
                 have hl := RL_length ra
                 have hfr : Fresh M h s.h := fun id e1 e2 => fr id e1 (by omega)
                 refine g4 M _ w none _ ⟨?_, ?_, rfl, rr⟩ rfl hfr ?_
                 · simp only
                   exact initT_TR htm ra
                 · simp only [Array.size_append, List.size_toArray, Array.size_replicate, hl]; omega
                 · intro M' a' w' st f1 a1
                   have tk := takeAll_ok (M := M') (fn := fn) (tmps := a'.tmps) (R := R) (r := none) (P := P) htk st.df st.h
                   have fin := tk.2 (fun w2 t1 t2 t3 => by
                     obtain ⟨u, e1, e2⟩ := resA_ok (a := a') hres st.tm t1
                     exact ⟨u, e1, k M' u w2 e2 t1 (f1.trans a1.nx t3.nx t2) (a1.trans t3)⟩)
                   rcases hx with rfl | rfl
                   · exact fin
                   · exact fin
             · cases hrest
           · cases hrest
         split at hc
         · rename_i s hrec; exact main _ _ hrec (.inl rfl) hc
         · rename_i s hrec; exact main _ _ hrec (.inr rfl) hc
         · cases hc
       · cases hc
     · cases hc
end
end Go.Proofs.YtinijejfhmcmdaaDoor.Ex
end
section
namespace Go.Proofs.YtinijejfhmcmdaaDoor.Ex
open Go
section
variable {P : Program} {M : Mp}
theorem setPs_ok : ∀ {ps : List Tmp} {args : List AV} {tm tm' : Tr AV} {sz : Nat} {tmps : Array Value} {us : List Value}, setPs tm sz ps args = some tm' → TR M tm tmps → tmps.size = sz → AV.RL M args us →
   TR M tm' ((ps.zip us).foldl (fun t p => t.setIfInBounds p.1 p.2) tmps) ∧ ((ps.zip us).foldl (fun t p => t.setIfInBounds p.1 p.2) tmps).size = sz ∧ us.length = ps.length
 | [], [], tm, tm', sz, tmps, us, h, r, hs, ra => by
   simp only [setPs, Option.some.injEq] at h; subst h
   simp only [AV.RL] at ra; subst ra
   exact ⟨r, hs, rfl⟩
 | [], _ :: _, _, _, _, _, _, h, _, _, _ => by simp [setPs] at h
 | _ :: _, [], _, _, _, _, _, h, _, _, _ => by simp [setPs] at h
 | p :: ps, a :: args, tm, tm', sz, tmps, us, h, r, hs, ra => by
   simp only [setPs, nblt, Bool.cond_decide] at h
   split at h
   · rename_i hp
     split at h
     · rename_i t ht
       simp only [AV.RL] at ra
       obtain ⟨u, us', r1, r2, rfl⟩ := ra
       have r' := r.put (by rw [hs]; exact hp) ht r1
       obtain ⟨e1, e2, e3⟩ := setPs_ok h r' (by simpa using hs) r2
       exact ⟨by simpa using e1, by simpa using e2, by simp [e3]⟩
     · cases h
   · cases h
theorem endRd_ok {h h' : AH} {w : World} {l b κ : Nat} {jump : Option Code} (he : endRd h l jump = some h') (r : Rel M h w) (hM : M l = some (b, κ)) :
   ∃ w', (Instr.endRound b jump).run P w = .ok (.bool jump.isNone) w' ∧ Rel M h' w' ∧ Fr h h' M M w w' ∧ Ab h h' := by
 unfold endRd at he
 split at he
 · rename_i st pe tm sz ps asg bo D hg
   obtain ⟨ob, hb, fn, tmps, bD, cD, hD, rt, hsz, rfl⟩ := Ob_of r hg hM
   exact ⟨_, run_endRound jump hb, put_ok r hg he hM (upd_setObj (heap_lt hb)) ⟨fn, tmps, bD, cD, hD, rt, hsz, rfl⟩⟩
 · cases he
theorem endRd_nx {h h' : AH} {l : Nat} {jump : Option Code} (he : endRd h l jump = some h') : h'.nx = h.nx := by
 unfold endRd at he
 split at he
 · exact (AH.put_nx he).1
 · cases he
theorem endRd_ab {h h' : AH} {l : Nat} {jump : Option Code} (he : endRd h l jump = some h') : Ab h h' := by
 unfold endRd at he
 split at he
 · rename_i hg; exact put_ab hg he
 · cases he
theorem roundA_ok {rec : Rc} (hG : Good P rec) {l : Nat} {args : List AV} {h h' : AH} {v : AV} (hc : roundA rec l args h = some (v, h')) :
   (h.nx ≤ h'.nx ∧ Ab h h') ∧ ∀ (M : Mp) (us : List Value) (b κ : Nat) (w : World) (r : Option Nat) (R : Ending → World → Prop), M l = some (b, κ) → AV.RL M args us → Rel M h w → Fresh M h h' →
     (∀ M' u w', v.R M' u → Rel M' h' w' → Fr h h' M M' w w' → Ab h h' → R (.returned u) w') →
     ∃ fn tmps asg bo, (Instr.yield b us.toArray).run P w = .ok (.round b fn tmps asg bo) w ∧ RoundIn (FW r) 0 P b fn tmps asg bo w R := by
 unfold roundA at hc
 split at hc
 · rename_i st pe tm sz ps asg bo D hg
   split at hc
   · rename_i tm' hps
     split at hc
     · rename_i s hra
       obtain ⟨⟨g1, ga⟩, g2, g3, g4⟩ := hG.code _ _ _ _ hra
       simp only at g1 g2 g3
       split at hc
       · rename_i pe1 tm1 sz1 ps1 asg1 bo1 D1 hg1
         split at hc
         · rename_i hdf
           split at hc
           · rename_i h2 hp2
             have hnx2 := (AH.put_nx hp2).1
             have main : ∀ (x : AX) (s2 : St) (jump : Option Code) (bv : Bool), rec.code bo ⟨s.tm, s.sz, [], some l, h2⟩ = some (x, s2) →
                 (match endRd s2.h l jump with | some h3 => some (AV.b bv, h3) | none => none) = some (v, h') → bv = jump.isNone →
                 (∀ (R : Ending → World → Prop) (b : Nat) (a : Act) (w : World), (∃ v w', (Instr.endRound b jump).run P w = .ok v w' ∧ R (.returned v) w') → roundPost P b R (exitOf x) a w) →
                 (h.nx ≤ h'.nx ∧ Ab h h') ∧ ∀ (M : Mp) (us : List Value) (b κ : Nat) (w : World) (r : Option Nat) (R : Ending → World → Prop), M l = some (b, κ) → AV.RL M args us → Rel M h w → Fresh M h h' →
                   (∀ M' u w', v.R M' u → Rel M' h' w' → Fr h h' M M' w w' → Ab h h' → R (.returned u) w') →
                   ∃ fn tmps asg bo, (Instr.yield b us.toArray).run P w = .ok (.round b fn tmps asg bo) w ∧ RoundIn (FW r) 0 P b fn tmps asg bo w R := by
               intro x s2 jump bv hrb hend hbv hpost
               obtain ⟨⟨k1, ka⟩, k2, k3, k4⟩ := hG.code _ _ _ _ hrb
               simp only at k1 k2 k3
               split at hend
               · rename_i h3 he
                 simp only [Option.some.injEq, Prod.mk.injEq] at hend
                 obtain ⟨rfl, rfl⟩ := hend
                 have hnx3 := endRd_nx he
                 refine ⟨⟨by omega, ((ga.trans (put_ab hg1 hp2)).trans ka).trans (endRd_ab he)⟩, fun M us b κ w r R hM ra rr fr k => ?_⟩
                 obtain ⟨ob, hb, fn, tmps, bD, cD, hD, rt, hsz, rfl⟩ := Ob_of rr hg hM
                 obtain ⟨p1, p2, p3⟩ := setPs_ok hps rt hsz ra
                 have hz : (ps.zip us.toArray).foldl (fun t (p : Tmp × Value) => t.setIfInBounds p.1 p.2) tmps = (ps.toList.zip us).foldl (fun t p => t.setIfInBounds p.1 p.2) tmps := by
                   rw [← Array.foldl_toList, Array.toList_zip]
                 refine ⟨fn, _, asg, bo, run_yield (P := P) (args := us.toArray) hb (by simpa using p3), ?_⟩
                 refine roundIn_of_wpIn trivial ?_
                 show Code.wpIn (FW (some b)) 0 P asg _ _ w
                 refine g4 M _ w (some b) _ ⟨?_, ?_, rfl, rr⟩ ⟨b, κ, hM, rfl⟩ (fun id e1 e2 => fr id e1 (by omega)) ?_
                 · simp only; rw [show ((ps.zip us.toArray).foldl (fun tmps x => match x with | (t, a) => tmps.setIfInBounds t a) tmps) = (ps.zip us.toArray).foldl (fun t (p : Tmp × Value) => t.setIfInBounds p.1 p.2) tmps from rfl, hz]; exact p1
                 · simp only; rw [show ((ps.zip us.toArray).foldl (fun tmps x => match x with | (t, a) => tmps.setIfInBounds t a) tmps) = (ps.zip us.toArray).foldl (fun t (p : Tmp × Value) => t.setIfInBounds p.1 p.2) tmps from rfl, hz]; exact p2
                 · intro M1 a1 w1 st1 f1 ab1
                   have hM1 := f1.ext _ _ hM
                   obtain ⟨ob1, hb1, fn1, tmps1, bD1, cD1, hD1, rt1, hsz1, rfl⟩ := Ob_of st1.h hg1 hM1
                   refine ⟨_, run_beginRound hb1 rfl, ?_⟩
                   obtain ⟨q1, q2, q3⟩ := put_ok (w' := w1.putObj b (.loop { state := .busy, pending := pe1, fn := fn1, tmps := tmps1, params := ps1, assign := asg1, body := bo1, defers := bD1 })) st1.h hg1 hp2 hM1 (upd_setObj (heap_lt hb1)) ⟨fn1, tmps1, bD1, cD1, hD1, rt1, hsz1, rfl⟩
                   have hdef : a1.defers = [] := by have := st1.df; rw [hdf] at this; exact this
                   refine k4 M1 a1 _ (some b) _ ⟨st1.tm, st1.sz, hdef, q1⟩ ⟨b, κ, hM1, rfl⟩ ?_ ?_
                   · have fr1 : Fresh M1 s.h h3 := Fresh.right fr g1 f1
                     exact fun id (e1 : h2.nx ≤ id) (e2 : id < s2.h.nx) => fr1 id (by omega) (by omega)
                   · intro M2 a2 w2 st2 f2 ab2
                     have hM2 := f2.ext _ _ hM1
                     obtain ⟨w3, e1, e2, e3, e4⟩ := endRd_ok (P := P) he st2.h hM2
                     refine hpost R b a2 w2 ⟨_, w3, e1, k M2 _ w3 (by simp only [AV.R, hbv]) e2 ?_ ?_⟩
                     · have x1 := f1.trans g1 (by omega) q2
                       have x2 := x1.trans (show h.nx ≤ h2.nx by omega) k1 f2
                       exact x2.trans (show h.nx ≤ s2.h.nx by omega) (by omega) e3
                     · exact ((ab1.trans q3).trans ab2).trans e4
               · cases hend
             split at hc
             · rename_i s2 hrb; exact main _ s2 none true hrb hc rfl (fun R b a w e => e)
             · rename_i s2 hrb; exact main _ s2 (some .ret) false hrb hc rfl (fun R b a w e => e)
             · rename_i id s2 hrb; exact main _ s2 (some (.exit id)) false hrb hc rfl (fun R b a w e => e)
             · cases hc
           · cases hc
         · cases hc
       · cases hc
     · cases hc
   · cases hc
 · cases hc
theorem opF_ok {rec : Rc} (hG : Good P rec) {tm : Tr AV} {o : Oper} {h h' : AH} {v : AV} (hc : opF P rec tm o h = some (v, h')) :
   (h.nx ≤ h'.nx ∧ Ab h h') ∧ ∀ (M : Mp) (a : Act) (w : World) (r : Option Nat) (K : Act → World → Prop) (Q : Exit → Act → World → Prop), (∀ x ∈ o.op.operands.toList, (evT tm x).R M (a.eval x)) → Rel M h w → Fresh M h h' →
     (∀ M' u w', v.R M' u → Rel M' h' w' → Fr h h' M M' w w' → Ab h h' → K (a.put o.dst u) w') → o.wpIn (FW r) 0 P a w K Q := by
 unfold opF at hc
 split at hc
 · rename_i v1 h1 ho
   simp only [nble, Bool.cond_decide] at hc
   split at hc
   · rename_i hle
     simp only [Option.some.injEq, Prod.mk.injEq] at hc
     obtain ⟨rfl, rfl⟩ := hc
     refine ⟨⟨hle, opS_ab ho⟩, fun M a w r K Q hx rr fr k => ⟨fun _ _ => trivial, ?_⟩⟩
     obtain ⟨hd, ok⟩ := opS_ok ho hx rr
     rw [Oper.semAt_eq _ _ _ hd]
     obtain ⟨M', u, w', nx, e1, e2, e3, e4, e5, e6⟩ := ok fr
     rw [e1]
     rcases e2 with rfl | ⟨rfl, rfl⟩
     · exact k M' u w' e3 e4 e5 e6
     · exact k M' undef w' e3 e4 e5 e6
   · cases hc
 · rename_i f args h1 ho
   split at hc
   · rename_i g hsm
     split at hc
     · rename_i v1 hv
       simp only [Option.some.injEq, Prod.mk.injEq] at hc
       obtain ⟨rfl, rfl⟩ := hc
       refine ⟨⟨Nat.le_refl _, Ab.refl _⟩, fun M a w r K Q hx rr _ k => ⟨fun _ _ => trivial, ?_⟩⟩
       obtain ⟨hd, _, us, ra, e1⟩ := opS_ok ho hx rr
       obtain ⟨u, e2, e3⟩ := (hG.sm f).2.1 g hsm args v1 M us w hv ra
       rw [Oper.semAt_eq _ _ _ hd, e1, e2]
       exact k M u w e3 rr (Fr.same _ M w) (Ab.refl _)
     · cases hc
   have c1 := callA_ok hG hc
   refine ⟨c1.1, fun M a w r K Q hx rr fr k => ⟨fun _ _ => trivial, ?_⟩⟩
   obtain ⟨hd, _, us, ra, e1⟩ := opS_ok ho hx rr
   rw [Oper.semAt_eq _ _ _ hd, e1]
   obtain ⟨c2, c3⟩ := c1.2 M us w r (fun | .returned u, w' => K (a.put o.dst u) w' | .panicked c, w' => Q (.panic c) a w' | .outgrown, _ => LetsOut Q) ra rr fr k
   rw [c2]
   exact ⟨fun e => by simp [FW] at e, c3⟩
 · rename_i l args h1 ho
   have c1 := roundA_ok hG hc
   refine ⟨c1.1, fun M a w r K Q hx rr fr k => ⟨fun _ _ => trivial, ?_⟩⟩
   obtain ⟨hd, _, us, b, κ, hM, ra, e1⟩ := opS_ok ho hx rr
   rw [Oper.semAt_eq _ _ _ hd, e1]
   obtain ⟨fn, tmps, asg, bo, c2, c3⟩ := c1.2 M us b κ w r (fun | .returned u, w' => K (a.put o.dst u) w' | .panicked c, w' => Q (.panic c) a w' | .outgrown, _ => LetsOut Q) hM ra rr fr k
   rw [c2]
   exact ⟨fun e => by simp [FW] at e, c3⟩
 · cases hc
theorem wantA_ok {ops : Array Oper} {tm : Tr AV} {a : Act} {o : Oper} {b : Bool} (h : wantA ops.toList tm o = some b) (r : ∀ g d, o.guard = some g → (ops[g.1]?).bind (·.dst) = some d → (evT tm (.tmp d)).R M (a.tmps.getD d undef)) :
   Region.wanted o (yielded ops a.tmps) = b := by
 unfold wantA at h
 unfold Region.wanted
 cases hg : o.guard with
 | none => rw [hg] at h; simpa using h
 | some g =>
   obtain ⟨j, want⟩ := g
   rw [hg] at h
   simp only at h ⊢
   rw [Array.getElem?_toList] at h
   unfold yielded
   cases hj : ops[j]? with
   | none => rw [hj] at h; cases h
   | some oj =>
     rw [hj] at h
     simp only [Option.bind_some] at h ⊢
     cases hd : oj.dst with
     | none => rw [hd] at h; cases h
     | some d =>
       rw [hd] at h
       simp only [Option.bind_some] at h ⊢
       have rv := r (j, want) d hg (by simp [hj, hd])
       have hget : a.tmps.getD d undef = (a.tmps[d]?).getD undef := by simp [Array.getD_eq_getD_getElem?]
       rw [hget] at rv
       split at h
       · rename_i x hx
         rw [hx] at rv
         simp only [AV.R] at rv
         simp only [Option.some.injEq] at h; subst h
         cases ht : a.tmps[d]? with
         | none => rw [ht] at rv; simp [undef] at rv
         | some u => rw [ht] at rv; simp at rv; subst rv; simp
       · rename_i hx
         rw [hx] at rv
         simp only [AV.R, AV.RL] at rv
         obtain ⟨vs, rfl, rv⟩ := rv
         simp only [Option.some.injEq] at h; subst h
         cases ht : a.tmps[d]? with
         | none => simp
         | some u => rw [ht] at rv; simp at rv; subst rv; simp
       · cases h
theorem opsA_ok {rec : Rc} (hG : Good P rec) (ops : Array Oper) : ∀ (rest : List Oper) (s s' : St), opsA P rec ops.toList rest s = some s' → (s.h.nx ≤ s'.h.nx ∧ Ab s.h s'.h) ∧ s'.sz = s.sz ∧ s'.rd = s.rd ∧
   ∀ (k : Nat), rest = ops.toList.drop k → ∀ (M : Mp) (a : Act) (w : World) (r : Option Nat) (Q : Exit → Act → World → Prop), StR M s a w → Fresh M s.h s'.h →
     (∀ M' a' w', StR M' s' a' w' → Fr s.h s'.h M M' w w' → Ab s.h s'.h → Q .normal a' w') → wpOpsIn (FW r) 0 P ops Q (List.range' k (ops.size - k)) a w
 | [], s, s', h => by
   simp only [opsA, Option.some.injEq] at h; subst h
   refine ⟨⟨Nat.le_refl _, Ab.refl _⟩, rfl, rfl, fun k hk M a w r Q st fr q => ?_⟩
   have : ops.size - k = 0 := by
     have := congrArg List.length hk
     simp at this; omega
   rw [this]
   exact q M a w st (Fr.same _ _ _) (Ab.refl _)
 | o :: rest, s, s', h => by
   simp only [opsA] at h
   have hlook : ∀ k, o :: rest = ops.toList.drop k → ops[k]? = some o ∧ rest = ops.toList.drop (k + 1) ∧ ops.size - k = (ops.size - (k + 1)) + 1 := fun k hk => by
     have h1 : (ops.toList.drop k)[0]? = some o := by rw [← hk]; rfl
     rw [List.getElem?_drop, Nat.add_zero, Array.getElem?_toList] at h1
     refine ⟨h1, ?_, ?_⟩
     · rw [← List.drop_drop (i := 1), ← hk]; rfl
     · have := (Array.getElem?_eq_some_iff.1 h1).1; omega
   split at h
   · rename_i hw
     split at h
     · rename_i v h1 ho
       split at h
       · rename_i s1 hp
         obtain ⟨⟨o1, oa⟩, o2⟩ := opF_ok hG ho
         obtain ⟨p1, p2, p3, p4⟩ := putA_same hp
         obtain ⟨⟨i1, ia⟩, i2, i3, i4⟩ := opsA_ok hG ops rest s1 s' h
         simp only at p1 p2 p3
         refine ⟨⟨by rw [← p1] at o1; omega, by rw [p1] at ia; exact oa.trans ia⟩, by rw [i2, p2], by rw [i3, p3], fun k hk M a w r Q st fr q => ?_⟩
         obtain ⟨e1, e2, e3⟩ := hlook k hk
         rw [e3, List.range'_succ]
         simp only [wpOpsIn, e1]
         have hwd := wantA_ok (M := M) (a := a) hw (fun g d _ _ => st.tm d)
         rw [hwd]
         simp only [if_true]
         refine o2 M a w r _ Q (fun x _ => ev_ok st.tm x) st.h (fun id q1 q2 => fr id q1 (by rw [← p1] at q2; omega)) (fun M' u w' rv rh f ab => ?_)
         refine i4 (k + 1) e2 M' _ w' r Q (putA_ok hp ⟨st.tm.mono f.ext, st.sz, st.df.mono f.ext, rh⟩ rv) ?_ (fun M2 a2 w2 st2 f2 ab2 => ?_)
         · have := Fresh.right fr o1 f
           rw [p1]; exact this
         · rw [p1] at f2 ab2
           exact q M2 a2 w2 st2 (f.trans o1 (by rw [p1] at i1; exact i1) f2) (ab.trans ab2)
       · cases h
     · cases h
   · rename_i hw
     split at h
     · rename_i s1 hp
       obtain ⟨p1, p2, p3, p4⟩ := putA_same hp
       obtain ⟨⟨i1, ia⟩, i2, i3, i4⟩ := opsA_ok hG ops rest s1 s' h
       refine ⟨⟨by rw [← p1]; exact i1, by rw [p1] at ia; exact ia⟩, by rw [i2, p2], by rw [i3, p3], fun k hk M a w r Q st fr q => ?_⟩
       obtain ⟨e1, e2, e3⟩ := hlook k hk
       rw [e3, List.range'_succ]
       simp only [wpOpsIn, e1]
       have hwd := wantA_ok (M := M) (a := a) hw (fun g d _ _ => st.tm d)
       rw [hwd]
       simp only [Bool.false_eq_true, if_false]
       refine ⟨fun _ _ => trivial, i4 (k + 1) e2 M _ w r Q (putA_ok hp st (by simp [undefA, AV.R, AV.RL, undef])) (by rw [p1]; exact fr) (fun M2 a2 w2 st2 f2 ab2 => ?_)⟩
       rw [p1] at f2 ab2
       exact q M2 a2 w2 st2 f2 ab2
     · cases h
   · cases h
end
end Go.Proofs.YtinijejfhmcmdaaDoor.Ex
end
section
namespace Go.Proofs.YtinijejfhmcmdaaDoor.Ex
open Go
section
variable {P : Program} {rec : Rc}
def WfH (h : AH) : Prop := ∀ x, h.get x ≠ none → x < h.nx
theorem Ab.wf {h h' : AH} (a : Ab h h') (w : WfH h) : WfH h' := fun x hx => by
 rcases a.dom x hx with h1 | h1
 · have := w x h1; have := a.nx; omega
 · exact h1.2
def svGet : List (Nat × AO) → Nat → Option AO
 | [], _ => none
 | (x, o) :: l, y => if y = x then some o else svGet l y
theorem hideA_ok : ∀ {l : List Nat} {h hv : AH} {sv : List (Nat × AO)}, hideA h l = some (hv, sv) → hv.nx = h.nx ∧ (∀ y, hv.get y = if y ∈ l then none else h.get y) ∧ (∀ y, svGet sv y = if y ∈ l then h.get y else none)
 | [], h, hv, sv, e => by
   simp only [hideA, Option.some.injEq, Prod.mk.injEq] at e
   obtain ⟨rfl, rfl⟩ := e
   exact ⟨rfl, fun y => by simp, fun y => by simp [svGet]⟩
 | x :: l, h, hv, sv, e => by
   simp only [hideA] at e
   split at e
   · rename_i o hg
     split at e
     · rename_i h1 hp
       split at e
       · rename_i h2 sv2 e2
         simp only [Option.some.injEq, Prod.mk.injEq] at e
         obtain ⟨rfl, rfl⟩ := e
         obtain ⟨i1, i2, i3⟩ := hideA_ok e2
         have hgp := AH.get_put hp
         refine ⟨i1.trans (AH.put_nx hp).1, fun y => ?_, fun y => ?_⟩
         · rw [i2, hgp]
           by_cases hy : y = x
           · subst hy; simp
           · simp [hy]
         · simp only [svGet, i3, hgp]
           by_cases hy : y = x
           · subst hy; simp [hg]
           · simp [hy]
       · cases e
     · cases e
   · rename_i hg
     obtain ⟨i1, i2, i3⟩ := hideA_ok e
     refine ⟨i1, fun y => ?_, fun y => ?_⟩
     · rw [i2]
       by_cases hy : y = x
       · subst hy; simp [hg]
       · simp [hy]
     · rw [i3]
       by_cases hy : y = x
       · subst hy; simp [hg]
       · simp [hy]
theorem showA_ok : ∀ {sv : List (Nat × AO)} {g g2 : AH}, showA g sv = some g2 → g2.nx = g.nx ∧ (∀ y, g2.get y = (svGet sv y).or (g.get y)) ∧ (∀ y, g.get y ≠ none → svGet sv y = none)
 | [], g, g2, e => by
   simp only [showA, Option.some.injEq] at e; subst e
   exact ⟨rfl, fun y => by simp [svGet], fun _ _ => rfl⟩
 | (x, o) :: l, g, g2, e => by
   simp only [showA] at e
   split at e
   · cases e
   · rename_i hg
     split at e
     · rename_i g1 hp
       obtain ⟨i1, i2, i3⟩ := showA_ok e
       have hgp := AH.get_put hp
       refine ⟨i1.trans (AH.put_nx hp).1, fun y => ?_, fun y hy => ?_⟩
       · rw [i2, hgp]
         simp only [svGet]
         by_cases hy : y = x
         · subst hy
           have := i3 y (by rw [hgp]; simp)
           simp [this]
         · simp [hy]
       · simp only [svGet]
         by_cases hyx : y = x
         · subst hyx; exact absurd hg hy
         · simp only [hyx, if_false]
           exact i3 y (by rw [hgp]; simp [hyx]; exact hy)
     · cases e
theorem mergeW_mem {bs : Nat} {wl : List Nat} : ∀ {l : List Nat} {x : Nat}, (x ∈ wl → x ∈ mergeW bs wl l) ∧ (x < bs → x ∈ l → x ∈ mergeW bs wl l)
 | [], x => by simp [mergeW]
 | y :: l, x => by
   have ih := mergeW_mem (bs := bs) (wl := wl) (l := l) (x := x)
   simp only [mergeW, nblt]
   cases hc : (decide (y < bs) && !memN y wl) with
   | true =>
     simp only [cond_true, List.mem_cons]
     refine ⟨fun hx => .inr (ih.1 hx), fun hb hx => ?_⟩
     rcases hx with rfl | hx
     · exact .inl rfl
     · exact .inr (ih.2 hb hx)
   | false =>
     simp only [cond_false]
     refine ⟨ih.1, fun hb hx => ?_⟩
     rcases List.mem_cons.1 hx with rfl | hx
     · simp [hb] at hc
       exact ih.1 (memN_iff.1 hc)
     · exact ih.2 hb hx
theorem rangeL_mem : ∀ {f lo hi x : Nat}, hi ≤ lo + f → (x ∈ rangeL f lo hi ↔ lo ≤ x ∧ x < hi)
 | 0, lo, hi, x, h => by simp [rangeL]; omega
 | f + 1, lo, hi, x, h => by
   simp only [rangeL, nblt, Bool.cond_decide]
   split
   · rw [List.mem_cons, rangeL_mem (by simp; omega)]
     simp; omega
   · simp; omega
theorem hideL_ok : ∀ {un : List DR} {l : List Nat}, hideL un = some l → ∀ x, (x ∈ l ↔ ∃ r ∈ un, inDR x r = true)
 | [], l, e, x => by simp only [hideL, Option.some.injEq] at e; subst e; simp
 | r :: un, l, e, x => by
   simp only [hideL, nble, Bool.cond_decide] at e
   split at e
   · rename_i hle
     split at e
     · rename_i l2 e2
       simp only [Option.some.injEq] at e; subst e
       have ih := hideL_ok e2 x
       simp only [List.mem_append, ih, rangeL_mem hle, List.mem_cons, exists_eq_or_imp]
       simp only [inDR, nble, nblt, Bool.or_eq_true, Bool.and_eq_true, decide_eq_true_eq, memN_iff]
     · cases e
   · cases e
structure View (P : Program) (rec : Rc) (tm : Tr AV) (o : Oper) (h : AH) (un : List DR) (v : AV) (h2 : AH) (wr : List Nat) (full : Bool) (ld : Option Nat) (V V' : AH) : Prop where
 run : opF P rec tm o V = some (v, V')
 nx : V.nx = h.nx
 nx' : V'.nx = h2.nx
 sub : ∀ x ob, V.get x = some ob → h.get x = some ob
 vis : ∀ x, V.get x ≠ none → ∀ r ∈ un, inDR x r = false
 kind : full = true ∨ (wr = [] ∧ ∀ x, V.get x ≠ none → ld = some x)
 new : ∀ x, (x ∈ wr ∨ (h.nx ≤ x ∧ x < h2.nx)) → h2.get x = V'.get x
 old : ∀ x, x ∉ wr → ¬ (h.nx ≤ x ∧ x < h2.nx) → h2.get x = h.get x
 keep : ∀ x, V.get x ≠ none → x ∉ wr → V'.get x = V.get x
 ab : Ab h h2
theorem get_lf (nx bs : Nat) (wl : List Nat) (x : Nat) : (⟨.lf, nx, bs, wl⟩ : AH).get x = none := rfl
theorem noneW_ok {nx : Nat} {wr : List Nat} {un : List DR} (h : noneW nx wr un = true) : (∀ x ∈ wr, x < nx) ∧ ∀ r ∈ un, wr ≠ [] → r.full = false ∧ (∀ x, r.ld = some x → x ∉ wr) ∧ ∀ x ∈ wr, inDR x r = false := by
 unfold noneW at h
 split at h
 · exact ⟨by simp, fun r _ e => absurd rfl e⟩
 · simp only [Bool.and_eq_true, List.all_eq_true] at h
   obtain ⟨h1, h2⟩ := h
   refine ⟨fun x hx => by have := h1 x hx; simpa [nblt] using this, fun r hr _ => ?_⟩
   obtain ⟨⟨q1, q2⟩, q3⟩ := h2 r hr
   refine ⟨by simpa using q1, fun x hx hm => ?_, fun x hx => by simpa using q3 x hx⟩
   rw [hx] at q2
   have := memN_iff.2 hm
   simp [this] at q2
theorem viewRun_ok (hG : Good P rec) {tm : Tr AV} {o : Oper} {h h2 : AH} {un : List DR} {v : AV} {wr : List Nat} {full : Bool} {ld : Option Nat} (hv : viewRun P rec tm o h un = some (v, h2, wr, full, ld))
   (hw : WfH h) (hun : ∀ r ∈ un, r.hi ≤ h.nx ∧ ∀ x ∈ r.wr, x < h.nx) (hn : noneW h.nx wr un = true) : ∃ V V', View P rec tm o h un v h2 wr full ld V V' := by
 unfold viewRun at hv
 split at hv
 · -- no memory
   split at hv
   · rename_i v1 h' ho
     simp only [nbeq, Bool.cond_decide] at hv
     split at hv
     · rename_i hnx
       simp only [Option.some.injEq, Prod.mk.injEq] at hv
       obtain ⟨rfl, rfl, rfl, rfl, rfl⟩ := hv
       exact ⟨_, h', ho, rfl, hnx, fun x ob e => by simp [get_lf] at e, fun x e => absurd (get_lf _ _ _ x) e, .inr ⟨rfl, fun x e => absurd (get_lf _ _ _ x) e⟩, fun x e => by rcases e with e | e; simp at e; omega, fun _ _ _ => rfl, fun x e => absurd (get_lf _ _ _ x) e, Ab.refl _⟩
     · cases hv
   · cases hv
 · -- new memory
   split at hv
   · rename_i v1 h' ho
     simp only [nbeq, Bool.cond_decide] at hv
     split at hv
     · rename_i hnx
       simp only [Option.some.injEq, Prod.mk.injEq] at hv
       obtain ⟨rfl, rfl, rfl, rfl, rfl⟩ := hv
       exact ⟨_, h', ho, rfl, hnx, fun x ob e => by simp [get_lf] at e, fun x e => absurd (get_lf _ _ _ x) e, .inr ⟨rfl, fun x e => absurd (get_lf _ _ _ x) e⟩, fun x e => by rcases e with e | e; simp at e; omega, fun _ _ _ => rfl, fun x e => absurd (get_lf _ _ _ x) e, Ab.refl _⟩
     · split at hv
       · rename_i hnx
         split at hv
         · rename_i ob hob
           split at hv
           · rename_i h3 h3n
             simp only [Option.some.injEq, Prod.mk.injEq] at hv
             obtain ⟨rfl, rfl, rfl, rfl, rfl⟩ := hv
             have hg := AH.get_new h3n
             have hx3 := (AH.new_nx h3n).1
             exact ⟨_, h', ho, rfl, by rw [hnx, hx3], fun x ob e => by simp [get_lf] at e, fun x e => absurd (get_lf _ _ _ x) e, .inr ⟨rfl, fun x e => absurd (get_lf _ _ _ x) e⟩, fun x e => by
               rcases e with e | e
               · simp at e
               · have : x = h.nx := by omega
                 subst this; rw [hg, hob]; simp, fun x _ e => by rw [hg, if_neg (by omega)], fun x e => absurd (get_lf _ _ _ x) e, new_ab h3n⟩
           · cases hv
         · cases hv
       · cases hv
   · cases hv
 · -- one block
   rename_i id hkk
   split at hv
   · rename_i ob hob
     cases ha : un.any (inDR id) with
     | true => rw [ha] at hv; cases hv
     | false =>
       rw [ha, cond_false] at hv
       split at hv
       · rename_i t ht
         split at hv
         · rename_i v1 h' ho
           simp only [nbeq, Bool.cond_decide] at hv
           split at hv
           · rename_i hnx
             split at hv
             · rename_i hwl
               simp only [Option.some.injEq, Prod.mk.injEq] at hv
               obtain ⟨rfl, rfl, rfl, rfl, rfl⟩ := hv
               have hget : ∀ x, (⟨t, h.nx, h.nx, []⟩ : AH).get x = if x = id then some ob else none := fun x => by
                 show t.get (Nat.succ x) = _
                 rw [Tr.get_set _ _ _ _ _ ht]
                 simp [Tr.get]
               have hdom : ∀ x, (⟨t, h.nx, h.nx, []⟩ : AH).get x ≠ none → x = id := fun x e => by
                 rw [hget] at e
                 by_cases hx : x = id
                 · exact hx
                 · simp [hx] at e
               have hab := (opF_ok hG ho).1.2
               refine ⟨_, h', ho, rfl, hnx, fun x ob2 e => ?_, fun x e r hr => ?_, .inr ⟨rfl, fun x e => by rw [hdom x e]⟩, fun x e => by rcases e with e | e; simp at e; omega, fun _ _ _ => rfl, fun x e _ => ?_, Ab.refl _⟩
               · have := hdom x (by rw [e]; simp)
                 subst this
                 rw [hget] at e
                 simp at e; rw [hob, e]
               · rw [hdom x e]
                 cases hh : inDR id r with
                 | false => rfl
                 | true => have : un.any (inDR id) = true := List.any_eq_true.2 ⟨r, hr, hh⟩; rw [ha] at this; cases this
               · have hx := hdom x e
                 have hlt : x < h.nx := by rw [hx]; exact hw id (by simp [hob])
                 exact hab.log x hlt hlt (by rw [hwl]; simp)
             · cases hv
           · cases hv
         · cases hv
       · cases hv
   · cases hv
 · -- all memory
   split at hv
   · rename_i l hl
     split at hv
     · rename_i hvv sv hh
       split at hv
       · rename_i v1 h' ho
         split at hv
         · rename_i g2 hs
           simp only [Option.some.injEq, Prod.mk.injEq] at hv
           obtain ⟨rfl, rfl, rfl, rfl, rfl⟩ := hv
           obtain ⟨e1, e2, e3⟩ := hideA_ok hh
           obtain ⟨f1, f2, f3⟩ := showA_ok hs
           obtain ⟨hn1, hn2⟩ := noneW_ok hn
           have hlm := hideL_ok hl
           have hab := (opF_ok hG ho).1.2
           have gV : ∀ x, (⟨hvv.t, hvv.nx, hvv.nx, []⟩ : AH).get x = if x ∈ l then none else h.get x := fun x => e2 x
           have hnx := hab.nx
           have hlog : ∀ x, x < hvv.nx → x ∉ h'.wl → h'.get x = (⟨hvv.t, hvv.nx, hvv.nx, []⟩ : AH).get x := fun x hx hn => hab.log x hx hx hn
           have hdom := hab.dom
           simp only at hnx hdom
           have f1' : g2.nx = h'.nx := f1
           have f2' : ∀ y, g2.get y = (svGet sv y).or (h'.get y) := f2
           have hg2 : ∀ x, g2.get x = if x ∈ l then (h.get x).or (h'.get x) else h'.get x := fun x => by
             rw [f2', e3]
             split <;> simp
           have lnx : ∀ x, x ∈ l → x < h.nx := fun x hx => by
             obtain ⟨r, hr, hi⟩ := (hlm x).1 hx
             simp only [inDR, nble, nblt, Bool.or_eq_true, Bool.and_eq_true, decide_eq_true_eq, memN_iff] at hi
             obtain ⟨q1, q2⟩ := hun r hr
             rcases hi with hi | hi
             · omega
             · exact q2 x hi
           have tnl : ∀ x, (x ∈ h'.wl ∨ (h.nx ≤ x ∧ x < g2.nx)) → x ∉ l := fun x hx hxl => by
             rcases hx with hx | hx
             · obtain ⟨r, hr, hi⟩ := (hlm x).1 hxl
               have := (hn2 r hr (by intro e; rw [e] at hx; simp at hx)).2.2 x hx
               rw [this] at hi; cases hi
             · have := lnx x hxl; omega
           have hold : ∀ x, x ∉ h'.wl → ¬ (h.nx ≤ x ∧ x < g2.nx) → g2.get x = h.get x := fun x hx1 hx2 => by
             have key : h'.get x = if x ∈ l then none else h.get x := by
               by_cases hlt : x < h.nx
               · rw [hlog x (by omega) hx1, gV]
               · have hxl : x ∉ l := fun e => hlt (lnx x e)
                 have h0 : h.get x = none := by
                   cases hq : h.get x with
                   | none => rfl
                   | some q => exact absurd (hw x (by simp [hq])) hlt
                 have h1 : h'.get x = none := by
                   cases hq : h'.get x with
                   | none => rfl
                   | some q =>
                     rcases hdom x (by simp [hq]) with d | d
                     · rw [gV] at d; simp [hxl, h0] at d
                     · omega
                 simp [h1, h0]
             rw [hg2, key]
             split
             · simp
             · rfl
           refine ⟨_, h', ho, e1, f1'.symm, fun x ob e => ?_, fun x e r hr => ?_, .inl rfl, fun x e => ?_, hold, fun x e hx => ?_, ?_⟩
           · rw [gV] at e
             split at e
             · cases e
             · exact e
           · rw [gV] at e
             have hxl : x ∉ l := fun hx => by simp [hx] at e
             cases hi : inDR x r with
             | false => rfl
             | true => exact absurd ((hlm x).2 ⟨r, hr, hi⟩) hxl
           · show g2.get x = _
             rw [hg2, if_neg (tnl x e)]
           · have hlt : x < h.nx := hw x (by
               rw [gV] at e
               split at e
               · exact absurd rfl e
               · exact e)
             exact hlog x (by omega) hx
           · refine ⟨by show h.nx ≤ g2.nx; omega, rfl, fun x hx => mergeW_mem.1 hx, fun x hb hx hm => ?_, fun x hx => ?_⟩
             · refine hold x (fun e => hm (mergeW_mem.2 hb e)) (by omega)
             · by_cases ht : x ∈ h'.wl ∨ (h.nx ≤ x ∧ x < g2.nx)
               · by_cases hr : h.nx ≤ x ∧ x < g2.nx
                 · exact .inr hr
                 · left
                   have hx' : g2.get x ≠ none := hx
                   rw [hg2, if_neg (tnl x ht)] at hx'
                   rcases hdom x hx' with d | d
                   · rw [gV] at d
                     split at d
                     · exact absurd rfl d
                     · exact d
                   · exact absurd ⟨by omega, by omega⟩ hr
               · left
                 have hx' : g2.get x ≠ none := hx
                 rw [hold x (fun e => ht (.inl e)) (fun e => ht (.inr e))] at hx'
                 exact hx'
         · cases hv
       · cases hv
     · cases hv
   · cases hv
theorem viewRun_ab (hG : Good P rec) {tm : Tr AV} {o : Oper} {h h2 : AH} {un : List DR} {v : AV} {wr : List Nat} {full : Bool} {ld : Option Nat} (hv : viewRun P rec tm o h un = some (v, h2, wr, full, ld))
   (hun : ∀ r ∈ un, r.hi ≤ h.nx ∧ ∀ x ∈ r.wr, x < h.nx) (hn : noneW h.nx wr un = true) : Ab h h2 := by
 unfold viewRun at hv
 split at hv
 · split at hv
   · simp only [nbeq, Bool.cond_decide] at hv
     split at hv
     · simp only [Option.some.injEq, Prod.mk.injEq] at hv
       obtain ⟨_, rfl, _⟩ := hv
       exact Ab.refl _
     · cases hv
   · cases hv
 · split at hv
   · simp only [nbeq, Bool.cond_decide] at hv
     split at hv
     · simp only [Option.some.injEq, Prod.mk.injEq] at hv
       obtain ⟨_, rfl, _⟩ := hv
       exact Ab.refl _
     · split at hv
       · split at hv
         · split at hv
           · rename_i h3 h3n
             simp only [Option.some.injEq, Prod.mk.injEq] at hv
             obtain ⟨_, rfl, _⟩ := hv
             exact new_ab h3n
           · cases hv
         · cases hv
       · cases hv
   · cases hv
 · rename_i id hkk
   split at hv
   · cases ha : un.any (inDR id) with
     | true => rw [ha] at hv; cases hv
     | false =>
       rw [ha, cond_false] at hv
       split at hv
       · split at hv
         · simp only [nbeq, Bool.cond_decide] at hv
           split at hv
           · split at hv
             · simp only [Option.some.injEq, Prod.mk.injEq] at hv
               obtain ⟨_, rfl, _⟩ := hv
               exact Ab.refl _
             · cases hv
           · cases hv
         · cases hv
       · cases hv
   · cases hv
 · split at hv
   · rename_i l hl
     split at hv
     · rename_i hvv sv hh
       split at hv
       · rename_i v1 h' ho
         split at hv
         · rename_i g2 hs
           simp only [Option.some.injEq, Prod.mk.injEq] at hv
           obtain ⟨rfl, rfl, rfl, rfl, rfl⟩ := hv
           obtain ⟨e1, e2, e3⟩ := hideA_ok hh
           obtain ⟨f1, f2, f3⟩ := showA_ok hs
           obtain ⟨hn1, hn2⟩ := noneW_ok hn
           have hlm := hideL_ok hl
           have hab := (opF_ok hG ho).1.2
           have gV : ∀ x, (⟨hvv.t, hvv.nx, hvv.nx, []⟩ : AH).get x = if x ∈ l then none else h.get x := fun x => e2 x
           have hnx := hab.nx
           have hlog : ∀ x, x < hvv.nx → x ∉ h'.wl → h'.get x = (⟨hvv.t, hvv.nx, hvv.nx, []⟩ : AH).get x := fun x hx hn => hab.log x hx hx hn
           have hdom := hab.dom
           simp only at hnx hdom
           have f1' : g2.nx = h'.nx := f1
           have f2' : ∀ y, g2.get y = (svGet sv y).or (h'.get y) := f2
           have hg2 : ∀ x, g2.get x = if x ∈ l then (h.get x).or (h'.get x) else h'.get x := fun x => by
             rw [f2', e3]
             split <;> simp
           have lnx : ∀ x, x ∈ l → x < h.nx := fun x hx => by
             obtain ⟨r, hr, hi⟩ := (hlm x).1 hx
             simp only [inDR, nble, nblt, Bool.or_eq_true, Bool.and_eq_true, decide_eq_true_eq, memN_iff] at hi
             obtain ⟨q1, q2⟩ := hun r hr
             rcases hi with hi | hi
             · omega
             · exact q2 x hi
           have hold : ∀ x, x ∉ h'.wl → x < h.nx → g2.get x = h.get x := fun x hx1 hlt => by
             rw [hg2, hlog x (by omega) hx1, gV]
             split
             · simp
             · rfl
           refine ⟨by show h.nx ≤ g2.nx; omega, rfl, fun x hx => mergeW_mem.1 hx, fun x hb hx hm => ?_, fun x hx => ?_⟩
           · exact hold x (fun e => hm (mergeW_mem.2 hb e)) hx
           · by_cases hr : h.nx ≤ x ∧ x < g2.nx
             · exact .inr hr
             · left
               have hx' : g2.get x ≠ none := hx
               by_cases hxl : x ∈ l
               · rw [hg2, if_pos hxl] at hx'
                 cases hq : h.get x with
                 | some q => simp
                 | none =>
                   rw [hq] at hx'
                   rcases hdom x (by simpa using hx') with d | d
                   · rw [gV] at d; simp [hxl] at d
                   · exact absurd ⟨by omega, by omega⟩ hr
               · rw [hg2, if_neg hxl] at hx'
                 rcases hdom x hx' with d | d
                 · rw [gV, if_neg hxl] at d; exact d
                 · exact absurd ⟨by omega, by omega⟩ hr
         · cases hv
       · cases hv
     · cases hv
   · cases hv
/-! The trace of a region. -/
def recsOf (rr : Nat → DR) : Nat → List DR
 | 0 => []
 | n + 1 => rr n :: recsOf rr n
theorem recsOf_mem {rr : Nat → DR} : ∀ {n : Nat} {r : DR}, r ∈ recsOf rr n ↔ ∃ k, k < n ∧ r = rr k
 | 0, r => by simp [recsOf]
 | n + 1, r => by
   simp only [recsOf, List.mem_cons, recsOf_mem (n := n)]
   constructor
   · rintro (rfl | ⟨k, hk, rfl⟩)
     · exact ⟨n, by omega, rfl⟩
     · exact ⟨k, by omega, rfl⟩
   · rintro ⟨k, hk, rfl⟩
     by_cases e : k = n
     · subst e; exact .inl rfl
     · exact .inr ⟨k, by omega, rfl⟩
theorem recsOf_congr {r1 r2 : Nat → DR} : ∀ {n : Nat}, (∀ k, k < n → r1 k = r2 k) → recsOf r1 n = recsOf r2 n
 | 0, _ => rfl
 | n + 1, h => by simp only [recsOf]; rw [h n (by omega), recsOf_congr (fun k hk => h k (by omega))]
def unA (pm : Nat) (recs : List DR) : List DR := recs.filter fun r => !Nat.testBit pm r.i
structure Step (P : Program) (rec : Rc) (ops : Array Oper) (rr : Nat → DR) (j : Nat) (s s1 : St) (o : Oper) (v : AV) (h1 : AH) : Prop where
 op : ops[j]? = some o
 i : (rr j).i = j
 pm : predsA j (recsOf rr j) o.after.toList = some (rr j).pm
 dst : (rr j).dst = o.dst
 looks : (rr j).looks = looksA ops.toList o
 lo : (rr j).lo = s.h.nx
 hi : (rr j).hi = h1.nx
 apart : ∀ r ∈ unA (rr j).pm (recsOf rr j), apartT o.dst (looksA ops.toList o) r = true
 run : (wantA ops.toList s.tm o = some true ∧ viewRun P rec s.tm o s.h (unA (rr j).pm (recsOf rr j)) = some (v, h1, (rr j).wr, (rr j).full, (rr j).ld) ∧ noneW s.h.nx (rr j).wr (unA (rr j).pm (recsOf rr j)) = true) ∨
   (wantA ops.toList s.tm o = some false ∧ v = undefA ∧ h1 = s.h ∧ (rr j).wr = [] ∧ (rr j).full = false ∧ (rr j).ld = none)
 put : putA { s with h := h1 } o.dst v = some s1
theorem draw_trace (ops : Array Oper) : ∀ (rest : List Oper) (i : Nat) (recs : List DR) (s s' : St), drawA P rec ops.toList rest i recs s = some s' → rest = ops.toList.drop i → i ≤ ops.size → ∀ rr0, recs = recsOf rr0 i →
   ∃ (S : Nat → St) (rr : Nat → DR), (∀ j, j < i → rr j = rr0 j) ∧ S i = s ∧ S ops.size = s' ∧ ∀ j, i ≤ j → j < ops.size → ∃ o v h1, Step P rec ops rr j (S j) (S (j + 1)) o v h1
 | [], i, recs, s, s', h, hr, hi, rr0, _ => by
   simp only [drawA, Option.some.injEq] at h; subst h
   have : ops.size ≤ i := by have := congrArg List.length hr; simp at this; omega
   exact ⟨fun _ => s, rr0, fun _ _ => rfl, rfl, rfl, fun j h1 h2 => by omega⟩
 | o :: rest, i, recs, s, s', h, hr, hi, rr0, hrec => by
   have h1 : (ops.toList.drop i)[0]? = some o := by rw [← hr]; rfl
   rw [List.getElem?_drop, Nat.add_zero, Array.getElem?_toList] at h1
   have hlt := (Array.getElem?_eq_some_iff.1 h1).1
   have hrest : rest = ops.toList.drop (i + 1) := by rw [← List.drop_drop (i := 1), ← hr]; rfl
   simp only [drawA] at h
   split at h
   · cases h
   · rename_i pm hpm
     cases hap : (recs.filter fun r => !Nat.testBit pm r.i).all (apartT o.dst (looksA ops.toList o)) with
     | false => rw [hap] at h; cases h
     | true =>
       rw [hap, cond_true] at h
       have main : ∀ (v : AV) (h1 : AH) (wr : List Nat) (full : Bool) (ld : Option Nat) (s1 : St), putA { s with h := h1 } o.dst v = some s1 →
           drawA P rec ops.toList rest (Nat.succ i) (⟨i, pm, o.dst, looksA ops.toList o, s.h.nx, h1.nx, wr, full, ld⟩ :: recs) s1 = some s' →
           ((wantA ops.toList s.tm o = some true ∧ viewRun P rec s.tm o s.h (unA pm recs) = some (v, h1, wr, full, ld) ∧ noneW s.h.nx wr (unA pm recs) = true) ∨
             (wantA ops.toList s.tm o = some false ∧ v = undefA ∧ h1 = s.h ∧ wr = [] ∧ full = false ∧ ld = none)) →
           ∃ (S : Nat → St) (rr : Nat → DR), (∀ j, j < i → rr j = rr0 j) ∧ S i = s ∧ S ops.size = s' ∧ ∀ j, i ≤ j → j < ops.size → ∃ o v h1, Step P rec ops rr j (S j) (S (j + 1)) o v h1 := by
         intro v hh wr full ld s1 hput hdr hrun
         obtain ⟨S, rr, q1, q2, q3, q4⟩ := draw_trace ops rest (i + 1) _ s1 s' hdr hrest hlt (fun j => if j = i then ⟨i, pm, o.dst, looksA ops.toList o, s.h.nx, hh.nx, wr, full, ld⟩ else rr0 j) (by
           simp only [recsOf, if_true]
           rw [hrec]
           congr 1
           exact recsOf_congr (fun k hk => (if_neg (show ¬ k = i by omega)).symm))
         have hri : rr i = ⟨i, pm, o.dst, looksA ops.toList o, s.h.nx, hh.nx, wr, full, ld⟩ := by rw [q1 i (by omega)]; simp
         have hrj : ∀ j, j < i → rr j = rr0 j := fun j hj => by rw [q1 j (by omega)]; simp only [if_neg (show ¬ j = i by omega)]
         have hro : recsOf rr i = recs := by rw [hrec]; exact recsOf_congr hrj
         refine ⟨fun j => if j = i then s else S j, rr, hrj, by simp, by simp only [if_neg (show ¬ ops.size = i by omega)]; exact q3, fun j hj1 hj2 => ?_⟩
         by_cases hji : j = i
         · subst hji
           simp only [if_true, if_neg (show ¬ j + 1 = j by omega), q2]
           refine ⟨o, v, hh, h1, by rw [hri], by rw [hro, hri]; exact hpm, by rw [hri], by rw [hri], by rw [hri], by rw [hri], ?_, ?_, hput⟩
           · rw [hri, hro]
             intro r hr2
             exact List.all_eq_true.1 hap r hr2
           · rw [hri, hro]; exact hrun
         · simp only [if_neg hji, if_neg (show ¬ j + 1 = i by omega)]
           exact q4 j (by omega) hj2
       split at h
       · rename_i hwt
         split at h
         · rename_i v hh wr full ld hvr
           cases hnw : noneW s.h.nx wr (recs.filter fun r => !Nat.testBit pm r.i) with
           | false => rw [hnw] at h; cases h
           | true =>
             rw [hnw, cond_true] at h
             split at h
             · rename_i s1 hput
               exact main v hh wr full ld s1 hput h (.inl ⟨hwt, hvr, hnw⟩)
             · cases h
         · cases h
       · rename_i hwt
         split at h
         · rename_i s1 hput
           exact main undefA s.h [] false none s1 (by simpa using hput) h (.inr ⟨hwt, rfl, rfl, rfl, rfl, rfl⟩)
         · cases h
       · cases h
end
end Go.Proofs.YtinijejfhmcmdaaDoor.Ex
end
