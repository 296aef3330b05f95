/- The abstract machine: what its operations compute is what the machine's compute (2). -/
import Derived.Test.YtlfehgagnelbhaaGreatDoorExE
import Derived.Laws.StructEq
namespace Go.Proofs.YtlfehgagnelbhaaGreatDoor.Ex
open Go

section
variable {P : Program} {M : Mp}

/-- What an operation that yields a value leaves. -/
def Got (P : Program) (h h' : AH) (M : Mp) (w : World) (v : AV) (s : Sem Value) : Prop :=
  ∃ M' u w', s.run P w = .ok u w' ∧ v.R M' u ∧ Rel M' h' w' ∧ Fr h h' M M' w w' ∧ Ab h h'
theorem Got.pure {h : AH} {w : World} {v : AV} {s : Sem Value} {u : Value} (r : Rel M h w) (e : s.run P w = .ok u w) (rv : v.R M u) : Got P h h M w v s :=
  ⟨M, u, w, e, rv, r, Fr.same h M w, Ab.refl h⟩

theorem newA_ok {h h' : AH} {w : World} {ao : AO} {ob : Obj} {κ : Nat} {f : Nat → AV} {v : AV} (hn : newA h ao f = some (v, h')) (r : Rel M h w) (fr : Fresh M h h') (ho : ObR M κ ao ob) :
    ∃ M', v = f h.nx ∧ M' h.nx = some (w.heap.size, κ) ∧ Rel M' h' (w.alloc ob) ∧ Fr h h' M M' w (w.alloc ob) ∧ Ab h h' := by
  unfold newA at hn
  split at hn
  · rename_i h2 hh
    simp only [Option.some.injEq, Prod.mk.injEq] at hn
    obtain ⟨rfl, rfl⟩ := hn
    have hnx := (AH.new_nx hh).1
    have := new_ok (κ := κ) r hh (fr h.nx (Nat.le_refl _) (by omega)) ho
    exact ⟨_, rfl, by simp [updM], this⟩
  · cases hn

theorem newVar_run (t : TypeId) (v : Value) (w : World) : (newVar t v).run P w = .ok ⟨w.heap.size, 0, none⟩ (w.alloc (.cells v.cells t (0, 0))) := by
  simp [newVar, newRow]
theorem ObR_cells {κ : Nat} {l : List AV} {t : TypeId} {cs : Array Value} (r : AV.RL M l cs.toList) : ObR M κ (.cells l t none) (.cells cs t (0, 0)) :=
  ⟨cs.toList, [], r, by simp, rfl⟩

theorem box_ok {h h' : AH} {w : World} {t : TypeId} {x v : AV} {y : Value} (hn : newA h (.cells (cellsA x) t none) (fun id => .ptr id 0) = some (v, h')) (rx : x.R M y) (r : Rel M h w) (fr : Fresh M h h') :
    Got P h h' M w v (Instr.box t y) := by
  obtain ⟨M', rfl, hM, q⟩ := newA_ok (κ := 0) hn r fr (ObR_cells (cellsA_R rx))
  exact ⟨M', .pointer (some ⟨w.heap.size, 0, none⟩), _, by simp [Instr.box, newVar_run], by simp only [AV.R]; exact ⟨_, _, hM, rfl⟩, q⟩
theorem alloc_ok {h h' : AH} {w : World} {t : TypeId} {z v : AV} (hz : zeroT P t = some z) (hn : newA h (.cells (cellsA z) t none) (fun id => .ptr id 0) = some (v, h')) (r : Rel M h w) (fr : Fresh M h h') :
    Got P h h' M w v (Instr.alloc t true (.tuple #[])) := by
  obtain ⟨y, hy, ry, _⟩ := zeroT_ok (M := M) hz
  obtain ⟨M', rfl, hM, q⟩ := newA_ok (κ := 0) hn r fr (ObR_cells (cellsA_R ry))
  exact ⟨M', .pointer (some ⟨w.heap.size, 0, none⟩), _, by simp [Instr.alloc, hy, newVar_run], by simp only [AV.R]; exact ⟨_, _, hM, rfl⟩, q⟩

theorem buildSlice_ok {h h' : AH} {w : World} {t : TypeId} {n : Nat} {parts : List (Nat × AV)} {qs : List (Nat × Value)} {v : AV} (hb : buildSliceA P h t n parts = some (v, h')) (f : PL M parts qs) (r : Rel M h w) (fr : Fresh M h h') :
    Got P h h' M w v (Instr.buildSlice t n qs.toArray) := by
  unfold buildSliceA at hb
  split at hb
  · rename_i e hu
    split at hb
    · rename_i z hz
      simp only [nble, nbeq, Bool.cond_decide] at hb
      split at hb
      · rename_i hle
        split at hb
        · rename_i zs hzs
          split at hb
          · rename_i c hc
            have hno : ¬ (16777216 < n * z) := by omega
            by_cases h0 : n * z = 0
            · simp only [h0, if_true, Option.some.injEq] at hzs; subst hzs
              obtain ⟨cs, h1, h2⟩ := fill_ok hc (show AV.RL M [] [] by simp [AV.RL]) f
              obtain ⟨M', rfl, hM, q⟩ := newA_ok (κ := 0) hb r fr (ObR_cells (cs := cs.toArray) (by simpa using h2))
              refine ⟨M', .slice (some ⟨w.heap.size, 0, none⟩) n n, _, ?_, by simp only [AV.R]; exact ⟨_, _, hM, rfl⟩, q⟩
              have e0 : ∀ d : Value, Array.map (fun _ : Nat => d) (Array.range 0) = #[] := fun _ => Array.eq_empty_of_size_eq_zero (by simp)
              simp [Instr.buildSlice, run_underlying hu, sizeT_ok hz, h0, e0, h1, newRow]
            · simp only [h0, if_false] at hzs
              split at hzs
              · rename_i za hza
                obtain ⟨y, hy, ry, _⟩ := zeroT_ok (M := M) hza
                split at hzs
                · rename_i hl
                  simp only [Option.some.injEq] at hzs; subst hzs
                  have rl := cellsA_R ry
                  have hlen := RL_length rl
                  have hm : n * z = n * y.cells.size := by simp at hlen; rw [hlen, hl]
                  obtain ⟨cs, h1, h2⟩ := fill_ok hc (RL_rep rl n) f
                  obtain ⟨M', rfl, hM, q⟩ := newA_ok (κ := 0) hb r fr (ObR_cells (cs := cs.toArray) (by simpa using h2))
                  refine ⟨M', .slice (some ⟨w.heap.size, 0, none⟩) n n, _, ?_, by simp only [AV.R]; exact ⟨_, _, hM, rfl⟩, q⟩
                  have hrz := rep_zero hm
                  simp only [Instr.buildSlice, Sem.run_bind, run_underlying hu, Result.andThen_ok, sizeT_ok hz]
                  rw [show (2 : Nat) ^ 24 = 16777216 from rfl]
                  simp only [gt_iff_lt, hno, h0, if_false, Sem.run_bind, hy, Result.andThen_ok, Sem.run_pure, hrz]
                  simp [h1, newRow]
                · cases hzs
              · cases hzs
          · cases hb
        · cases hb
      · cases hb
    · cases hb
  · cases hb

theorem wrap_id (k : IntKind) (n : Int) (h1 : -(negLim k : Int) ≤ n) (h2 : n < (posLim k : Int)) : k.wrap n = n := by
  cases k <;> simp only [negLim, posLim] at h1 h2 <;> simp [IntKind.wrap, IntKind.signed, IntKind.bits] <;> omega
theorem wrapF_eq (k : IntKind) (n : Int) : wrapF k n = k.wrap n := by
  cases n with
  | ofNat a =>
    simp only [wrapF, nblt, Bool.cond_decide]
    split
    · rename_i hlt
      rw [wrap_id]
      · simp only [Int.ofNat_eq_natCast]; omega
      · simp only [Int.ofNat_eq_natCast]; omega
    · rfl
  | negSucc a =>
    simp only [wrapF, nblt, Bool.cond_decide]
    split
    · rename_i hlt
      rw [wrap_id]
      · simp only [Int.negSucc_eq]; omega
      · simp only [Int.negSucc_eq]; omega
    · rfl
theorem ltI_eq (a b : Int) : ltI a b = decide (a < b) := by
  cases a <;> cases b <;> simp only [ltI, nblt, Int.ofNat_eq_natCast, Int.negSucc_eq] <;> first
    | (rw [Bool.eq_iff_iff]; simp only [decide_eq_true_eq]; omega)
    | (exact (decide_eq_true (by omega)).symm)
    | (exact (decide_eq_false (by omega)).symm)
theorem eqI_eq (a b : Int) : eqI a b = (a == b) := by
  rw [Bool.eq_iff_iff, beq_iff_eq]
  cases a <;> cases b <;> simp [eqI, nbeq] <;> omega
theorem eqK_eq {a b : IntKind} (h : eqK a b = true) : a = b := by
  cases a <;> cases b <;> first | rfl | cases h
theorem eqK_ne {a b : IntKind} (h : eqK a b = false) : a ≠ b := by
  intro e; subst e; cases a <;> cases h
theorem eqS_eq : ∀ (x y : List UInt8), eqS x y = (x == y)
  | [], [] => rfl
  | [], _ :: _ => rfl
  | _ :: _, [] => rfl
  | a :: x, b :: y => by
    simp only [eqS, nbeq, Bool.cond_decide]
    by_cases h : a = b
    · subst h; simp [eqS_eq x y]
    · have : a.toNat ≠ b.toNat := fun e => h (UInt8.toNat_inj.1 e)
      simp [h, this]

theorem pureV_ok {s : Sem Value} {v : AV} (h : pureV s = some v) : ∃ u, (∀ w, s.run P w = .ok u w) ∧ v.R M u := by
  unfold pureV at h
  split at h
  · simp only [Option.some.injEq] at h; subst h; exact ⟨_, fun _ => rfl, rfl⟩
  · simp only [Option.some.injEq] at h; subst h; exact ⟨_, fun _ => rfl, rfl⟩
  · cases h
theorem intBin_ok {op : BinOp} {k : IntKind} {a b : Int} {v : AV} {t : TypeId} (h : intBin op k a b = some v) : ∃ u, (∀ w, (binOp op t (.int k a) (.int k b)).run P w = .ok u w) ∧ v.R M u := by
  unfold intBin at h
  cases op <;> simp only [Option.some.injEq, reduceCtorEq] at h <;> first
    | (subst h; simp only [wrapF_eq, ltI_eq, eqI_eq]; first | exact ⟨.int k (k.wrap (a + b)), fun w => by simp [binOp, Op.intArith], rfl⟩ | exact ⟨.int k (k.wrap (a - b)), fun w => by simp [binOp, Op.intArith], rfl⟩ | exact ⟨.int k (k.wrap (a * b)), fun w => by simp [binOp, Op.intArith], rfl⟩ | exact ⟨.bool _, fun w => by simp [binOp, Op.intCmp]; rfl, by simp only [AV.R, Value.bool.injEq]; first | done | rfl | (rw [Bool.eq_iff_iff]; simp; done)⟩)
    | (obtain ⟨u, h1, h2⟩ := pureV_ok (P := P) (M := M) h; exact ⟨u, fun w => by rw [← h1 w]; simp [binOp], h2⟩)

theorem strBin_ok {op : BinOp} {x y : List UInt8} {v : AV} {t : TypeId} (h : strBin op x y = some v) : ∃ u, (∀ w, (binOp op t (.string ⟨x.toArray⟩) (.string ⟨y.toArray⟩)).run P w = .ok u w) ∧ v.R M u := by
  have tl : ∀ l : List UInt8, (⟨l.toArray⟩ : ByteArray).toList = l := fun l => by rw [ByteArray.toList_eq]
  unfold strBin at h
  cases op <;> simp only [Option.some.injEq, reduceCtorEq] at h
  case add =>
    simp only [nble, Bool.cond_decide] at h
    split at h
    · rename_i hle
      simp only [Option.some.injEq] at h; subst h
      refine ⟨.string (⟨x.toArray⟩ ++ ⟨y.toArray⟩), fun w => ?_, ?_⟩
      · have hno : ¬ (IntKind.i64.max < ((x.length + y.length : Nat) : Int)) := by
          rw [show IntKind.i64.max = 9223372036854775807 from rfl]; omega
        have hs : ∀ l : List UInt8, (⟨l.toArray⟩ : ByteArray).size = l.length := fun l => by simp [ByteArray.size]
        simp only [binOp, Op.stringOp, hs, gt_iff_lt, hno, if_false, Sem.run_pure]
      · simp only [AV.R]
        first | done | (congr 1; done) | (congr 1; apply ByteArray.ext; simp)
    · cases h
  all_goals
    subst h
    refine ⟨_, fun w => by simp only [binOp, Op.stringOp, tl, Sem.run_pure]; rfl, ?_⟩
    simp only [AV.R, eqS_eq]

theorem Ob_of {h : AH} {w : World} {id b κ : Nat} {o : AO} (r : Rel M h w) (hg : h.get id = some o) (hM : M id = some (b, κ)) : ∃ ob, w.heap[b]? = some ob ∧ ObR M κ o ob := by
  rcases r.obj id o hg with ⟨_, hv⟩ | ⟨b', κ', ob, h1, h2, h3⟩
  · rw [hM] at hv; cases hv
  rw [hM] at h1
  simp only [Option.some.injEq, Prod.mk.injEq] at h1
  obtain ⟨rfl, rfl⟩ := h1
  exact ⟨ob, h2, h3⟩

/-! Addresses. -/
theorem nthF_eq : ∀ (l : List Field) (n : Nat), nthF l n = l[n]?
  | [], n => by simp [nthF]
  | a :: l, 0 => by simp [nthF]
  | a :: l, n + 1 => by simp [nthF, nthF_eq l n]
theorem fieldAddr_ok {t : TypeId} {x v : AV} {y : Value} {f : Nat} (h : fieldAddrA P t x f = some v) (rx : x.R M y) : ∃ u, (∀ w, (Instr.fieldAt t y f).run P w = .ok u w) ∧ v.R M u := by
  unfold fieldAddrA at h
  split at h
  · rename_i fs hu
    split at h
    · rename_i fd hf
      rw [nthF_eq, Array.getElem?_toList] at hf
      split at h
      · cases h
      · rename_i n hn hz
        split at h
        · rename_i id off
          simp only [Option.some.injEq] at h; subst h
          simp only [AV.R] at rx
          obtain ⟨b, c, hM, rfl⟩ := rx
          refine ⟨.pointer (some ⟨b, off + fd.offset, none⟩), fun w => ?_, by simp only [AV.R]; exact ⟨b, c, hM, rfl⟩⟩
          have hn0 : ¬ (n = 0) := fun e => hn e
          simp [Instr.fieldAt, run_underlying hu, hf, Instr.sureAddr, fieldPlace, sizeT_ok hz, hn0, addr_add]
        · rename_i g off
          simp only [Option.some.injEq] at h; subst h
          simp only [AV.R] at rx; subst rx
          refine ⟨.pointer (some ⟨g, off + fd.offset, none⟩), fun w => ?_, rfl⟩
          have hn0 : ¬ (n = 0) := fun e => hn e
          simp [Instr.fieldAt, run_underlying hu, hf, Instr.sureAddr, fieldPlace, sizeT_ok hz, hn0, addr_add]
        · cases h
      · cases h
    · cases h
  · cases h
theorem field_ok {t : TypeId} {x v : AV} {y : Value} {f : Nat} (h : fieldA P t x f = some v) (rx : x.R M y) : ∃ u, (∀ w, (Instr.field t y f).run P w = .ok u w) ∧ v.R M u := by
  unfold fieldA at h
  split at h
  · rename_i fs cs hu
    split at h
    · rename_i fd hf
      rw [nthF_eq, Array.getElem?_toList] at hf
      simp only [AV.R] at rx
      obtain ⟨vs, r, rfl⟩ := rx
      obtain ⟨u, h1, h2⟩ := part_ok h r
      exact ⟨u, fun w => by simp [Instr.field, run_underlying hu, hf, asAgg, h1], h2⟩
    · cases h
  · cases h
theorem indexAddr_ok {t : TypeId} {x ix v : AV} {y iy : Value} (h : indexAddrA P t x ix = some v) (rx : x.R M y) (ri : ix.R M iy) : ∃ u, (∀ w, (Instr.indexAt t y iy).run P w = .ok u w) ∧ v.R M u := by
  unfold indexAddrA at h
  split at h
  · rename_i k n
    simp only [AV.R] at ri; subst ri
    split at h
    · rename_i e id off len cap u hu
      simp only [nblt, Bool.cond_decide] at h
      split at h
      · rename_i hlt
        split at h
        · rename_i z hz
          simp only [Option.some.injEq] at h; subst h
          simp only [AV.R] at rx
          obtain ⟨b, c, hM, rfl⟩ := rx
          refine ⟨.pointer (some ⟨b, off + n * z, none⟩), fun w => ?_, by simp only [AV.R]; exact ⟨b, c, hM, rfl⟩⟩
          simp [Instr.indexAt, asIntOf, run_underlying hu, hlt, sizeT_ok hz, addr_add]
        · cases h
      · cases h
    · rename_i len e id off hu
      simp only [nblt, Bool.cond_decide] at h
      split at h
      · rename_i hlt
        split at h
        · rename_i z hz
          simp only [Option.some.injEq] at h; subst h
          simp only [AV.R] at rx
          obtain ⟨b, c, hM, rfl⟩ := rx
          refine ⟨.pointer (some ⟨b, off + n * z, none⟩), fun w => ?_, by simp only [AV.R]; exact ⟨b, c, hM, rfl⟩⟩
          simp [Instr.indexAt, asIntOf, run_underlying hu, hlt, sizeT_ok hz, addr_add, Instr.sureAddr]
        · cases h
      · cases h
    · rename_i len e g off hu
      simp only [nblt, Bool.cond_decide] at h
      split at h
      · rename_i hlt
        split at h
        · rename_i z hz
          simp only [Option.some.injEq] at h; subst h
          simp only [AV.R] at rx; subst rx
          refine ⟨.pointer (some ⟨g, off + n * z, none⟩), fun w => ?_, rfl⟩
          simp [Instr.indexAt, asIntOf, run_underlying hu, hlt, sizeT_ok hz, addr_add, Instr.sureAddr]
        · cases h
      · cases h
    · cases h
  · cases h
theorem index_ok {t : TypeId} {x ix v : AV} {y iy : Value} (h : indexA P t x ix = some v) (rx : x.R M y) (ri : ix.R M iy) : ∃ u, (∀ w, (Instr.index t y iy).run P w = .ok u w) ∧ v.R M u := by
  unfold indexA at h
  split at h
  · rename_i k n
    simp only [AV.R] at ri; subst ri
    split at h
    · rename_i len e cs hu
      simp only [nblt, Bool.cond_decide] at h
      split at h
      · rename_i hlt
        split at h
        · rename_i z hz
          simp only [AV.R] at rx
          obtain ⟨vs, r, rfl⟩ := rx
          obtain ⟨u, h1, h2⟩ := part_ok h r
          exact ⟨u, fun w => by simp [Instr.index, asIntOf, run_underlying hu, hlt, sizeT_ok hz, h1], h2⟩
        · cases h
      · cases h
    · rename_i l hu
      split at h
      · rename_i c hc
        simp only [Option.some.injEq] at h; subst h
        simp only [AV.R] at rx; subst rx
        refine ⟨.int .u8 c.toNat, fun w => ?_, rfl⟩
        have hlt : n < l.length := (List.getElem?_eq_some_iff.1 hc).1
        have hc2 : (⟨l.toArray⟩ : ByteArray)[n]? = some c := by
          have hsz : n < (⟨l.toArray⟩ : ByteArray).size := by simpa [ByteArray.size] using hlt
          rw [getElem?_pos (⟨l.toArray⟩ : ByteArray) n hsz]
          have := (List.getElem?_eq_some_iff.1 hc).2
          simp only [Option.some.injEq]
          rw [← this]; rfl
        simp [Instr.index, asIntOf, run_underlying hu, hc2]
      · cases h
    · cases h
  · cases h
end
end Go.Proofs.YtlfehgagnelbhaaGreatDoor.Ex
