/- The abstract machine: what its operations compute is what the machine's compute (1). -/
import Derived.Test.YtlfehgagnelbhaaGreatDoorExD
namespace Go.Proofs.YtlfehgagnelbhaaGreatDoor.Ex
open Go

section
variable {P : Program} {M : Mp}

theorem run_typeInfo' {t : TypeId} {i : TypeInfo} (h : P.info? t = some i) (w : World) : (typeInfo t).run P w = .ok i w := by simp [typeInfo, h]
theorem aggT_ok {t : TypeId} {b : Bool} (h : aggT P t = some b) (w : World) : (isAgg t).run P w = .ok b w := by
  unfold aggT at h
  cases hu : P.underlying t with
  | none => simp [hu] at h
  | some d =>
    simp only [isAgg, Sem.run_bind, run_underlying hu, Result.andThen_ok]
    cases d <;> simp_all
theorem sizeT_ok {t : TypeId} {n : Nat} (h : sizeT P t = some n) (w : World) : (sizeOf t).run P w = .ok n w := by
  unfold sizeT at h
  split at h
  · rename_i i hi
    simp only [Option.some.injEq] at h; subst h
    simp [sizeOf, run_typeInfo' hi]
  · cases h
theorem zeroT_ok {t : TypeId} {a : AV} (h : zeroT P t = some a) : ∃ z, (∀ w, (zeroValue t).run P w = .ok z w) ∧ a.R M z ∧ ∃ i, P.info? t = some i ∧ i.zero = some z := by
  unfold zeroT at h
  split at h
  · rename_i i hi
    split at h
    · rename_i v hv
      simp only [Option.some.injEq] at h; subst h
      exact ⟨v, fun w => by simp [zeroValue, run_typeInfo' hi, hv], ofV_R M 2 v, i, hi, hv⟩
    · cases h
  · cases h

theorem part_ok {t : TypeId} {cs : List AV} {vs : List Value} {off : Nat} {v : AV} (h : partA P t cs off = some v) (r : AV.RL M cs vs) :
    ∃ u, (∀ w, (part t vs.toArray off).run P w = .ok u w) ∧ v.R M u := by
  unfold partA at h
  split at h
  · rename_i ha
    split at h
    · rename_i n hn
      split at h
      · rename_i l hl
        simp only [Option.some.injEq] at h; subst h
        obtain ⟨h1, h2⟩ := sliceA_eq hl
        subst h1
        refine ⟨.agg (vs.toArray.extract off (off + n)), fun w => by simp [part, aggT_ok ha, sizeT_ok hn], ?_⟩
        simp only [AV.R]
        refine ⟨(vs.drop off).take n, RL_take n (RL_drop off r), ?_⟩
        congr 1
        apply Array.ext'
        simp [List.take_drop]
      · cases h
    · cases h
  · rename_i ha
    obtain ⟨u, h1, h2⟩ := nthA_get h r
    exact ⟨u, fun w => by simp [part, aggT_ok ha, h1], h2⟩
  · cases h

theorem load_ok {h : AH} {w : World} {t : TypeId} {a v : AV} {x : Value} (hl : loadA P h t a = some v) (ra : a.R M x) (r : Rel M h w) :
    ∃ u, (∀ m : World, m.heap = w.heap → ((asAddr x).run P m = (Instr.sureAddr x).run P m) ∧ (Instr.loadAt t x).run P m = .ok u m) ∧ v.R M u := by
  unfold loadA at hl
  split at hl
  · rename_i id off
    simp only [AV.R] at ra
    obtain ⟨b, κ, hM, rfl⟩ := ra
    split at hl
    · rename_i c e g hg
      rcases r.obj id _ hg with ⟨hv, _⟩ | ⟨b', κ', ob, hM', hb, ho⟩
      · exact absurd hv (by simp [AO.Vac])
      rw [hM] at hM'
      simp only [Option.some.injEq, Prod.mk.injEq] at hM'
      obtain ⟨rfl, rfl⟩ := hM'
      split at hl
      · rename_i ha
        split at hl
        · rename_i n hn
          split at hl
          · rename_i l hs
            simp only [Option.some.injEq] at hl; subst hl
            obtain ⟨vs, h1, h2, h3, _⟩ := cells_ok (P := P) hb ho.row hs
            refine ⟨.agg vs.toArray, fun m hm => ⟨rfl, ?_⟩, ?_⟩
            · simp [Instr.loadAt, Instr.sureAddr, loadVar, aggT_ok ha, sizeT_ok hn, h1 m hm]
            · simp only [AV.R]; exact ⟨vs, h2, rfl⟩
          · cases hl
        · cases hl
      · rename_i ha
        obtain ⟨u, h1, h2⟩ := cell_ok hb ho.row hl
        refine ⟨u, fun m hm => ⟨rfl, ?_⟩, h2⟩
        have : m.cell? ⟨b, off, none⟩ = some u := by rw [← h1]; simp [World.cell?, hm]
        simp [Instr.loadAt, Instr.sureAddr, loadVar, aggT_ok ha, this]
      · cases hl
    · cases hl
  · rename_i g off
    simp only [AV.R] at ra; subst ra
    split at hl
    · rename_i c hg
      obtain ⟨ob, hb, ho⟩ := r.gw.row (M := M) hg
      split at hl
      · rename_i ha
        split at hl
        · rename_i n hn
          split at hl
          · rename_i l hs
            simp only [Option.some.injEq] at hl; subst hl
            obtain ⟨vs, h1, h2, h3, _⟩ := cells_ok (P := P) hb ho hs
            refine ⟨.agg vs.toArray, fun m hm => ⟨rfl, ?_⟩, ?_⟩
            · simp [Instr.loadAt, Instr.sureAddr, loadVar, aggT_ok ha, sizeT_ok hn, h1 m hm]
            · simp only [AV.R]; exact ⟨vs, h2, rfl⟩
          · cases hl
        · cases hl
      · rename_i ha
        obtain ⟨u, h1, h2⟩ := cell_ok hb ho hl
        refine ⟨u, fun m hm => ⟨rfl, ?_⟩, h2⟩
        have : m.cell? ⟨g, off, none⟩ = some u := by rw [← h1]; simp [World.cell?, hm]
        simp [Instr.loadAt, Instr.sureAddr, loadVar, aggT_ok ha, this]
      · cases hl
    · cases hl
  · cases hl

theorem store_ok {h h' : AH} {w : World} {t : TypeId} {a v : AV} {x y : Value} (hl : storeA P h t a v = some h') (ra : a.R M x) (rv : v.R M y) (r : Rel M h w) :
    ∃ w', (Instr.storeAt t x y).run P w = .ok () w' ∧ Rel M h' w' ∧ Fr h h' M M w w' ∧ Ab h h' := by
  unfold storeA at hl
  split at hl
  · rename_i id off
    simp only [AV.R] at ra
    obtain ⟨b, κ, hM, rfl⟩ := ra
    split at hl
    · rename_i c e g hg
      split at hl
      · rename_i n hn
        simp only [nbeq, Bool.cond_decide] at hl
        split at hl
        · rename_i hlen
          cases hc : allCell (cellsA v) with
          | false => rw [hc] at hl; cases hl
          | true =>
            rw [hc] at hl
            simp only [cond_true] at hl
            split at hl
            · rename_i c' hs
              have rl := cellsA_R rv
              obtain ⟨b', κ', w', hM', hst, q⟩ := splice_ok (P := P) r hg hs hl rl (allCell_one rl hc)
              rw [hM] at hM'
              simp only [Option.some.injEq, Prod.mk.injEq] at hM'
              obtain ⟨rfl, rfl⟩ := hM'
              refine ⟨w', ?_, q⟩
              have hsz : y.cells.size = n := by have := RL_length rl; simp at this; omega
              simp [Instr.storeAt, Instr.sureAddr, storeVar, sizeT_ok hn, hsz, hst]
            · cases hl
        · cases hl
      · cases hl
    · cases hl
  · cases hl

/-! Building. -/
theorem zipset (off : Nat) : ∀ (us : List Value) (k : Nat) (cells : Array Value), off + k + us.length ≤ cells.size →
    (us.zipIdx k).foldl (fun cs (p : Value × Nat) => cs.setIfInBounds (off + p.2) p.1) cells = (cells.toList.take (off + k) ++ us ++ cells.toList.drop (off + k + us.length)).toArray
  | [], k, cells, _ => by simp
  | u :: us, k, cells, h => by
    simp only [List.zipIdx_cons, List.foldl_cons]
    rw [zipset off us (k + 1) _ (by simp at h ⊢; omega)]
    have e := list_seg_step cells.toList (off + k) u us (by simp at h ⊢; omega)
    congr 1
    simpa [Array.toList_setIfInBounds, Nat.add_assoc, Nat.add_comm us.length 1] using e

def PL (M : Mp) : List (Nat × AV) → List (Nat × Value) → Prop
  | [], qs => qs = []
  | p :: ps, qs => ∃ v qs', p.2.R M v ∧ PL M ps qs' ∧ qs = (p.1, v) :: qs'
theorem fill_ok {place : Nat → Option (Nat × Nat)} : ∀ {parts : List (Nat × AV)} {qs : List (Nat × Value)} {cells : List AV} {vs : List Value} {c : List AV},
    fillA place cells parts = some c → AV.RL M cells vs → PL M parts qs →
    ∃ us, Instr.fill place vs.toArray qs = some us.toArray ∧ AV.RL M c us
  | [], _, cells, vs, c, h, r, f => by
    simp only [PL] at f; subst f
    simp only [fillA, Option.some.injEq] at h; subst h
    exact ⟨vs, rfl, r⟩
  | (i, v) :: rest, _, cells, vs, c, h, r, f => by
    simp only [PL] at f
    obtain ⟨y, qs, rv, hf, rfl⟩ := f
    · simp only [fillA] at h
      split at h
      · cases h
      · rename_i off size hpl
        simp only [nbeq, Bool.cond_decide] at h
        split at h
        · rename_i hlen
          split at h
          · rename_i c1 hs
            have rl := cellsA_R rv
            obtain ⟨r2, hle⟩ := RL_splice hs r rl
            obtain ⟨us, h1, h2⟩ := fill_ok h r2 hf
            refine ⟨us, ?_, h2⟩
            have hl := RL_length rl
            have hsz : y.cells.size = size := by simp at hl; omega
            have hle' : off + y.cells.size ≤ vs.length := by simpa using hle
            have hno : ¬ (vs.toArray.size < off + y.cells.size) := by simp; omega
            have hz := zipset off y.cells.toList 0 vs.toArray (by simp; omega)
            have hz' : y.cells.zipIdx.foldl (fun cs (p : Value × Nat) => cs.setIfInBounds (off + p.2) p.1) vs.toArray = (vs.take off ++ y.cells.toList ++ vs.drop (off + y.cells.toList.length)).toArray := by
              rw [← Array.foldl_toList]
              simpa [Array.toList_zipIdx] using hz
            simp only [Instr.fill, hpl]
            rw [if_neg (by simp [hsz]; omega)]
            rw [← h1, ← hz']
          · cases h
        · cases h

theorem fieldsPl_ok {w : World} : ∀ {fs : List Field} {pl : List (Nat × Nat)}, fieldsPl P fs = some pl → (fs.mapM (fun (f : Field) => do pure (f.offset, ← sizeOf f.type)) : Sem (List (Nat × Nat))).run P w = .ok pl w
  | [], pl, h => by simp only [fieldsPl, Option.some.injEq] at h; subst h; simp
  | f :: fs, pl, h => by
    simp only [fieldsPl] at h
    split at h
    · rename_i n r hn hr
      simp only [Option.some.injEq] at h; subst h
      simp only [List.mapM_cons, Sem.run_bind, Sem.run_pure, sizeT_ok hn, Result.andThen_ok, fieldsPl_ok hr]
    · cases h
theorem nthP_eq : ∀ (l : List (Nat × Nat)) (n : Nat), nthP l n = l[n]?
  | [], n => by simp [nthP]
  | a :: l, 0 => by simp [nthP]
  | a :: l, n + 1 => by simp [nthP, nthP_eq l n]

theorem build_ok {w : World} {t : TypeId} {parts : List (Nat × AV)} {qs : List (Nat × Value)} {v : AV} (h : buildA P t parts = some v)
    (f : PL M parts qs) : ∃ u, (Instr.build t qs.toArray).run P w = .ok u w ∧ v.R M u := by
  unfold buildA at h
  split at h
  · rename_i z hz
    obtain ⟨y, hy, ry, _⟩ := zeroT_ok (M := M) hz
    have rl := cellsA_R ry
    split at h
    · rename_i fs hu
      split at h
      · rename_i pl hpl
        split at h
        · rename_i c hc
          simp only [Option.some.injEq] at h; subst h
          obtain ⟨us, h1, h2⟩ := fill_ok hc rl f
          refine ⟨.agg us.toArray, ?_, by simp only [AV.R]; exact ⟨us, h2, rfl⟩⟩
          have hm := fieldsPl_ok (w := w) hpl
          have hm' : (fs.mapM (fun (f : Field) => do pure (f.offset, ← sizeOf f.type)) : Sem (Array (Nat × Nat))).run P w = .ok pl.toArray w := by
            rw [Array.mapM_eq_mapM_toList, Sem.run_map, hm]
            rfl
          have hpl' : nthP pl = fun x => pl[x]? := by funext i; simp [nthP_eq]
          rw [hpl', Array.toArray_toList] at h1
          simp only [Instr.build, Sem.run_bind, hy, Result.andThen_ok, run_underlying hu, hm']
          simp [h1]
        · cases h
      · cases h
    · rename_i n e hu
      split at h
      · rename_i n hn
        split at h
        · rename_i c hc
          simp only [Option.some.injEq] at h; subst h
          obtain ⟨us, h1, h2⟩ := fill_ok hc rl f
          refine ⟨.agg us.toArray, ?_, by simp only [AV.R]; exact ⟨us, h2, rfl⟩⟩
          rw [Array.toArray_toList] at h1
          simp only [Instr.build, Sem.run_bind, hy, Result.andThen_ok, run_underlying hu, sizeT_ok hn]
          simp [h1]
        · cases h
      · cases h
    · cases h
  · cases h

/-! Rows of zeros. -/
theorem repA_len (l : List AV) : ∀ n, (repA n l).length = n * l.length
  | 0 => by simp [repA]
  | n + 1 => by simp [repA, repA_len l n, Nat.add_mul]; omega
def repV : Nat → List Value → List Value
  | 0, _ => []
  | n + 1, l => l ++ repV n l
theorem RL_rep {l : List AV} {vs : List Value} (r : AV.RL M l vs) : ∀ n, AV.RL M (repA n l) (repV n vs)
  | 0 => by simp [repA, repV, AV.RL]
  | n + 1 => RL_append r (RL_rep r n)
theorem repV_len (l : List Value) : ∀ n, (repV n l).length = n * l.length
  | 0 => by simp [repV]
  | n + 1 => by simp [repV, repV_len l n, Nat.add_mul]; omega
theorem repV_get (l : List Value) (d : Value) : ∀ n i, i < n * l.length → (repV n l)[i]? = some (l.getD (i % l.length) d)
  | 0, i, h => by omega
  | n + 1, i, h => by
    have hl : 0 < l.length := by
      rcases Nat.eq_zero_or_pos l.length with h0 | h0
      · rw [h0] at h; omega
      · exact h0
    simp only [repV]
    by_cases hi : i < l.length
    · rw [List.getElem?_append_left hi, Nat.mod_eq_of_lt hi]
      simp [List.getD, hi]
    · rw [List.getElem?_append_right (by omega), repV_get l d n (i - l.length) (by rw [Nat.add_mul] at h; omega)]
      rw [← Nat.mod_eq_sub_mod (by omega)]
theorem rep_zero {z : Array Value} {n m : Nat} (hm : m = n * z.size) : ((Array.range m).map fun i => z[i % z.size]!) = (repV n z.toList).toArray := by
  subst hm
  apply Array.ext'
  apply List.ext_getElem?
  intro i
  by_cases hi : i < n * z.size
  · have h1 := repV_get z.toList default n i (by simpa using hi)
    have hz : 0 < z.size := by
      rcases Nat.eq_zero_or_pos z.size with h0 | h0
      · rw [h0] at hi; omega
      · exact h0
    have hmod : i % z.size < z.size := Nat.mod_lt _ hz
    simp [h1, hi, hmod, List.getD, getElem!_pos]
  · have h1 : (repV n z.toList)[i]? = none := by
      apply List.getElem?_eq_none
      rw [repV_len]; simpa using Nat.le_of_not_lt hi
    simp [h1, hi]
theorem rep_nil {z : Array Value} {n : Nat} : ((Array.range 0).map fun i => z[i % z.size]!) = (repV n []).toArray := by
  have : ∀ n, repV n [] = ([] : List Value) := fun n => by induction n <;> simp_all [repV]
  simp [this]
end
end Go.Proofs.YtlfehgagnelbhaaGreatDoor.Ex
