/- The abstract machine: what its operations compute is what the machine's compute (1). The abstract machine: what its operations compute is what the machine's compute (2). -/
import Derived.Test.YtiikiphkhfmlcaaGreatDoorExD
import Derived.Laws.StructEq
noncomputable section
namespace Go.Proofs.YtiikiphkhfmlcaaGreatDoor.Ex
open Go

section
variable {P : Program} {M : Mp}

theorem run_typeInfo' {t : TypeId} {i : TypeInfo} (h : P.info? t = some i) (w : World) : (typeInfo t).run P w = .ok i w := by simp [typeInfo, h]
theorem aggT_ok {t : TypeId} {b : Bool} (h : aggT P t = some b) (w : World) : (isAgg t).run P w = .ok b w := by
  unfold aggT at h
  cases hu : P.underlying t with
  | none => simp [hu] at h
  | some d =>
    simp only [isAgg, Sem.run_bind, run_underlying hu, Result.andThen_ok]
    cases d <;> simp_all
theorem sizeT_ok {t : TypeId} {n : Nat} (h : sizeT P t = some n) (w : World) : (sizeOf t).run P w = .ok n w := by
  unfold sizeT at h
  split at h
  · rename_i i hi
    simp only [Option.some.injEq] at h; subst h
    simp [sizeOf, run_typeInfo' hi]
  · cases h
theorem zeroT_ok {t : TypeId} {a : AV} (h : zeroT P t = some a) : ∃ z, (∀ w, (zeroValue t).run P w = .ok z w) ∧ a.R M z ∧ ∃ i, P.info? t = some i ∧ i.zero = some z := by
  unfold zeroT at h
  split at h
  · rename_i i hi
    split at h
    · rename_i v hv
      simp only [Option.some.injEq] at h; subst h
      exact ⟨v, fun w => by simp [zeroValue, run_typeInfo' hi, hv], ofV_R M 2 v, i, hi, hv⟩
    · cases h
  · cases h

theorem part_ok {t : TypeId} {cs : List AV} {vs : List Value} {off : Nat} {v : AV} (h : partA P t cs off = some v) (r : AV.RL M cs vs) :
    ∃ u, (∀ w, (part t vs.toArray off).run P w = .ok u w) ∧ v.R M u := by
  unfold partA at h
  split at h
  · rename_i ha
    split at h
    · rename_i n hn
      split at h
      · rename_i l hl
        simp only [Option.some.injEq] at h; subst h
        obtain ⟨h1, h2⟩ := sliceA_eq hl
        subst h1
        refine ⟨.agg (vs.toArray.extract off (off + n)), fun w => by simp [part, aggT_ok ha, sizeT_ok hn], ?_⟩
        simp only [AV.R]
        refine ⟨(vs.drop off).take n, RL_take n (RL_drop off r), ?_⟩
        congr 1
        apply Array.ext'
        simp [List.take_drop]
      · cases h
    · cases h
  · rename_i ha
    obtain ⟨u, h1, h2⟩ := nthA_get h r
    exact ⟨u, fun w => by simp [part, aggT_ok ha, h1], h2⟩
  · cases h

theorem load_ok {h : AH} {w : World} {t : TypeId} {a v : AV} {x : Value} (hl : loadA P h t a = some v) (ra : a.R M x) (r : Rel M h w) :
    ∃ u, (∀ m : World, m.heap = w.heap → ((asAddr x).run P m = (Instr.sureAddr x).run P m) ∧ (Instr.loadAt t x).run P m = .ok u m) ∧ v.R M u := by
  unfold loadA at hl
  split at hl
  · rename_i id off
    simp only [AV.R] at ra
    obtain ⟨b, κ, hM, rfl⟩ := ra
    split at hl
    · rename_i c e g hg
      rcases r.obj id _ hg with ⟨hv, _⟩ | ⟨b', κ', ob, hM', hb, ho⟩
      · exact absurd hv (by simp [AO.Vac])
      rw [hM] at hM'
      simp only [Option.some.injEq, Prod.mk.injEq] at hM'
      obtain ⟨rfl, rfl⟩ := hM'
      split at hl
      · rename_i ha
        split at hl
        · rename_i n hn
          split at hl
          · rename_i l hs
            simp only [Option.some.injEq] at hl; subst hl
            obtain ⟨vs, h1, h2, h3, _⟩ := cells_ok (P := P) hb ho.row hs
            refine ⟨.agg vs.toArray, fun m hm => ⟨rfl, ?_⟩, ?_⟩
            · simp [Instr.loadAt, Instr.sureAddr, loadVar, aggT_ok ha, sizeT_ok hn, h1 m hm]
            · simp only [AV.R]; exact ⟨vs, h2, rfl⟩
          · cases hl
        · cases hl
      · rename_i ha
        obtain ⟨u, h1, h2⟩ := cell_ok hb ho.row hl
        refine ⟨u, fun m hm => ⟨rfl, ?_⟩, h2⟩
        have : m.cell? ⟨b, off, none⟩ = some u := by rw [← h1]; simp [World.cell?, hm]
        simp [Instr.loadAt, Instr.sureAddr, loadVar, aggT_ok ha, this]
      · cases hl
    · cases hl
  · rename_i g off
    simp only [AV.R] at ra; subst ra
    split at hl
    · rename_i c hg
      obtain ⟨ob, hb, ho⟩ := r.gw.row (M := M) hg
      split at hl
      · rename_i ha
        split at hl
        · rename_i n hn
          split at hl
          · rename_i l hs
            simp only [Option.some.injEq] at hl; subst hl
            obtain ⟨vs, h1, h2, h3, _⟩ := cells_ok (P := P) hb ho hs
            refine ⟨.agg vs.toArray, fun m hm => ⟨rfl, ?_⟩, ?_⟩
            · simp [Instr.loadAt, Instr.sureAddr, loadVar, aggT_ok ha, sizeT_ok hn, h1 m hm]
            · simp only [AV.R]; exact ⟨vs, h2, rfl⟩
          · cases hl
        · cases hl
      · rename_i ha
        obtain ⟨u, h1, h2⟩ := cell_ok hb ho hl
        refine ⟨u, fun m hm => ⟨rfl, ?_⟩, h2⟩
        have : m.cell? ⟨g, off, none⟩ = some u := by rw [← h1]; simp [World.cell?, hm]
        simp [Instr.loadAt, Instr.sureAddr, loadVar, aggT_ok ha, this]
      · cases hl
    · cases hl
  · cases hl

theorem store_ok {h h' : AH} {w : World} {t : TypeId} {a v : AV} {x y : Value} (hl : storeA P h t a v = some h') (ra : a.R M x) (rv : v.R M y) (r : Rel M h w) :
    ∃ w', (Instr.storeAt t x y).run P w = .ok () w' ∧ Rel M h' w' ∧ Fr h h' M M w w' ∧ Ab h h' := by
  unfold storeA at hl
  split at hl
  · rename_i id off
    simp only [AV.R] at ra
    obtain ⟨b, κ, hM, rfl⟩ := ra
    split at hl
    · rename_i c e g hg
      split at hl
      · rename_i n hn
        simp only [nbeq, Bool.cond_decide] at hl
        split at hl
        · rename_i hlen
          cases hc : allCell (cellsA v) with
          | false => rw [hc] at hl; cases hl
          | true =>
            rw [hc] at hl
            simp only [cond_true] at hl
            split at hl
            · rename_i c' hs
              have rl := cellsA_R rv
              obtain ⟨b', κ', w', hM', hst, q⟩ := splice_ok (P := P) r hg hs hl rl (allCell_one rl hc)
              rw [hM] at hM'
              simp only [Option.some.injEq, Prod.mk.injEq] at hM'
              obtain ⟨rfl, rfl⟩ := hM'
              refine ⟨w', ?_, q⟩
              have hsz : y.cells.size = n := by have := RL_length rl; simp at this; omega
              simp [Instr.storeAt, Instr.sureAddr, storeVar, sizeT_ok hn, hsz, hst]
            · cases hl
        · cases hl
      · cases hl
    · cases hl
  · cases hl

/-! Building. -/
theorem zipset (off : Nat) : ∀ (us : List Value) (k : Nat) (cells : Array Value), off + k + us.length ≤ cells.size →
    (us.zipIdx k).foldl (fun cs (p : Value × Nat) => cs.setIfInBounds (off + p.2) p.1) cells = (cells.toList.take (off + k) ++ us ++ cells.toList.drop (off + k + us.length)).toArray
  | [], k, cells, _ => by simp
  | u :: us, k, cells, h => by
    simp only [List.zipIdx_cons, List.foldl_cons]
    rw [zipset off us (k + 1) _ (by simp at h ⊢; omega)]
    have e := list_seg_step cells.toList (off + k) u us (by simp at h ⊢; omega)
    congr 1
    simpa [Array.toList_setIfInBounds, Nat.add_assoc, Nat.add_comm us.length 1] using e

def PL (M : Mp) : List (Nat × AV) → List (Nat × Value) → Prop
  | [], qs => qs = []
  | p :: ps, qs => ∃ v qs', p.2.R M v ∧ PL M ps qs' ∧ qs = (p.1, v) :: qs'
theorem fill_ok {place : Nat → Option (Nat × Nat)} : ∀ {parts : List (Nat × AV)} {qs : List (Nat × Value)} {cells : List AV} {vs : List Value} {c : List AV},
    fillA place cells parts = some c → AV.RL M cells vs → PL M parts qs →
    ∃ us, Instr.fill place vs.toArray qs = some us.toArray ∧ AV.RL M c us
  | [], _, cells, vs, c, h, r, f => by
    simp only [PL] at f; subst f
    simp only [fillA, Option.some.injEq] at h; subst h
    exact ⟨vs, rfl, r⟩
  | (i, v) :: rest, _, cells, vs, c, h, r, f => by
    simp only [PL] at f
    obtain ⟨y, qs, rv, hf, rfl⟩ := f
    · simp only [fillA] at h
      split at h
      · cases h
      · rename_i off size hpl
        simp only [nbeq, Bool.cond_decide] at h
        split at h
        · rename_i hlen
          split at h
          · rename_i c1 hs
            have rl := cellsA_R rv
            obtain ⟨r2, hle⟩ := RL_splice hs r rl
            obtain ⟨us, h1, h2⟩ := fill_ok h r2 hf
            refine ⟨us, ?_, h2⟩
            have hl := RL_length rl
            have hsz : y.cells.size = size := by simp at hl; omega
            have hle' : off + y.cells.size ≤ vs.length := by simpa using hle
            have hno : ¬ (vs.toArray.size < off + y.cells.size) := by simp; omega
            have hz := zipset off y.cells.toList 0 vs.toArray (by simp; omega)
            have hz' : y.cells.zipIdx.foldl (fun cs (p : Value × Nat) => cs.setIfInBounds (off + p.2) p.1) vs.toArray = (vs.take off ++ y.cells.toList ++ vs.drop (off + y.cells.toList.length)).toArray := by
              rw [← Array.foldl_toList]
              simpa [Array.toList_zipIdx] using hz
            simp only [Instr.fill, hpl]
            rw [if_neg (by simp [hsz]; omega)]
            rw [← h1, ← hz']
          · cases h
        · cases h

theorem fieldsPl_ok {w : World} : ∀ {fs : List Field} {pl : List (Nat × Nat)}, fieldsPl P fs = some pl → (fs.mapM (fun (f : Field) => do pure (f.offset, ← sizeOf f.type)) : Sem (List (Nat × Nat))).run P w = .ok pl w
  | [], pl, h => by simp only [fieldsPl, Option.some.injEq] at h; subst h; simp
  | f :: fs, pl, h => by
    simp only [fieldsPl] at h
    split at h
    · rename_i n r hn hr
      simp only [Option.some.injEq] at h; subst h
      simp only [List.mapM_cons, Sem.run_bind, Sem.run_pure, sizeT_ok hn, Result.andThen_ok, fieldsPl_ok hr]
    · cases h
theorem nthP_eq : ∀ (l : List (Nat × Nat)) (n : Nat), nthP l n = l[n]?
  | [], n => by simp [nthP]
  | a :: l, 0 => by simp [nthP]
  | a :: l, n + 1 => by simp [nthP, nthP_eq l n]

theorem build_ok {w : World} {t : TypeId} {parts : List (Nat × AV)} {qs : List (Nat × Value)} {v : AV} (h : buildA P t parts = some v)
    (f : PL M parts qs) : ∃ u, (Instr.build t qs.toArray).run P w = .ok u w ∧ v.R M u := by
  unfold buildA at h
  split at h
  · rename_i z hz
    obtain ⟨y, hy, ry, _⟩ := zeroT_ok (M := M) hz
    have rl := cellsA_R ry
    split at h
    · rename_i fs hu
      split at h
      · rename_i pl hpl
        split at h
        · rename_i c hc
          simp only [Option.some.injEq] at h; subst h
          obtain ⟨us, h1, h2⟩ := fill_ok hc rl f
          refine ⟨.agg us.toArray, ?_, by simp only [AV.R]; exact ⟨us, h2, rfl⟩⟩
          have hm := fieldsPl_ok (w := w) hpl
          have hm' : (fs.mapM (fun (f : Field) => do pure (f.offset, ← sizeOf f.type)) : Sem (Array (Nat × Nat))).run P w = .ok pl.toArray w := by
            rw [Array.mapM_eq_mapM_toList, Sem.run_map, hm]
            rfl
          have hpl' : nthP pl = fun x => pl[x]? := by funext i; simp [nthP_eq]
          rw [hpl', Array.toArray_toList] at h1
          simp only [Instr.build, Sem.run_bind, hy, Result.andThen_ok, run_underlying hu, hm']
          simp [h1]
        · cases h
      · cases h
    · rename_i n e hu
      split at h
      · rename_i n hn
        split at h
        · rename_i c hc
          simp only [Option.some.injEq] at h; subst h
          obtain ⟨us, h1, h2⟩ := fill_ok hc rl f
          refine ⟨.agg us.toArray, ?_, by simp only [AV.R]; exact ⟨us, h2, rfl⟩⟩
          rw [Array.toArray_toList] at h1
          simp only [Instr.build, Sem.run_bind, hy, Result.andThen_ok, run_underlying hu, sizeT_ok hn]
          simp [h1]
        · cases h
      · cases h
    · cases h
  · cases h

/-! Rows of zeros. -/
theorem repA_len (l : List AV) : ∀ n, (repA n l).length = n * l.length
  | 0 => by simp [repA]
  | n + 1 => by simp [repA, repA_len l n, Nat.add_mul]; omega
def repV : Nat → List Value → List Value
  | 0, _ => []
  | n + 1, l => l ++ repV n l
theorem RL_rep {l : List AV} {vs : List Value} (r : AV.RL M l vs) : ∀ n, AV.RL M (repA n l) (repV n vs)
  | 0 => by simp [repA, repV, AV.RL]
  | n + 1 => RL_append r (RL_rep r n)
theorem repV_len (l : List Value) : ∀ n, (repV n l).length = n * l.length
  | 0 => by simp [repV]
  | n + 1 => by simp [repV, repV_len l n, Nat.add_mul]; omega
theorem repV_get (l : List Value) (d : Value) : ∀ n i, i < n * l.length → (repV n l)[i]? = some (l.getD (i % l.length) d)
  | 0, i, h => by omega
  | n + 1, i, h => by
    have hl : 0 < l.length := by
      rcases Nat.eq_zero_or_pos l.length with h0 | h0
      · rw [h0] at h; omega
      · exact h0
    simp only [repV]
    by_cases hi : i < l.length
    · rw [List.getElem?_append_left hi, Nat.mod_eq_of_lt hi]
      simp [List.getD, hi]
    · rw [List.getElem?_append_right (by omega), repV_get l d n (i - l.length) (by rw [Nat.add_mul] at h; omega)]
      rw [← Nat.mod_eq_sub_mod (by omega)]
theorem rep_zero {z : Array Value} {n m : Nat} (hm : m = n * z.size) : ((Array.range m).map fun i => z[i % z.size]!) = (repV n z.toList).toArray := by
  subst hm
  apply Array.ext'
  apply List.ext_getElem?
  intro i
  by_cases hi : i < n * z.size
  · have h1 := repV_get z.toList default n i (by simpa using hi)
    have hz : 0 < z.size := by
      rcases Nat.eq_zero_or_pos z.size with h0 | h0
      · rw [h0] at hi; omega
      · exact h0
    have hmod : i % z.size < z.size := Nat.mod_lt _ hz
    simp [h1, hi, hmod, List.getD, getElem!_pos]
  · have h1 : (repV n z.toList)[i]? = none := by
      apply List.getElem?_eq_none
      rw [repV_len]; simpa using Nat.le_of_not_lt hi
    simp [h1, hi]
theorem rep_nil {z : Array Value} {n : Nat} : ((Array.range 0).map fun i => z[i % z.size]!) = (repV n []).toArray := by
  have : ∀ n, repV n [] = ([] : List Value) := fun n => by induction n <;> simp_all [repV]
  simp [this]
end
end Go.Proofs.YtiikiphkhfmlcaaGreatDoor.Ex
noncomputable section
namespace Go.Proofs.YtiikiphkhfmlcaaGreatDoor.Ex
open Go

section
variable {P : Program} {M : Mp}

/-- What an operation that yields a value leaves. -/
def Got (P : Program) (h h' : AH) (M : Mp) (w : World) (v : AV) (s : Sem Value) : Prop :=
  ∃ M' u w', s.run P w = .ok u w' ∧ v.R M' u ∧ Rel M' h' w' ∧ Fr h h' M M' w w' ∧ Ab h h'
theorem Got.pure {h : AH} {w : World} {v : AV} {s : Sem Value} {u : Value} (r : Rel M h w) (e : s.run P w = .ok u w) (rv : v.R M u) : Got P h h M w v s :=
  ⟨M, u, w, e, rv, r, Fr.same h M w, Ab.refl h⟩

theorem newA_ok {h h' : AH} {w : World} {ao : AO} {ob : Obj} {κ : Nat} {f : Nat → AV} {v : AV} (hn : newA h ao f = some (v, h')) (r : Rel M h w) (fr : Fresh M h h') (ho : ObR M κ ao ob) :
    ∃ M', v = f h.nx ∧ M' h.nx = some (w.heap.size, κ) ∧ Rel M' h' (w.alloc ob) ∧ Fr h h' M M' w (w.alloc ob) ∧ Ab h h' := by
  unfold newA at hn
  split at hn
  · rename_i h2 hh
    simp only [Option.some.injEq, Prod.mk.injEq] at hn
    obtain ⟨rfl, rfl⟩ := hn
    have hnx := (AH.new_nx hh).1
    have := new_ok (κ := κ) r hh (fr h.nx (Nat.le_refl _) (by omega)) ho
    exact ⟨_, rfl, by simp [updM], this⟩
  · cases hn

theorem newVar_run (t : TypeId) (v : Value) (w : World) : (newVar t v).run P w = .ok ⟨w.heap.size, 0, none⟩ (w.alloc (.cells v.cells t (0, 0))) := by
  simp [newVar, newRow]
theorem ObR_cells {κ : Nat} {l : List AV} {t : TypeId} {cs : Array Value} (r : AV.RL M l cs.toList) : ObR M κ (.cells l t none) (.cells cs t (0, 0)) :=
  ⟨cs.toList, [], r, by simp, rfl⟩

theorem box_ok {h h' : AH} {w : World} {t : TypeId} {x v : AV} {y : Value} (hn : newA h (.cells (cellsA x) t none) (fun id => .ptr id 0) = some (v, h')) (rx : x.R M y) (r : Rel M h w) (fr : Fresh M h h') :
    Got P h h' M w v (Instr.box t y) := by
  obtain ⟨M', rfl, hM, q⟩ := newA_ok (κ := 0) hn r fr (ObR_cells (cellsA_R rx))
  exact ⟨M', .pointer (some ⟨w.heap.size, 0, none⟩), _, by simp [Instr.box, newVar_run], by simp only [AV.R]; exact ⟨_, _, hM, rfl⟩, q⟩
theorem alloc_ok {h h' : AH} {w : World} {t : TypeId} {z v : AV} (hz : zeroT P t = some z) (hn : newA h (.cells (cellsA z) t none) (fun id => .ptr id 0) = some (v, h')) (r : Rel M h w) (fr : Fresh M h h') :
    Got P h h' M w v (Instr.alloc t true (.tuple #[])) := by
  obtain ⟨y, hy, ry, _⟩ := zeroT_ok (M := M) hz
  obtain ⟨M', rfl, hM, q⟩ := newA_ok (κ := 0) hn r fr (ObR_cells (cellsA_R ry))
  exact ⟨M', .pointer (some ⟨w.heap.size, 0, none⟩), _, by simp [Instr.alloc, hy, newVar_run], by simp only [AV.R]; exact ⟨_, _, hM, rfl⟩, q⟩

theorem buildSlice_ok {h h' : AH} {w : World} {t : TypeId} {n : Nat} {parts : List (Nat × AV)} {qs : List (Nat × Value)} {v : AV} (hb : buildSliceA P h t n parts = some (v, h')) (f : PL M parts qs) (r : Rel M h w) (fr : Fresh M h h') :
    Got P h h' M w v (Instr.buildSlice t n qs.toArray) := by
  unfold buildSliceA at hb
  split at hb
  · rename_i e hu
    split at hb
    · rename_i z hz
      simp only [nble, nbeq, Bool.cond_decide] at hb
      split at hb
      · rename_i hle
        split at hb
        · rename_i zs hzs
          split at hb
          · rename_i c hc
            have hno : ¬ (16777216 < n * z) := by omega
            by_cases h0 : n * z = 0
            · simp only [h0, if_true, Option.some.injEq] at hzs; subst hzs
              obtain ⟨cs, h1, h2⟩ := fill_ok hc (show AV.RL M [] [] by simp [AV.RL]) f
              obtain ⟨M', rfl, hM, q⟩ := newA_ok (κ := 0) hb r fr (ObR_cells (cs := cs.toArray) (by simpa using h2))
              refine ⟨M', .slice (some ⟨w.heap.size, 0, none⟩) n n, _, ?_, by simp only [AV.R]; exact ⟨_, _, hM, rfl⟩, q⟩
              have e0 : ∀ d : Value, Array.map (fun _ : Nat => d) (Array.range 0) = #[] := fun _ => Array.eq_empty_of_size_eq_zero (by simp)
              simp [Instr.buildSlice, run_underlying hu, sizeT_ok hz, h0, e0, h1, newRow]
            · simp only [h0, if_false] at hzs
              split at hzs
              · rename_i za hza
                obtain ⟨y, hy, ry, _⟩ := zeroT_ok (M := M) hza
                split at hzs
                · rename_i hl
                  simp only [Option.some.injEq] at hzs; subst hzs
                  have rl := cellsA_R ry
                  have hlen := RL_length rl
                  have hm : n * z = n * y.cells.size := by simp at hlen; rw [hlen, hl]
                  obtain ⟨cs, h1, h2⟩ := fill_ok hc (RL_rep rl n) f
                  obtain ⟨M', rfl, hM, q⟩ := newA_ok (κ := 0) hb r fr (ObR_cells (cs := cs.toArray) (by simpa using h2))
                  refine ⟨M', .slice (some ⟨w.heap.size, 0, none⟩) n n, _, ?_, by simp only [AV.R]; exact ⟨_, _, hM, rfl⟩, q⟩
                  have hrz := rep_zero hm
                  simp only [Instr.buildSlice, Sem.run_bind, run_underlying hu, Result.andThen_ok, sizeT_ok hz]
                  rw [show (2 : Nat) ^ 24 = 16777216 from rfl]
                  simp only [gt_iff_lt, hno, h0, if_false, Sem.run_bind, hy, Result.andThen_ok, Sem.run_pure, hrz]
                  simp [h1, newRow]
                · cases hzs
              · cases hzs
          · cases hb
        · cases hb
      · cases hb
    · cases hb
  · cases hb

theorem wrap_id (k : IntKind) (n : Int) (h1 : -(negLim k : Int) ≤ n) (h2 : n < (posLim k : Int)) : k.wrap n = n := by
  cases k <;> simp only [negLim, posLim] at h1 h2 <;> simp [IntKind.wrap, IntKind.signed, IntKind.bits] <;> omega
theorem wrapF_eq (k : IntKind) (n : Int) : wrapF k n = k.wrap n := by
  cases n with
  | ofNat a =>
    simp only [wrapF, nblt, Bool.cond_decide]
    split
    · rename_i hlt
      rw [wrap_id]
      · simp only [Int.ofNat_eq_natCast]; omega
      · simp only [Int.ofNat_eq_natCast]; omega
    · rfl
  | negSucc a =>
    simp only [wrapF, nblt, Bool.cond_decide]
    split
    · rename_i hlt
      rw [wrap_id]
      · simp only [Int.negSucc_eq]; omega
      · simp only [Int.negSucc_eq]; omega
    · rfl
theorem ltI_eq (a b : Int) : ltI a b = decide (a < b) := by
  cases a <;> cases b <;> simp only [ltI, nblt, Int.ofNat_eq_natCast, Int.negSucc_eq] <;> first
    | (rw [Bool.eq_iff_iff]; simp only [decide_eq_true_eq]; omega)
    | (exact (decide_eq_true (by omega)).symm)
    | (exact (decide_eq_false (by omega)).symm)
theorem eqI_eq (a b : Int) : eqI a b = (a == b) := by
  rw [Bool.eq_iff_iff, beq_iff_eq]
  cases a <;> cases b <;> simp [eqI, nbeq] <;> omega
theorem eqK_eq {a b : IntKind} (h : eqK a b = true) : a = b := by
  cases a <;> cases b <;> first | rfl | cases h
theorem eqK_ne {a b : IntKind} (h : eqK a b = false) : a ≠ b := by
  intro e; subst e; cases a <;> cases h
theorem eqS_eq : ∀ (x y : List UInt8), eqS x y = (x == y)
  | [], [] => rfl
  | [], _ :: _ => rfl
  | _ :: _, [] => rfl
  | a :: x, b :: y => by
    simp only [eqS, nbeq, Bool.cond_decide]
    by_cases h : a = b
    · subst h; simp [eqS_eq x y]
    · have : a.toNat ≠ b.toNat := fun e => h (UInt8.toNat_inj.1 e)
      simp [h, this]

theorem pureV_ok {s : Sem Value} {v : AV} (h : pureV s = some v) : ∃ u, (∀ w, s.run P w = .ok u w) ∧ v.R M u := by
  unfold pureV at h
  split at h
  · simp only [Option.some.injEq] at h; subst h; exact ⟨_, fun _ => rfl, rfl⟩
  · simp only [Option.some.injEq] at h; subst h; exact ⟨_, fun _ => rfl, rfl⟩
  · cases h
theorem intBin_ok {op : BinOp} {k : IntKind} {a b : Int} {v : AV} {t : TypeId} (h : intBin op k a b = some v) : ∃ u, (∀ w, (binOp op t (.int k a) (.int k b)).run P w = .ok u w) ∧ v.R M u := by
  unfold intBin at h
  cases op <;> simp only [Option.some.injEq, reduceCtorEq] at h <;> first
    | (subst h; simp only [wrapF_eq, ltI_eq, eqI_eq]; first | exact ⟨.int k (k.wrap (a + b)), fun w => by simp [binOp, Op.intArith], rfl⟩ | exact ⟨.int k (k.wrap (a - b)), fun w => by simp [binOp, Op.intArith], rfl⟩ | exact ⟨.int k (k.wrap (a * b)), fun w => by simp [binOp, Op.intArith], rfl⟩ | exact ⟨.bool _, fun w => by simp [binOp, Op.intCmp]; rfl, by simp only [AV.R, Value.bool.injEq]; first | done | rfl | (rw [Bool.eq_iff_iff]; simp; done)⟩)
    | (obtain ⟨u, h1, h2⟩ := pureV_ok (P := P) (M := M) h; exact ⟨u, fun w => by rw [← h1 w]; simp [binOp], h2⟩)

theorem strBin_ok {op : BinOp} {x y : List UInt8} {v : AV} {t : TypeId} (h : strBin op x y = some v) : ∃ u, (∀ w, (binOp op t (.string ⟨x.toArray⟩) (.string ⟨y.toArray⟩)).run P w = .ok u w) ∧ v.R M u := by
  have tl : ∀ l : List UInt8, (⟨l.toArray⟩ : ByteArray).toList = l := fun l => by rw [ByteArray.toList_eq]
  unfold strBin at h
  cases op <;> simp only [Option.some.injEq, reduceCtorEq] at h
  case add =>
    simp only [nble, Bool.cond_decide] at h
    split at h
    · rename_i hle
      simp only [Option.some.injEq] at h; subst h
      refine ⟨.string (⟨x.toArray⟩ ++ ⟨y.toArray⟩), fun w => ?_, ?_⟩
      · have hno : ¬ (IntKind.i64.max < ((x.length + y.length : Nat) : Int)) := by
          rw [show IntKind.i64.max = 9223372036854775807 from rfl]; omega
        have hs : ∀ l : List UInt8, (⟨l.toArray⟩ : ByteArray).size = l.length := fun l => by simp [ByteArray.size]
        simp only [binOp, Op.stringOp, hs, gt_iff_lt, hno, if_false, Sem.run_pure]
      · simp only [AV.R]
        first | done | (congr 1; done) | (congr 1; apply ByteArray.ext; simp)
    · cases h
  all_goals
    subst h
    refine ⟨_, fun w => by simp only [binOp, Op.stringOp, tl, Sem.run_pure]; rfl, ?_⟩
    simp only [AV.R, eqS_eq]

theorem Ob_of {h : AH} {w : World} {id b κ : Nat} {o : AO} (r : Rel M h w) (hg : h.get id = some o) (hM : M id = some (b, κ)) : ∃ ob, w.heap[b]? = some ob ∧ ObR M κ o ob := by
  rcases r.obj id o hg with ⟨_, hv⟩ | ⟨b', κ', ob, h1, h2, h3⟩
  · rw [hM] at hv; cases hv
  rw [hM] at h1
  simp only [Option.some.injEq, Prod.mk.injEq] at h1
  obtain ⟨rfl, rfl⟩ := h1
  exact ⟨ob, h2, h3⟩

/-! Addresses. -/
theorem nthF_eq : ∀ (l : List Field) (n : Nat), nthF l n = l[n]?
  | [], n => by simp [nthF]
  | a :: l, 0 => by simp [nthF]
  | a :: l, n + 1 => by simp [nthF, nthF_eq l n]
theorem fieldAddr_ok {t : TypeId} {x v : AV} {y : Value} {f : Nat} (h : fieldAddrA P t x f = some v) (rx : x.R M y) : ∃ u, (∀ w, (Instr.fieldAt t y f).run P w = .ok u w) ∧ v.R M u := by
  unfold fieldAddrA at h
  split at h
  · rename_i fs hu
    split at h
    · rename_i fd hf
      rw [nthF_eq, Array.getElem?_toList] at hf
      split at h
      · cases h
      · rename_i n hn hz
        split at h
        · rename_i id off
          simp only [Option.some.injEq] at h; subst h
          simp only [AV.R] at rx
          obtain ⟨b, c, hM, rfl⟩ := rx
          refine ⟨.pointer (some ⟨b, off + fd.offset, none⟩), fun w => ?_, by simp only [AV.R]; exact ⟨b, c, hM, rfl⟩⟩
          have hn0 : ¬ (n = 0) := fun e => hn e
          simp [Instr.fieldAt, run_underlying hu, hf, Instr.sureAddr, fieldPlace, sizeT_ok hz, hn0, addr_add]
        · rename_i g off
          simp only [Option.some.injEq] at h; subst h
          simp only [AV.R] at rx; subst rx
          refine ⟨.pointer (some ⟨g, off + fd.offset, none⟩), fun w => ?_, rfl⟩
          have hn0 : ¬ (n = 0) := fun e => hn e
          simp [Instr.fieldAt, run_underlying hu, hf, Instr.sureAddr, fieldPlace, sizeT_ok hz, hn0, addr_add]
        · cases h
      · cases h
    · cases h
  · cases h
theorem field_ok {t : TypeId} {x v : AV} {y : Value} {f : Nat} (h : fieldA P t x f = some v) (rx : x.R M y) : ∃ u, (∀ w, (Instr.field t y f).run P w = .ok u w) ∧ v.R M u := by
  unfold fieldA at h
  split at h
  · rename_i fs cs hu
    split at h
    · rename_i fd hf
      rw [nthF_eq, Array.getElem?_toList] at hf
      simp only [AV.R] at rx
      obtain ⟨vs, r, rfl⟩ := rx
      obtain ⟨u, h1, h2⟩ := part_ok h r
      exact ⟨u, fun w => by simp [Instr.field, run_underlying hu, hf, asAgg, h1], h2⟩
    · cases h
  · cases h
theorem indexAddr_ok {t : TypeId} {x ix v : AV} {y iy : Value} (h : indexAddrA P t x ix = some v) (rx : x.R M y) (ri : ix.R M iy) : ∃ u, (∀ w, (Instr.indexAt t y iy).run P w = .ok u w) ∧ v.R M u := by
  unfold indexAddrA at h
  split at h
  · rename_i k n
    simp only [AV.R] at ri; subst ri
    split at h
    · rename_i e id off len cap u hu
      simp only [nblt, Bool.cond_decide] at h
      split at h
      · rename_i hlt
        split at h
        · rename_i z hz
          simp only [Option.some.injEq] at h; subst h
          simp only [AV.R] at rx
          obtain ⟨b, c, hM, rfl⟩ := rx
          refine ⟨.pointer (some ⟨b, off + n * z, none⟩), fun w => ?_, by simp only [AV.R]; exact ⟨b, c, hM, rfl⟩⟩
          simp [Instr.indexAt, asIntOf, run_underlying hu, hlt, sizeT_ok hz, addr_add]
        · cases h
      · cases h
    · rename_i len e id off hu
      simp only [nblt, Bool.cond_decide] at h
      split at h
      · rename_i hlt
        split at h
        · rename_i z hz
          simp only [Option.some.injEq] at h; subst h
          simp only [AV.R] at rx
          obtain ⟨b, c, hM, rfl⟩ := rx
          refine ⟨.pointer (some ⟨b, off + n * z, none⟩), fun w => ?_, by simp only [AV.R]; exact ⟨b, c, hM, rfl⟩⟩
          simp [Instr.indexAt, asIntOf, run_underlying hu, hlt, sizeT_ok hz, addr_add, Instr.sureAddr]
        · cases h
      · cases h
    · rename_i len e g off hu
      simp only [nblt, Bool.cond_decide] at h
      split at h
      · rename_i hlt
        split at h
        · rename_i z hz
          simp only [Option.some.injEq] at h; subst h
          simp only [AV.R] at rx; subst rx
          refine ⟨.pointer (some ⟨g, off + n * z, none⟩), fun w => ?_, rfl⟩
          simp [Instr.indexAt, asIntOf, run_underlying hu, hlt, sizeT_ok hz, addr_add, Instr.sureAddr]
        · cases h
      · cases h
    · cases h
  · cases h
theorem index_ok {t : TypeId} {x ix v : AV} {y iy : Value} (h : indexA P t x ix = some v) (rx : x.R M y) (ri : ix.R M iy) : ∃ u, (∀ w, (Instr.index t y iy).run P w = .ok u w) ∧ v.R M u := by
  unfold indexA at h
  split at h
  · rename_i k n
    simp only [AV.R] at ri; subst ri
    split at h
    · rename_i len e cs hu
      simp only [nblt, Bool.cond_decide] at h
      split at h
      · rename_i hlt
        split at h
        · rename_i z hz
          simp only [AV.R] at rx
          obtain ⟨vs, r, rfl⟩ := rx
          obtain ⟨u, h1, h2⟩ := part_ok h r
          exact ⟨u, fun w => by simp [Instr.index, asIntOf, run_underlying hu, hlt, sizeT_ok hz, h1], h2⟩
        · cases h
      · cases h
    · rename_i l hu
      split at h
      · rename_i c hc
        simp only [Option.some.injEq] at h; subst h
        simp only [AV.R] at rx; subst rx
        refine ⟨.int .u8 c.toNat, fun w => ?_, rfl⟩
        have hlt : n < l.length := (List.getElem?_eq_some_iff.1 hc).1
        have hc2 : (⟨l.toArray⟩ : ByteArray)[n]? = some c := by
          have hsz : n < (⟨l.toArray⟩ : ByteArray).size := by simpa [ByteArray.size] using hlt
          rw [getElem?_pos (⟨l.toArray⟩ : ByteArray) n hsz]
          have := (List.getElem?_eq_some_iff.1 hc).2
          simp only [Option.some.injEq]
          rw [← this]; rfl
        simp [Instr.index, asIntOf, run_underlying hu, hc2]
      · cases h
    · cases h
  · cases h
end
end Go.Proofs.YtiikiphkhfmlcaaGreatDoor.Ex
