/- The abstract machine: what its operations compute by symbols is what the machine's compute (3): memory. -/
import Derived.Test.YtiikiphkhfmlcaaGreatDoorExZ
noncomputable section
namespace Go.Proofs.YtiikiphkhfmlcaaGreatDoor.Ex
open Go

theorem place_ne {p i z q j m : Nat} (hq : q < z) (hj : j + m ≤ z) (h : p ≠ i) : ¬ (i * z + j ≤ p * z + q ∧ p * z + q < i * z + j + m) := by
  rcases Nat.lt_or_gt_of_ne h with h | h
  · have := Nat.mul_le_mul_right z (show p + 1 ≤ i from h)
    rw [Nat.add_mul] at this; omega
  · have := Nat.mul_le_mul_right z (show i + 1 ≤ p from h)
    rw [Nat.add_mul] at this; omega
theorem place_lt {p q z n : Nat} (hp : p < n) (hq : q < z) : p * z + q < n * z := by
  have := Nat.mul_le_mul_right z (show p + 1 ≤ n from hp)
  rw [Nat.add_mul] at this; omega
/-- Out of a value for each number, a list. -/
theorem list_of {α : Type} {Q : Nat → α → Prop} : ∀ (n : Nat), (∀ k, k < n → ∃ v, Q k v) → ∃ l : List α, l.length = n ∧ ∀ k v, l[k]? = some v → Q k v
  | 0, _ => ⟨[], rfl, fun k v h => by simp at h⟩
  | n + 1, h => by
    obtain ⟨l, h1, h2⟩ := list_of n (fun k hk => h k (by omega))
    obtain ⟨v, hv⟩ := h n (by omega)
    refine ⟨l ++ [v], by simp [h1], fun k u hk => ?_⟩
    by_cases hlt : k < l.length
    · rw [List.getElem?_append_left hlt] at hk; exact h2 k u hk
    · rw [List.getElem?_append_right (by omega)] at hk
      have : k = n := by
        have := (List.getElem?_eq_some_iff.1 hk).1
        simp at this; omega
      subst this
      simp [h1] at hk; subst hk; exact hv

section
variable {P : Program} {M : Mp}

theorem arr_cell {h : AH} {w : World} {id b κ z n : Nat} {ro : Bool} {e : TypeId} {f : Nat → Nat → AV} (r : Rel M h w) (hg : h.get id = some (.arr ro e z n f)) (hM : M id = some (b, κ)) :
    ∀ i, i < n → ∀ j, j < z → ∃ v, (∀ m : World, m.heap = w.heap → m.cell? ⟨b, (if ro then κ else 0) + i * z + j, none⟩ = some v) ∧ v.oneCell' = true ∧ (f i j).R M v := fun i hi j hj => by
  obtain ⟨ob, hb, ho⟩ := Ob_of r hg hM
  cases ro with
  | true =>
    obtain ⟨cs, e', fr, rfl, q⟩ := ho
    obtain ⟨v, h1, h2⟩ := q i hi j hj
    exact ⟨v, fun m hm => by simp [World.cell?, hm, hb, h1], h2⟩
  | false =>
    obtain ⟨cs, rfl, _, _, q⟩ := ho
    obtain ⟨v, h1, h2⟩ := q i hi j hj
    exact ⟨v, fun m hm => by simp [World.cell?, hm, hb, h1], h2⟩
theorem cellsF_ok {g : Nat → AV} {R : Nat → Value → Prop} : ∀ (m j : Nat), (∀ q, j ≤ q → q < j + m → ∃ v, R q v ∧ (g q).R M v) → ∃ vs, AV.RL M (cellsF g m j) vs ∧ vs.length = m ∧ ∀ k v, vs[k]? = some v → R (j + k) v
  | 0, j, _ => ⟨[], rfl, rfl, fun k v h => by simp at h⟩
  | m + 1, j, h => by
    obtain ⟨v, h1, h2⟩ := h j (Nat.le_refl _) (by omega)
    obtain ⟨vs, q1, q2, q3⟩ := cellsF_ok m (j + 1) (fun q a b => h q (by omega) (by omega))
    refine ⟨v :: vs, by simp only [cellsF, AV.RL]; exact ⟨v, vs, h2, q1, rfl⟩, by simp [q2], fun k u hk => ?_⟩
    cases k with
    | zero => simp at hk; subst hk; exact h1
    | succ k => have := q3 k u (by simpa using hk); rwa [show j + 1 + k = j + (k + 1) by omega] at this
theorem partF_ok {w : World} {t : TypeId} {b base z j : Nat} {g : Nat → AV} {v : AV} (hp : partF P t z g j = some v) (hcell : ∀ q, q < z → ∃ v, (∀ m : World, m.heap = w.heap → m.cell? ⟨b, base + q, none⟩ = some v) ∧ (g q).R M v) :
    ∃ u, (∀ m : World, m.heap = w.heap → (Instr.loadAt t (.pointer (some ⟨b, base + j, none⟩))).run P m = .ok u m) ∧ v.R M u := by
  unfold partF at hp
  split at hp
  · rename_i ha
    split at hp
    · rename_i m hm
      simp only [nble, Bool.cond_decide] at hp
      split at hp
      · rename_i hle
        simp only [Option.some.injEq] at hp; subst hp
        obtain ⟨vs, q1, q2, q3⟩ := cellsF_ok (M := M) (g := g) (R := fun q v => ∀ m : World, m.heap = w.heap → m.cell? ⟨b, base + q, none⟩ = some v) m j (fun q a c => by
          obtain ⟨v, p1, p2⟩ := hcell q (by omega)
          exact ⟨v, p1, p2⟩)
        refine ⟨.agg vs.toArray, fun m' hm' => ?_, by simp only [AV.R]; exact ⟨vs, q1, rfl⟩⟩
        have := run_loadCells_list (P := P) m' ⟨b, base + j, none⟩ vs (fun k u hk => by rw [addr_add, Nat.add_assoc _ j k]; exact q3 k u hk m' hm')
        rw [q2] at this
        simp [Instr.loadAt, Instr.sureAddr, loadVar, aggT_ok ha, sizeT_ok hm, this]
      · cases hp
    · cases hp
  · rename_i ha
    simp only [nblt, Bool.cond_decide] at hp
    split at hp
    · rename_i hlt
      simp only [Option.some.injEq] at hp; subst hp
      obtain ⟨v, p1, p2⟩ := hcell j hlt
      refine ⟨v, fun m' hm' => ?_, p2⟩
      simp [Instr.loadAt, Instr.sureAddr, loadVar, aggT_ok ha, p1 m' hm']
    · cases hp
  · cases hp
theorem loadY_ok {h : AH} {w : World} {t : TypeId} {a v : AV} {x : Value} (hl : (loadY P h t a).sel = some v) (ra : a.R M x) (r : Rel M h w) :
    ∃ u, (∀ m : World, m.heap = w.heap → ((asAddr x).run P m = (Instr.sureAddr x).run P m) ∧ (Instr.loadAt t x).run P m = .ok u m) ∧ v.R M u := by
  unfold loadY at hl
  split at hl
  · rename_i ro id z i j
    simp only [AV.R] at ra
    obtain ⟨b, κ, hM, rfl⟩ := ra
    split at hl
    · rename_i ro' e z' n f hg
      cases hc : ((ro == ro') && Nat.beq z z') with
      | false => rw [hc] at hl; cases hl
      | true =>
        rw [hc, cond_true] at hl
        simp only [Bool.and_eq_true, beq_iff_eq, nbeq, decide_eq_true_eq] at hc
        obtain ⟨rfl, rfl⟩ := hc
        split at hl
        · rename_i v' hp
          obtain ⟨h1, h2⟩ := T.sel_must hl
          obtain rfl := T.sel_ret h2
          have hi : i < n := of_decide_eq_true h1
          have hcell := arr_cell r hg hM i hi
          obtain ⟨u, q1, q2⟩ := partF_ok (P := P) (M := M) (w := w) hp (fun q hq => by obtain ⟨v, p1, _, p2⟩ := hcell q hq; exact ⟨v, p1, p2⟩)
          exact ⟨u, fun m hm => ⟨rfl, q1 m hm⟩, q2⟩
        · cases hl
    · cases hl
  · rename_i z j g
    simp only [AV.R] at ra
    obtain ⟨b, off, cs, rfl, hz, hc⟩ := ra
    split at hl
    · rename_i v' hp
      obtain rfl := T.sel_ret hl
      obtain ⟨e, fr, hb⟩ := r.fz b cs hz
      obtain ⟨u, q1, q2⟩ := partF_ok (P := P) (M := M) (w := w) (b := b) (base := off) hp (fun q hq => by
        obtain ⟨v, p1, _, p2⟩ := hc q hq
        exact ⟨v, fun m hm => by simp [World.cell?, hm, hb, p1], p2⟩)
      exact ⟨u, fun m hm => ⟨rfl, q1 m hm⟩, q2⟩
    · cases hl
  · cases hl

/-- A row of cells in which some are others. -/
theorem row_get {cs us : List Value} {o k : Nat} (h : o + us.length ≤ cs.length) : (cs.take o ++ us ++ cs.drop (o + us.length))[k]? = if o ≤ k ∧ k < o + us.length then us[k - o]? else cs[k]? := by
  split
  · rename_i hk
    rw [List.append_assoc, List.getElem?_append_right (by simp; omega), List.getElem?_append_left (by simp; omega)]
    congr 1; simp; omega
  · rename_i hk
    by_cases h1 : k < o
    · rw [List.append_assoc, List.getElem?_append_left (by simp; omega), List.getElem?_take, if_pos h1]
    · rw [List.getElem?_append_right (by simp; omega), List.getElem?_drop]
      congr 1; simp; omega
theorem storeY_ok {h h' : AH} {w : World} {t : TypeId} {a v : AV} {x y : Value} (hl : (storeY P h t a v).sel = some h') (ra : a.R M x) (rv : v.R M y) (r : Rel M h w) :
    ∃ w', (Instr.storeAt t x y).run P w = .ok () w' ∧ Rel M h' w' ∧ Fr h h' M M w w' ∧ Ab h h' := by
  unfold storeY at hl
  split at hl
  · rename_i id z i j
    simp only [AV.R] at ra
    obtain ⟨b, κ, hM, rfl⟩ := ra
    split at hl
    · rename_i e z' n f hg
      split at hl
      · rename_i m hm
        cases hc : (Nat.beq z z' && Nat.beq (cellsA v).length m && Nat.ble (j + m) z && allCell (cellsA v)) with
        | false => rw [hc] at hl; cases hl
        | true =>
          rw [hc, cond_true] at hl
          simp only [Bool.and_eq_true, nbeq, nble, decide_eq_true_eq] at hc
          obtain ⟨⟨⟨rfl, hlen⟩, hjm⟩, hall⟩ := hc
          split at hl
          · rename_i h2 hp
            obtain ⟨h1, hs⟩ := T.sel_must hl
            obtain rfl := T.sel_ret hs
            have hi : i < n := of_decide_eq_true h1
            obtain ⟨ob, hb, cs, rfl, hsz, hnκ, q⟩ := Ob_of r hg hM
            have rl := cellsA_R rv
            have hul := RL_length rl
            have one := allCell_one rl hall
            have hfit : i * z + j + y.cells.toList.length ≤ cs.size := by
              have := Nat.mul_le_mul_right z (show i + 1 ≤ κ by omega)
              rw [Nat.add_mul] at this
              rw [hsz, hul, hlen]; omega
            have hst := run_storeCells_at P b (i * z + j) e y.cells.toList 0 cs w hb (by simpa using hfit) one
            simp only [Nat.add_zero] at hst
            obtain ⟨row, hrow⟩ : ∃ row, row = (cs.toList.take (i * z + j) ++ y.cells.toList ++ cs.toList.drop (i * z + j + y.cells.toList.length)).toArray := ⟨_, rfl⟩
            rw [← hrow] at hst
            refine ⟨w.setRow b row, ?_, put_ok r hg hp hM (upd_setRow hb) ⟨row, rfl, ?_, hnκ, fun p hp2 c hc => ?_⟩⟩
            · have hys : y.cells.size = m := by simp at hul; omega
              simp [Instr.storeAt, Instr.sureAddr, storeVar, sizeT_ok hm, hys, hst]
            · rw [hrow]; simp; rw [← hsz]; simp at hfit; omega
            · have hg2 : row[p * z + c]? = if i * z + j ≤ p * z + c ∧ p * z + c < i * z + j + y.cells.toList.length then y.cells.toList[p * z + c - (i * z + j)]? else cs[p * z + c]? := by
                rw [hrow, List.getElem?_toArray, row_get (by simpa using hfit)]; split <;> simp
              rw [hg2]
              obtain ⟨v0, g1, g2, g3⟩ := q p hp2 c hc
              by_cases hpi : p = i
              · subst hpi
                by_cases hcj : j ≤ c ∧ c < j + y.cells.toList.length
                · rw [if_pos (by omega)]
                  have hk : p * z + c - (p * z + j) = c - j := by omega
                  rw [hk]
                  have hlt : c - j < y.cells.toList.length := by omega
                  refine ⟨y.cells.toList[c - j], by simp, one _ (List.getElem_mem _), ?_⟩
                  simp only [setF, nble, Bool.cond_decide, if_pos hcj.1]
                  have hnth : ∃ a, nthA (cellsA v) (c - j) = some a ∧ a.R M (y.cells.toList[c - j]) := by
                    have hlt2 : c - j < (cellsA v).length := by omega
                    have e1 : ∀ (l : List AV) (k : Nat) (hk : k < l.length), nthA l k = some l[k] := by
                      intro l
                      induction l with
                      | nil => intro k hk; simp at hk
                      | cons a l ih =>
                        intro k hk
                        cases k with
                        | zero => rfl
                        | succ k => exact ih k (by simpa using hk)
                    refine ⟨_, e1 _ _ hlt2, ?_⟩
                    obtain ⟨v1, k1, k2⟩ := nthA_get (e1 _ _ hlt2) rl
                    rw [List.getElem?_eq_getElem hlt] at k1
                    simp only [Option.some.injEq] at k1; rw [k1]; exact k2
                  obtain ⟨a, k1, k2⟩ := hnth
                  rw [k1]
                  exact selA_ok _ (by simp only [yNeq, decide_true, cond_true]; exact k2)
                · rw [if_neg (by omega)]
                  refine ⟨v0, g1, g2, ?_⟩
                  simp only [setF, nble, Bool.cond_decide]
                  split
                  · rename_i hjc
                    have : nthA (cellsA v) (c - j) = none := by
                      have e1 : ∀ (l : List AV) (k : Nat), l.length ≤ k → nthA l k = none := by
                        intro l
                        induction l with
                        | nil => intro k hk; rfl
                        | cons a l ih =>
                          intro k hk
                          cases k with
                          | zero => simp at hk
                          | succ k => exact ih k (by simpa using hk)
                      exact e1 _ _ (by omega)
                    rw [this]; exact g3
                  · exact g3
              · rw [if_neg (by have := place_ne (i := i) (j := j) (m := y.cells.toList.length) hc (by omega) hpi; exact this)]
                refine ⟨v0, g1, g2, ?_⟩
                simp only [setF, nble, Bool.cond_decide]
                split
                · split
                  · exact selA_ok _ (by simp only [yNeq, hpi, decide_false, cond_false]; exact g3)
                  · exact g3
                · exact g3
          · cases hl
      · cases hl
    · cases hl
  · cases hl
end
end Go.Proofs.YtiikiphkhfmlcaaGreatDoor.Ex
