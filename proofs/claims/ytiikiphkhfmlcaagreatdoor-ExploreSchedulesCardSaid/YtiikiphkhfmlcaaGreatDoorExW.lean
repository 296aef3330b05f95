/- The abstract machine: what its operations compute by symbols is what the machine's compute (5): append, make. -/
import Derived.Test.YtiikiphkhfmlcaaGreatDoorExV
noncomputable section
namespace Go.Proofs.YtiikiphkhfmlcaaGreatDoor.Ex
open Go

section
variable {P : Program} {M : Mp}

theorem nthA_lt : ∀ {l : List AV} {k : Nat}, k < l.length → ∃ a, nthA l k = some a
  | [], k, h => by simp at h
  | a :: l, 0, _ => ⟨a, rfl⟩
  | a :: l, k + 1, h => nthA_lt (l := l) (k := k) (by simpa using h)
theorem catLit_ok {z : Nat} : ∀ (m n : Nat) (f : Option (Nat → Nat → AV)) (new : List AV) (us : List Value), AV.RL M new us → us.length = m * z → (f = none → n = 0) →
    (∀ i, i < m → ∀ j, j < z → ∃ v, us[i * z + j]? = some v ∧ (orNp (catLit z m n f new) (n + i) j).R M v) ∧ (∀ f0, f = some f0 → ∀ i, i < n → ∀ j v, (f0 i j).R M v → (orNp (catLit z m n f new) i j).R M v)
  | 0, n, f, new, us, r, hl, hf => ⟨fun i hi => by omega, fun f0 e i _ j v h => by subst e; exact h⟩
  | m + 1, n, none, new, us, r, hl, hf => by
    obtain rfl := hf rfl
    have hl1 : us.length = m * z + z := by rw [hl, Nat.add_mul]; omega
    have hln := RL_length r
    obtain ⟨i1, i2⟩ := catLit_ok (z := z) m 1 (some fun _ j => match nthA new j with | some v => v | none => .np) (new.drop z) (us.drop z) (RL_drop z r) (by simp; omega) (fun e => by cases e)
    refine ⟨fun i hi j hj => ?_, fun f0 e => by cases e⟩
    cases i with
    | zero =>
      obtain ⟨a, ha⟩ := nthA_lt (l := new) (k := j) (by omega)
      obtain ⟨v, h1, h2⟩ := nthA_get ha r
      exact ⟨v, by simpa using h1, i2 _ rfl 0 (by omega) j v (by simp only [ha]; exact h2)⟩
    | succ i =>
      obtain ⟨v, h1, h2⟩ := i1 i (by omega) j hj
      rw [List.getElem?_drop] at h1
      refine ⟨v, ?_, ?_⟩
      · rw [← h1]; congr 1; rw [Nat.add_mul]; omega
      · rw [show 0 + (i + 1) = 1 + i by omega]; exact h2
  | m + 1, n, some f0, new, us, r, hl, hf => by
    have hl1 : us.length = m * z + z := by rw [hl, Nat.add_mul]; omega
    have hln := RL_length r
    obtain ⟨i1, i2⟩ := catLit_ok (z := z) m (n + 1) (some fun i j => match nthA new j with | some v => selA (yNlt i n) (f0 i j) v | none => f0 i j) (new.drop z) (us.drop z) (RL_drop z r) (by simp; omega) (fun e => by cases e)
    refine ⟨fun i hi j hj => ?_, fun f1 e i hi j v h => ?_⟩
    · cases i with
      | zero =>
        obtain ⟨a, ha⟩ := nthA_lt (l := new) (k := j) (by omega)
        obtain ⟨v, h1, h2⟩ := nthA_get ha r
        refine ⟨v, by simpa using h1, i2 _ rfl n (by omega) j v ?_⟩
        simp only [ha]
        exact selA_ok _ (by simp only [yNlt, Nat.lt_irrefl, decide_false, cond_false]; exact h2)
      | succ i =>
        obtain ⟨v, h1, h2⟩ := i1 i (by omega) j hj
        rw [List.getElem?_drop] at h1
        refine ⟨v, ?_, ?_⟩
        · rw [← h1]; congr 1; rw [Nat.add_mul]; omega
        · rw [show n + (i + 1) = n + 1 + i by omega]; exact h2
    · simp only [Option.some.injEq] at e; subst e
      refine i2 _ rfl i (by omega) j v ?_
      cases hn : nthA new j with
      | none => exact h
      | some a => exact selA_ok _ (by simp only [yNlt, hi, decide_true, cond_true]; exact h)

theorem src_cells {w : World} {z m c b base : Nat} {tx : TypeId} {g0 : Nat → Nat → AV} (hz : 0 < z) (hk : srcOk (P.underlying tx) = true)
    (hcell : ∀ i, i < m → ∀ j, j < z → ∃ v, (∀ m : World, m.heap = w.heap → m.cell? ⟨b, base + i * z + j, none⟩ = some v) ∧ v.oneCell' = true ∧ (g0 i j).R M v) :
    ∃ us, Src P z tx (.slice (some ⟨b, base, none⟩) m c) m us w ∧ us.length = m * z ∧ ∀ i, i < m → ∀ j, j < z → ∃ v, us[i * z + j]? = some v ∧ (g0 i j).R M v := by
  obtain ⟨us, hul, hus⟩ := list_of (Q := fun k v => (∀ m : World, m.heap = w.heap → m.cell? ⟨b, base + k, none⟩ = some v) ∧ v.oneCell' = true ∧ ∀ i j, i < m → j < z → k = i * z + j → (g0 i j).R M v) (m * z) (fun k hk => by
    have hi : k / z < m := (Nat.div_lt_iff_lt_mul hz).2 hk
    have hj : k % z < z := Nat.mod_lt _ hz
    obtain ⟨v, q1, q2, q3⟩ := hcell (k / z) hi (k % z) hj
    have hkz : k / z * z + k % z = k := by rw [Nat.mul_comm]; exact Nat.div_add_mod k z
    refine ⟨v, fun m hm => ?_, q2, fun i j hi' hj' e => ?_⟩
    · rw [← q1 m hm]; congr 2; omega
    · have : i = k / z := by
        by_cases h : i = k / z
        · exact h
        · exfalso; have := place_ne (i := k / z) (j := 0) (m := z) hj' (by omega) h; omega
      subst this
      have : j = k % z := by omega
      subst this
      exact q3)
  have hone : ∀ v ∈ us, v.oneCell' = true := fun v hv => by
    obtain ⟨k, hk⟩ := List.mem_iff_getElem?.1 hv
    exact (hus k v hk).2.1
  have h5 : ∀ j v, us[j]? = some v → w.cell? ((⟨b, base, none⟩ : Addr).add j) = some v := fun j v hj => by rw [addr_add]; exact (hus j v hj).1 w rfl
  have kind : (∃ e', P.underlying tx = some (.slice e')) ∨ P.underlying tx = some .string := by
    unfold srcOk at hk
    split at hk
    · rename_i e hu; exact .inl ⟨e, hu⟩
    · rename_i hu; exact .inr hu
    · cases hk
  refine ⟨us, ⟨kind, fun _ => rfl, run_firstCells_some w z m _ m _ us hul h5, run_firstCells_some w.drew z m _ m _ us hul (by simpa using h5), hul, hone⟩, hul, fun i hi j hj => ?_⟩
  have hlt : i * z + j < us.length := by rw [hul]; exact place_lt hi hj
  exact ⟨us[i * z + j], by simp, (hus (i * z + j) us[i * z + j] (by simp)).2.2 i j hi hj rfl⟩
theorem srcY_ok {h : AH} {w : World} {z n m : Nat} {f : Option (Nat → Nat → AV)} {g : Nat → Nat → AV} {x : AV} {X : Value} {tx : TypeId} (hz : 0 < z) (hs : (srcY h z n f x).sel = some (m, g)) (rx : x.R M X) (r : Rel M h w) (hk : srcOk (P.underlying tx) = true) (hf : f = none → n = 0) :
    ∃ us, Src P z tx X m us w ∧ us.length = m * z ∧ (∀ i, i < m → ∀ j, j < z → ∃ v, us[i * z + j]? = some v ∧ (g (n + i) j).R M v) ∧ (∀ f0, f = some f0 → ∀ i, i < n → ∀ j v, (f0 i j).R M v → (g i j).R M v) := by
  have lit : ∀ {x : AV} {new : List AV}, srcA h z x = some (m, new) → x.R M X → allCell new = true → g = orNp (catLit z m n f new) → ∃ us, Src P z tx X m us w ∧ us.length = m * z ∧ (∀ i, i < m → ∀ j, j < z → ∃ v, us[i * z + j]? = some v ∧ (g (n + i) j).R M v) ∧ (∀ f0, f = some f0 → ∀ i, i < n → ∀ j v, (f0 i j).R M v → (g i j).R M v) := by
    intro x new hsa rx hc hg
    obtain ⟨us, rn, hul, hlen, hS, _⟩ := srcA_ok (P := P) (tx := tx) hsa rx r hc
    obtain ⟨q1, q2⟩ := catLit_ok (z := z) m n f new us rn hul hf
    subst hg
    exact ⟨us, hS hk, hul, q1, q2⟩
  unfold srcY at hs
  split at hs
  · rename_i ro nil id z' o m'
    split at hs
    · rename_i ro' e' z2 k g0 hg
      cases hc : ((ro == ro') && Nat.beq z z' && Nat.beq z z2) with
      | false => rw [hc] at hs; cases hs
      | true =>
        rw [hc, cond_true] at hs
        simp only [Bool.and_eq_true, beq_iff_eq, nbeq, decide_eq_true_eq] at hc
        obtain ⟨⟨rfl, rfl⟩, rfl⟩ := hc
        obtain ⟨h1, h2⟩ := T.sel_must hs
        have h3 := T.sel_ret h2
        simp only [Prod.mk.injEq] at h3
        obtain ⟨rfl, hgg⟩ := h3
        have hle : o + m' ≤ k := of_decide_eq_true h1
        have hfg : ∀ i, g (n + i) = g0 (o + i) ∨ (∃ f0, f = some f0 ∧ ∀ j, g (n + i) j = selA false (f0 (n + i) j) (g0 (o + i) j)) := fun i => by
          subst hgg
          cases f with
          | none => obtain rfl := hf rfl; left; simp only [catF, yNadd, Nat.zero_add]
          | some f0 =>
            right
            refine ⟨f0, rfl, fun j => ?_⟩
            simp only [catF, yNlt, yNadd, yNsub]
            rw [show decide (n + i < n) = false by simp, show n + i - n = i by omega]
        have hfl : ∀ f0, f = some f0 → ∀ i, i < n → ∀ j v, (f0 i j).R M v → (g i j).R M v := fun f0 e i hi j v hv => by
          subst e; subst hgg
          simp only [catF, yNlt]
          exact selA_ok _ (by simp only [hi, decide_true, cond_true]; exact hv)
        simp only [AV.R] at rx
        rcases rx with ⟨rfl, rfl, rfl⟩ | ⟨rfl, rfl, p, c, rfl, _⟩ | ⟨rfl, b, κ, c, hM, rfl, hnc, _⟩
        · obtain ⟨us, rn, hul, hlen, hS, _⟩ := srcA_ok (P := P) (M := M) (h := h) (z := z) (n := 0) (x := .ns) (new := []) (tx := tx) rfl rfl r rfl
          exact ⟨us, hS hk, by simpa using hul, fun i hi => by omega, hfl⟩
        · obtain ⟨us, rn, hul, hlen, hS, _⟩ := srcA_ok (P := P) (M := M) (h := h) (z := z) (n := 0) (x := .es) (new := []) (tx := tx) rfl (X := .slice (some p) 0 c) ⟨_, _, rfl⟩ r rfl
          exact ⟨us, hS hk, by simpa using hul, fun i hi => by omega, hfl⟩
        · have hcell := arr_cell r hg hM
          obtain ⟨us, hS, hul, hus⟩ := src_cells (P := P) (M := M) (w := w) (m := m') (c := c) (b := b) (base := (if ro then κ else 0) + o * z) (tx := tx) (g0 := fun i j => g0 (o + i) j) hz hk (fun i hi j hj => by
            obtain ⟨v, q1, q2, q3⟩ := hcell (o + i) (by omega) j hj
            exact ⟨v, fun m hm => by rw [← q1 m hm]; congr 2; rw [Nat.add_mul]; omega, q2, q3⟩)
          refine ⟨us, hS, hul, fun i hi j hj => ?_, hfl⟩
          obtain ⟨v, q1, q2⟩ := hus i hi j hj
          refine ⟨v, q1, ?_⟩
          rcases hfg i with e | ⟨f0, _, e⟩
          · rw [e]; exact q2
          · rw [e]; exact selA_ok _ (by simpa using q2)
    · cases hs
  · rename_i xx nil z' m' g0
    simp only [nbeq, Bool.cond_decide] at hs
    split at hs
    case isFalse => cases hs
    rename_i hzz; subst hzz
    have h3 := T.sel_ret hs
    simp only [Prod.mk.injEq] at h3
    obtain ⟨rfl, hgg⟩ := h3
    have hfg : ∀ i, g (n + i) = g0 i ∨ (∃ f0, f = some f0 ∧ ∀ j, g (n + i) j = selA false (f0 (n + i) j) (g0 i j)) := fun i => by
      subst hgg
      cases f with
      | none => obtain rfl := hf rfl; left; simp only [catF, yNadd, Nat.zero_add]
      | some f0 =>
        right
        refine ⟨f0, rfl, fun j => ?_⟩
        simp only [catF, yNlt, yNadd, yNsub]
        rw [show decide (n + i < n) = false by simp, show 0 + (n + i - n) = i by omega]
    have hfl : ∀ f0, f = some f0 → ∀ i, i < n → ∀ j v, (f0 i j).R M v → (g i j).R M v := fun f0 e i hi j v hv => by
      subst e; subst hgg
      simp only [catF, yNlt]
      exact selA_ok _ (by simp only [hi, decide_true, cond_true]; exact hv)
    simp only [AV.R] at rx
    rcases rx with ⟨rfl, rfl, rfl⟩ | ⟨rfl, rfl, p, c, rfl, _⟩ | ⟨rfl, _, b, off, c, cs, rfl, hnc, _, hcs, hc⟩
    · obtain ⟨us, rn, hul, hlen, hS, _⟩ := srcA_ok (P := P) (M := M) (h := h) (z := z) (n := 0) (x := .ns) (new := []) (tx := tx) rfl rfl r rfl
      exact ⟨us, hS hk, by simpa using hul, fun i hi => by omega, hfl⟩
    · obtain ⟨us, rn, hul, hlen, hS, _⟩ := srcA_ok (P := P) (M := M) (h := h) (z := z) (n := 0) (x := .es) (new := []) (tx := tx) rfl (X := .slice (some p) 0 c) ⟨_, _, rfl⟩ r rfl
      exact ⟨us, hS hk, by simpa using hul, fun i hi => by omega, hfl⟩
    · obtain ⟨e, fr, hb⟩ := r.fz b cs hcs
      obtain ⟨us, hS, hul, hus⟩ := src_cells (P := P) (M := M) (w := w) (m := m') (c := c) (b := b) (base := off) (tx := tx) (g0 := g0) hz hk (fun i hi j hj => by
        obtain ⟨v, q1, q2, q3⟩ := hc i hi j hj
        exact ⟨v, fun m hm => by simp [World.cell?, hm, hb, q1], q2, q3⟩)
      refine ⟨us, hS, hul, fun i hi j hj => ?_, hfl⟩
      obtain ⟨v, q1, q2⟩ := hus i hi j hj
      refine ⟨v, q1, ?_⟩
      rcases hfg i with e | ⟨f0, _, e⟩
      · rw [e]; exact q2
      · rw [e]; exact selA_ok _ (by simpa using q2)
  · split at hs
    · rename_i m' new hsa
      cases hc : allCell new with
      | false => rw [hc] at hs; cases hs
      | true =>
        rw [hc, cond_true] at hs
        have h3 := T.sel_ret hs
        simp only [Prod.mk.injEq] at h3
        obtain ⟨rfl, rfl⟩ := h3
        exact lit hsa rx hc rfl
    · cases hs

/-- An array of old elements, new ones and room. -/
theorem arr_obj {κ z len m : Nat} {e : TypeId} {olds us zs : List Value} {g : Nat → Nat → AV} (h1 : olds.length = len * z) (h2 : us.length = m * z) (h3 : (olds ++ us ++ zs).length = κ * z) (h4 : len + m ≤ κ)
    (ho : ∀ i, i < len → ∀ j, j < z → ∃ v, olds[i * z + j]? = some v ∧ v.oneCell' = true ∧ (g i j).R M v) (hn : ∀ i, i < m → ∀ j, j < z → ∃ v, us[i * z + j]? = some v ∧ v.oneCell' = true ∧ (g (len + i) j).R M v) :
    ObR M κ (.arr false e z (len + m) g) (.cells (olds ++ us ++ zs).toArray e (0, 0)) := by
  refine ⟨_, rfl, by simpa using h3, h4, fun i hi j hj => ?_⟩
  rw [List.getElem?_toArray]
  by_cases hlt : i < len
  · obtain ⟨v, q1, q2⟩ := ho i hlt j hj
    have := place_lt hlt hj
    exact ⟨v, by rw [List.append_assoc, List.getElem?_append_left (by omega)]; exact q1, q2⟩
  · obtain ⟨v, q1, q2⟩ := hn (i - len) (by omega) j hj
    rw [show len + (i - len) = i by omega] at q2
    have h5 : i * z = len * z + (i - len) * z := by rw [← Nat.add_mul]; congr 1; omega
    have h6 : (i - len) * z + j < us.length := by rw [h2]; exact place_lt (by omega) hj
    exact ⟨v, by rw [List.append_assoc, List.getElem?_append_right (by omega), List.getElem?_append_left (by omega), ← q1]; congr 1; omega, q2⟩

theorem growY_ok {h h' : AH} {w : World} {t tx ty e : TypeId} {i : TypeInfo} {z : Value} {base : Option Addr} {len cap n : Nat} {olds us : List Value} {g : Nat → Nat → AV} {X : Value} {nl : Bool}
    (hu : P.underlying t = some (.slice e)) (hi : P.info? e = some i) (hz : i.zero = some z) (hzs : z.cells.size = i.size)
    (ho : ∀ p, p < len → ∀ j, j < i.size → ∃ v, olds[p * i.size + j]? = some v ∧ v.oneCell' = true ∧ (g p j).R M v) (hnw : ∀ p, p < n → ∀ j, j < i.size → ∃ v, us[p * i.size + j]? = some v ∧ v.oneCell' = true ∧ (g (len + p) j).R M v)
    (hol : olds.length = len * i.size) (hold : (Builtin.firstCells i.size len (.slice base len cap)).run P w.drew = .ok olds.toArray w.drew) (hs : Src P i.size tx X n us w) (hcap : cap < len + n)
    (hg : growOk (len + n) i.bytes = true) (hb : 0 < i.bytes) (r : Rel M h w) (fr : M h.nx = none) (hn : h.new (.arr false e i.size (len + n) g) = some h') (hnl : nl = false) :
    Got P h h' M w (.ysl false nl h.nx i.size 0 (len + n)) (Builtin.append_ #[t, tx] ty #[.slice base len cap, X]) := by
  have hbd : 4 * (len + n) * i.bytes ≤ 140737488355328 := by simpa [growOk, nble] using hg
  have hbd2 : 4 * (len + n) * 1 ≤ 4 * (len + n) * i.bytes := Nat.mul_le_mul_left _ hb
  have hns := nextslicecap_le hcap
  have hfit : Builtin.nextslicecap (len + n) cap * i.bytes ≤ 281474976710656 := by
    have h1 := Nat.mul_le_mul_right i.bytes hns
    have h2 : 4 * (len + n) * i.bytes = 2 * (2 * (len + n) * i.bytes) := by rw [← Nat.mul_assoc]; congr 1; omega
    omega
  have hrun := run_append_grow_src (P := P) w t tx ty e i z hu hi hz base len cap olds hold X n us hs hcap (by omega) hfit
  have hgc := need_le_grown w (len + n) cap e
  have hnl' := hs.newsLen
  have hcs : ((olds ++ us).toArray ++ Builtin.zeroCells z.cells (grownCap w (len + n) cap e - (len + n))) = (olds ++ us ++ (Builtin.zeroCells z.cells (grownCap w (len + n) cap e - (len + n))).toList).toArray := by apply Array.ext'; simp
  have hob : ObR M (grownCap w (len + n) cap e) (.arr false e i.size (len + n) g) (.cells ((olds ++ us).toArray ++ Builtin.zeroCells z.cells (grownCap w (len + n) cap e - (len + n))) e (0, 0)) := by
    rw [hcs]
    exact arr_obj hol hnl' (grow_len (by rw [List.length_append, hol, hnl', Nat.add_mul]) hzs hgc) hgc ho hnw
  have rd : Rel M h w.drew := r.same rfl
  obtain ⟨q1, q2, q3⟩ := new_ok rd hn fr hob
  refine ⟨_, _, _, hrun, ?_, q1, q2.drew, q3⟩
  simp only [AV.R]
  exact .inr (.inr ⟨hnl, _, _, _, by simp [updM]; exact ⟨rfl, rfl⟩, by simp, hgc, by omega, fun _ => ⟨by simp, by omega⟩⟩)

/-- A block of no elements need not be there. -/
theorem new_vac {h h' : AH} {w : World} {ao : AO} (r : Rel M h w) (hn : h.new ao = some h') (hM : M h.nx = none) (hv : ao.Vac) : Rel M h' w ∧ Fr h h' M M w w ∧ Ab h h' := by
  have hg := AH.get_new hn
  obtain ⟨hnx, hbs, hwl⟩ := AH.new_nx hn
  refine ⟨⟨fun id o e => ?_, fun i j b κ1 κ2 oi h0 hr h2 e1 e2 => ?_, fun x hx => ?_, r.gw, fun i b κ' o e1 hr e2 => ?_, r.fz, fun i b κ' o e1 hr e2 => ?_⟩, ⟨rfl, rfl, rfl, Nat.le_refl _, Le.refl M, fun _ e => absurd rfl e, fun _ _ _ => rfl, fun id b κ' o' e1 e2 => ?_, fun _ _ e => .inl e⟩, new_ab hn⟩
  · rw [hg] at e
    split at e
    · rename_i hid
      simp only [Option.some.injEq] at e; subst e
      exact .inl ⟨hv, by rw [hid]; exact hM⟩
    · exact r.obj id o e
  · rw [hg] at h0 h2
    by_cases hi : i = h.nx
    · rw [hi, hM] at e1; cases e1
    · by_cases hj : j = h.nx
      · rw [hj, hM] at e2; cases e2
      · exact r.inj i j b κ1 κ2 oi (by simpa [hi] using h0) hr (by simpa [hj] using h2) e1 e2
  · rw [hg] at hx
    by_cases hid : x = h.nx
    · omega
    · have := r.wf x (by simpa [hid] using hx); omega
  · by_cases hid : i = h.nx
    · rw [hid, hM] at e2; cases e2
    · rw [hg] at e1; exact r.gf i b κ' o (by simpa [hid] using e1) hr e2
  · by_cases hid : i = h.nx
    · rw [hid, hM] at e2; cases e2
    · rw [hg] at e1; exact r.fo i b κ' o (by simpa [hid] using e1) hr e2
  · by_cases hid : id = h.nx
    · rw [hid, hM] at e2; cases e2
    · rw [hg] at e1; exact .inr ⟨id, κ', o', by simpa [hid] using e1, e2, fun e => e⟩
end
end Go.Proofs.YtiikiphkhfmlcaaGreatDoor.Ex
