/- The abstract machine: what its operations compute by symbols is what the machine's compute (6): all operations. -/
import Derived.Test.YtiikiphkhfmlcaaGreatDoorExW
noncomputable section
namespace Go.Proofs.YtiikiphkhfmlcaaGreatDoor.Ex
open Go

section
variable {P : Program} {M : Mp}

theorem src_one {z m n : Nat} {tx : TypeId} {X : Value} {us : List Value} {w : World} {g : Nat → Nat → AV} (hS : Src P z tx X m us w) (q : ∀ i, i < m → ∀ j, j < z → ∃ v, us[i * z + j]? = some v ∧ (g (n + i) j).R M v) :
    ∀ i, i < m → ∀ j, j < z → ∃ v, us[i * z + j]? = some v ∧ v.oneCell' = true ∧ (g (n + i) j).R M v := fun i hi j hj => by
  obtain ⟨v, h1, h2⟩ := q i hi j hj
  exact ⟨v, h1, hS.one v (List.mem_of_getElem? h1), h2⟩

theorem newArr_sel {h h' : AH} {e : TypeId} {z m : Nat} {nil : Bool} {f : Nat → Nat → AV} {v : AV} (ha : (newArr h e z m nil f).sel = some (v, h')) : h.new (.arr false e z m f) = some h' ∧ v = .ysl false nil h.nx z 0 m := by
  unfold newArr at ha
  split at ha
  · rename_i h2 hn
    have h3 := T.sel_ret ha
    simp only [Prod.mk.injEq] at h3
    obtain ⟨rfl, rfl⟩ := h3
    exact ⟨hn, rfl⟩
  · cases ha
theorem catLit_none {z : Nat} : ∀ {m n : Nat} {f : Option (Nat → Nat → AV)} {new : List AV}, catLit z m n f new = none → m = 0
  | 0, _, _, _, _ => rfl
  | m + 1, n, none, new, h => by have := catLit_none (m := m) h; subst this; cases h
  | m + 1, n, some f, new, h => by have := catLit_none (m := m) h; subst this; cases h

set_option maxHeartbeats 2000000 in
theorem appendY0_ok {h h' : AH} {w : World} {t tx ty : TypeId} {s x v : AV} {S X : Value} (ha : (appendY0 P h t (some tx) s x).sel = some (v, h')) (rs : s.R M S) (rx : x.R M X) (r : Rel M h w) (fr : Fresh M h h') :
    Got P h h' M w v (Builtin.append_ #[t, tx] ty #[S, X]) := by
  unfold appendY0 at ha
  split at ha
  · rename_i e hu
    split at ha
    · rename_i i za hi hza
      obtain ⟨z, hzr, rz, i', hi', hzz⟩ := zeroT_ok (M := M) hza
      rw [hi] at hi'
      simp only [Option.some.injEq] at hi'; subst hi'
      cases hcond : (srcOk ((some tx).bind P.underlying) && Nat.beq (cellsA za).length i.size && Nat.blt 0 i.bytes && Nat.blt 0 i.size) with
      | false => rw [hcond] at ha; cases ha
      | true =>
        rw [hcond, cond_true] at ha
        simp only [Option.bind_some, Bool.and_eq_true, nbeq, nblt, decide_eq_true_eq] at hcond
        obtain ⟨⟨⟨hk, hzl⟩, hby⟩, hsz⟩ := hcond
        have hzs : z.cells.size = i.size := by have := RL_length (cellsA_R rz); simp at this; omega
        -- nothing is there yet
        have start : ∀ {nil nl : Bool} {m : Nat} {f : Nat → Nat → AV} {base : Option Addr}, S = .slice base 0 0 → ((nil = true ∧ base = none) ∨ (nil = false ∧ ∃ a, base = some a)) → nl = (nil && decide (m = 0)) →
            (srcY h i.size 0 none x).sel = some (m, f) → growOk m i.bytes = true → h.new (.arr false e i.size m f) = some h' → v = .ysl false nl h.nx i.size 0 m →
            Got P h h' M w v (Builtin.append_ #[t, tx] ty #[S, X]) := by
          intro nil nl m f base hS hb hnl hsrc hgr hn hv
          obtain ⟨us, hSrc, hul, q1, _⟩ := srcY_ok (tx := tx) hsz hsrc rx r hk (fun _ => rfl)
          subst hS hv
          have hfr : M h.nx = none := fr h.nx (Nat.le_refl _) (by have := (AH.new_nx hn).1; omega)
          by_cases hm : m = 0
          · subst hm
            have : us = [] := List.length_eq_zero_iff.1 (by rw [hul]; simp)
            subst this
            obtain ⟨p1, p2, p3⟩ := new_vac r hn hfr (by simp [AO.Vac])
            refine ⟨M, .slice base 0 0, w, run_append_nothing w t tx ty e i hu hi base 0 0 (Nat.le_refl _) X hSrc, ?_, p1, p2, p3⟩
            simp only [AV.R]
            rcases hb with ⟨rfl, rfl⟩ | ⟨rfl, a, rfl⟩
            · exact .inl ⟨by simpa using hnl, by simp, rfl⟩
            · exact .inr (.inl ⟨by simpa using hnl, by simp, a, 0, rfl, fun _ => rfl⟩)
          · have hold : (Builtin.firstCells i.size 0 (.slice base 0 0)).run P w.drew = .ok ([] : List Value).toArray w.drew := by
              cases base with
              | none => exact run_firstCells_none w.drew i.size 0 0 0
              | some a => exact run_firstCells_some w.drew i.size 0 a 0 0 [] (by simp) (by simp)
            have g := growY_ok (P := P) (w := w) (ty := ty) (base := base) (len := 0) (cap := 0) (n := m) (olds := []) (us := us) (g := f) (nl := nl) hu hi hzz hzs (fun p hp => by omega) (src_one hSrc q1) (by simp) hold hSrc (by omega) (by simpa using hgr) hby r hfr (by simpa using hn) (by rw [hnl]; simp [hm])
            simpa using g
        -- a row without room behind it
        have full : ∀ {p : Option Addr} {n m : Nat} {fo : Option (Nat → Nat → AV)} {g : Nat → Nat → AV} {us0 : List Value} {sv : AV}, S = .slice p n n → Src P i.size t S n us0 w →
            (∀ q, q < n → ∀ j, j < i.size → ∃ v, us0[q * i.size + j]? = some v ∧ (orNp fo q j).R M v) → (srcY h i.size n fo x).sel = some (m, g) → (fo = none → n = 0) → sv.R M S →
            ((m = 0 ∧ v = sv ∧ h' = h) ∨ (m ≠ 0 ∧ growOk (n + m) i.bytes = true ∧ h.new (.arr false e i.size (n + m) g) = some h' ∧ v = .ysl false false h.nx i.size 0 (n + m))) →
            Got P h h' M w v (Builtin.append_ #[t, tx] ty #[S, X]) := by
          intro p n m fo g us0 sv hS h0 q0 hsrc hfo rsv hcase
          obtain ⟨us, hSrc, hul, q1, q2⟩ := srcY_ok (tx := tx) hsz hsrc rx r hk hfo
          rcases hcase with ⟨rfl, rfl, rfl⟩ | ⟨hm, hgr, hn, rfl⟩
          · have : us = [] := List.length_eq_zero_iff.1 (by rw [hul]; simp)
            subst this
            subst hS
            exact Got.pure r (run_append_nothing w t tx ty e i hu hi p n n (Nat.le_refl _) X hSrc) rsv
          · have hfr : M h.nx = none := fr h.nx (Nat.le_refl _) (by have := (AH.new_nx hn).1; omega)
            subst hS
            refine growY_ok (P := P) (w := w) (ty := ty) (base := p) (len := n) (cap := n) (n := m) (olds := us0) (us := us) (g := g) (nl := false) hu hi hzz hzs (fun q hq j hj => ?_) (src_one hSrc q1) h0.newsLen h0.cellsD hSrc (by omega) hgr hby r hfr hn rfl
            obtain ⟨u, k1, k2⟩ := q0 q hq j hj
            refine ⟨u, k1, h0.one u (List.mem_of_getElem? k1), ?_⟩
            cases fo with
            | none => have := hfo rfl; omega
            | some f0 => exact q2 f0 rfl q hq j u k2
        have hkt : srcOk (P.underlying t) = true := by rw [hu]; rfl
        split at ha
        · -- nil
          obtain ⟨⟨m, f⟩, hsrc, ha⟩ := T.sel_bind_some ha
          obtain ⟨hgr, ha⟩ := T.sel_must ha
          obtain ⟨hn, hv⟩ := newArr_sel ha
          exact start (nil := true) (base := none) (by simpa only [AV.R] using rs) (.inl ⟨rfl, rfl⟩) (by simp [yNeq]) hsrc hgr hn hv
        · -- empty, without room
          rename_i nil
          obtain ⟨⟨m, f⟩, hsrc, ha⟩ := T.sel_bind_some ha
          obtain ⟨hgr, ha⟩ := T.sel_must ha
          obtain ⟨hn, hv⟩ := newArr_sel ha
          simp only [AV.R] at rs
          rcases rs with ⟨rfl, hS⟩ | ⟨rfl, a, hS⟩
          · exact start (nil := true) (base := none) hS (.inl ⟨rfl, rfl⟩) (by simp [yNeq, yAnd]) hsrc hgr hn hv
          · exact start (nil := false) (base := some a) hS (.inr ⟨rfl, a, rfl⟩) (by simp [yAnd]) hsrc hgr hn hv
        · -- a list without room
          rename_i nil z' n f
          simp only [nbeq, Bool.cond_decide] at ha
          split at ha
          case isFalse => cases ha
          rename_i hz1; subst hz1
          obtain ⟨⟨m, g⟩, hsrc, ha⟩ := T.sel_bind_some ha
          obtain ⟨p, c, hS, hnc, hxc⟩ : ∃ p c, S = .slice p n c ∧ n ≤ c ∧ c = n := by
            have rs2 := rs
            simp only [AV.R] at rs2
            rcases rs2 with ⟨_, rfl, rfl⟩ | ⟨_, rfl, a, c, rfl, hx⟩ | ⟨_, _, bb, off, c, cs, rfl, h1, h2, _⟩
            · exact ⟨_, _, rfl, Nat.le_refl _, rfl⟩
            · exact ⟨_, _, rfl, Nat.zero_le _, hx trivial⟩
            · exact ⟨_, _, rfl, h1, h2 trivial⟩
          subst hxc
          obtain ⟨us0, h0, hul0, p1, _⟩ := srcY_ok (P := P) (M := M) (h := h) (w := w) (z := i.size) (n := 0) (m := c) (f := none) (g := catF 0 none 0 f) (x := .lst true nil i.size c f) (X := S) (tx := t) hsz (by simp [srcY, T.sel]) rs r hkt (fun _ => rfl)
          refine full (fo := some f) (sv := .lst true nil i.size c f) hS h0 (fun q hq j hj => by
            obtain ⟨u, k1, k2⟩ := p1 q hq j hj
            exact ⟨u, k1, by simpa [catF, yNadd, orNp] using k2⟩) hsrc (fun e => by cases e) rs ?_
          rcases T.sel_br ha with ⟨hm, ha⟩ | ⟨hm, ha⟩
          · have h3 := T.sel_ret ha
            simp only [Prod.mk.injEq] at h3
            exact .inl ⟨by simpa [yNeq] using hm, h3.1.symm, h3.2.symm⟩
          · obtain ⟨hgr, ha⟩ := T.sel_must ha
            obtain ⟨hn, hv⟩ := newArr_sel ha
            exact .inr ⟨by simpa [yNeq] using hm, hgr, hn, hv⟩
        · -- elements that are written out, without room
          rename_i id off len cap
          split at ha
          case h_2 => cases ha
          rename_i cc et gg hg
          split at ha
          case h_2 => cases ha
          rename_i old hold
          cases hc : (Nat.beq len cap && allCell old) with
          | false => rw [hc] at ha; cases ha
          | true =>
            rw [hc, cond_true] at ha
            simp only [Bool.and_eq_true, nbeq, decide_eq_true_eq] at hc
            obtain ⟨rfl, hac⟩ := hc
            obtain ⟨⟨m, g⟩, hsrc, ha⟩ := T.sel_bind_some ha
            have rs2 := rs
            simp only [AV.R] at rs2
            obtain ⟨b, κ, hM, hS⟩ := rs2
            simp only [Bool.false_eq_true, if_false] at hS
            obtain ⟨us0, h0, hul0, p1, _⟩ := srcY_ok (P := P) (M := M) (h := h) (w := w) (z := i.size) (n := 0) (m := len) (f := none) (g := orNp (catLit i.size len 0 none old)) (x := .sl id off len len false) (X := S) (tx := t) hsz (by simp [srcY, srcA, hg, hold, hac, T.sel]) rs r hkt (fun _ => rfl)
            refine full (fo := catLit i.size len 0 none old) (sv := .sl id off len len false) hS h0 (fun q hq j hj => by
              obtain ⟨u, k1, k2⟩ := p1 q hq j hj
              exact ⟨u, k1, by simpa using k2⟩) hsrc catLit_none rs ?_
            rcases T.sel_br ha with ⟨hm, ha⟩ | ⟨hm, ha⟩
            · have h3 := T.sel_ret ha
              simp only [Prod.mk.injEq] at h3
              exact .inl ⟨by simpa [yNeq] using hm, h3.1.symm, h3.2.symm⟩
            · obtain ⟨hgr, ha⟩ := T.sel_must ha
              obtain ⟨hn, hv⟩ := newArr_sel ha
              exact .inr ⟨by simpa [yNeq] using hm, hgr, hn, hv⟩
        · -- elements
          rename_i nil id z' n
          split at ha
          · rename_i e' z2 n' f hg
            cases hc : (Nat.beq z' i.size && Nat.beq z' z2 && Nat.beq e e') with
            | false => rw [hc] at ha; cases ha
            | true =>
              rw [hc, cond_true] at ha
              simp only [Bool.and_eq_true, nbeq, decide_eq_true_eq] at hc
              obtain ⟨⟨hz1, hz2⟩, rfl⟩ := hc
              subst hz2
              subst hz1
              obtain ⟨⟨m, g⟩, hsrc, ha⟩ := T.sel_bind_some ha
              obtain ⟨hnn, ha1⟩ := T.sel_must ha
              obtain ⟨hgr, ha2⟩ := T.sel_must ha1
              have hnn : n = n' := of_decide_eq_true hnn
              clear ha ha1
              subst hnn
              have ha := ha2
              clear ha2
              obtain ⟨us, hSrc, hul, q1, q2⟩ := srcY_ok (tx := tx) hsz hsrc rx r hk (fun e => by cases e)
              split at ha
              · rename_i h1 hd
                have hna := newArr_sel ha
                clear ha
                · obtain ⟨hn, hv⟩ := hna
                  obtain rfl := hv.symm
                  obtain ⟨rd1, rd2, rd3⟩ := del_ok r hd
                  have hnx1 := (AH.put_nx hd).1
                  have hnx2 := (AH.new_nx hn).1
                  have hfr : M h1.nx = none := fr h1.nx (by omega) (by omega)
                  -- where there is nothing
                  have empty : ∀ {base : Option Addr}, n = 0 → S = .slice base 0 0 → ((nil = true ∧ base = none) ∨ (nil = false ∧ ∃ a, base = some a)) → Got P h h' M w (.ysl false (yAnd nil (yNeq m 0)) h1.nx i.size 0 (yNadd n m)) (Builtin.append_ #[t, tx] ty #[S, X]) := by
                    intro base hn0 hS hb
                    subst hn0 hS
                    by_cases hm : m = 0
                    · subst hm
                      have : us = [] := List.length_eq_zero_iff.1 (by rw [hul]; simp)
                      subst this
                      obtain ⟨p1, p2, p3⟩ := new_vac rd1 hn hfr (by simp [AO.Vac, yNadd])
                      refine ⟨M, .slice base 0 0, w, run_append_nothing w t tx ty e i hu hi base 0 0 (Nat.le_refl _) X hSrc, ?_, p1, rd2.trans rd3.nx p3.nx p2, rd3.trans p3⟩
                      simp only [AV.R]
                      rcases hb with ⟨rfl, rfl⟩ | ⟨rfl, a, rfl⟩
                      · exact .inl ⟨by simp [yAnd, yNeq], rfl, rfl⟩
                      · exact .inr (.inl ⟨by simp [yAnd], rfl, a, 0, rfl, fun _ => rfl⟩)
                    · have hold : (Builtin.firstCells i.size 0 (.slice base 0 0)).run P w.drew = .ok ([] : List Value).toArray w.drew := by
                        cases base with
                        | none => exact run_firstCells_none w.drew i.size 0 0 0
                        | some a => exact run_firstCells_some w.drew i.size 0 a 0 0 [] (by simp) (by simp)
                      refine Got.after rd2 rd3 ?_
                      exact growY_ok (P := P) (w := w) (ty := ty) (base := base) (len := 0) (cap := 0) (n := m) (olds := []) (us := us) (g := g) (nl := yAnd nil (yNeq m 0)) hu hi hzz hzs (fun p hp => by omega) (src_one hSrc q1) (by simp) hold hSrc (by omega) (by simpa [yGrow, yNadd] using hgr) hby rd1 hfr (by simpa [yNadd] using hn) (by simp [yAnd, yNeq, hm])
                  simp only [AV.R] at rs
                  rcases rs with ⟨rfl, hn0, rfl⟩ | ⟨rfl, hn0, p, c, rfl, hc0⟩ | ⟨rfl, b, κ, c, hM, rfl, hnc, hn0, hcc⟩
                  · exact empty hn0 rfl (.inl ⟨rfl, rfl⟩)
                  · obtain rfl : c = 0 := hc0 trivial
                    exact empty hn0 rfl (.inr ⟨rfl, p, rfl⟩)
                  · obtain ⟨hcκ, hle⟩ := hcc trivial
                    have hcκ : κ = c := by simpa using hcκ.symm
                    subst hcκ
                    simp only [Nat.zero_add, Nat.zero_mul, Bool.false_eq_true, if_false] at hle ⊢
                    obtain ⟨ob, hb, cs, rfl, hcs, hnκ, q⟩ := Ob_of r hg hM
                    have hcell := arr_cell r hg hM
                    have ho : ∀ p, p < n → ∀ j, j < i.size → ∃ v, cs[p * i.size + j]? = some v ∧ v.oneCell' = true ∧ (g p j).R M v := fun p hp j hj => by
                      obtain ⟨v, k1, k2, k3⟩ := q p hp j hj
                      exact ⟨v, k1, k2, q2 f rfl p hp j v k3⟩
                    by_cases hin : n + m ≤ κ
                    · -- in its own place
                      have hfit : n * i.size + us.length ≤ cs.size := by
                        have := Nat.mul_le_mul_right i.size hin
                        rw [Nat.add_mul] at this
                        rw [hcs, hul]; exact this
                      have hst := run_storeCells_at P b (n * i.size) e us 0 cs w hb (by simpa using hfit) hSrc.one
                      simp only [Nat.add_zero] at hst
                      obtain ⟨row, hrow⟩ : ∃ row, row = (cs.toList.take (n * i.size) ++ us ++ cs.toList.drop (n * i.size + us.length)).toArray := ⟨_, rfl⟩
                      rw [← hrow] at hst
                      have hob : ObR M κ (.arr false e i.size (yNadd n m) g) (.cells row e (0, 0)) := by
                        refine ⟨row, rfl, by rw [hrow]; simp; rw [← hcs]; omega, hin, fun p hp j hj => ?_⟩
                        have hp : p < n + m := hp
                        have hg2 : row[p * i.size + j]? = if n * i.size ≤ p * i.size + j ∧ p * i.size + j < n * i.size + us.length then us[p * i.size + j - n * i.size]? else cs[p * i.size + j]? := by
                          rw [hrow, List.getElem?_toArray, row_get (by simpa using hfit)]; split <;> simp
                        by_cases hpn : p < n
                        · have := place_lt hpn hj
                          rw [hg2, if_neg (by omega)]
                          exact ho p hpn j hj
                        · obtain ⟨v, k1, k2, k3⟩ := src_one hSrc q1 (p - n) (by omega) j hj
                          have h5 : p * i.size = n * i.size + (p - n) * i.size := by rw [← Nat.add_mul]; congr 1; omega
                          have h6 : (p - n) * i.size + j < us.length := by rw [hul]; exact place_lt (by omega) hj
                          rw [hg2, if_pos (by omega)]
                          refine ⟨v, by rw [← k1]; congr 1; omega, k2, ?_⟩
                          rwa [show n + (p - n) = p by omega] at k3
                      obtain ⟨p1, p2, p3⟩ := re_ok (κ := κ) (w' := w.setRow b row) r hg hM hd hn (by rw [← hnx1]; exact hfr) (upd_setRow hb) hob
                      refine ⟨_, .slice (some ⟨b, 0, none⟩) (n + m) κ, _, ?_, ?_, p1, p2, p3⟩
                      · rcases hSrc.kind with ⟨e2, hk2⟩ | hk2 <;> simp [Builtin.append_, run_underlying hu, run_underlying hk2, sizeOf, typeInfo, hi, hSrc.len, hin, hSrc.cells, addr_add, hst]
                      · simp only [AV.R]
                        exact .inr (.inr ⟨by simp [yAnd], b, κ, κ, by simp [updM, hnx1], by simp [yNadd], by simpa [yNadd] using hin, by simp [yNadd]; omega, fun _ => ⟨by simp, by simpa [yNadd] using hin⟩⟩)
                    · -- in a new one
                      refine Got.after rd2 rd3 ?_
                      have hcl : n * i.size ≤ cs.size := by rw [hcs]; exact Nat.mul_le_mul_right _ hnκ
                      have hold : (Builtin.firstCells i.size n (.slice (some ⟨b, 0, none⟩) n κ)).run P w.drew = .ok (cs.toList.take (n * i.size)).toArray w.drew := by
                        refine run_firstCells_some w.drew i.size n ⟨b, 0, none⟩ n κ _ (by simp; omega) (fun j v hj => ?_)
                        rw [List.getElem?_take] at hj
                        split at hj
                        · rw [addr_add]
                          show w.cell? _ = _
                          simp only [Array.getElem?_toList] at hj
                          simp [World.cell?, hb, hj]
                        · cases hj
                      have := growY_ok (P := P) (w := w) (ty := ty) (base := some ⟨b, 0, none⟩) (len := n) (cap := κ) (n := m) (olds := cs.toList.take (n * i.size)) (us := us) (g := g) (nl := yAnd false (yNeq m 0)) hu hi hzz hzs (fun p hp j hj => by
                        obtain ⟨v, k1, k2⟩ := ho p hp j hj
                        exact ⟨v, by rw [List.getElem?_take, if_pos (place_lt hp hj), Array.getElem?_toList]; exact k1, k2⟩) (src_one hSrc q1) (by simp; omega) hold hSrc (by omega) (by simpa [yGrow, yNadd] using hgr) hby rd1 hfr (by simpa [yNadd] using hn) (by simp [yAnd])
                      simpa [yNadd] using this
              · cases ha
          · cases ha
        · -- a row of no elements, with room behind it
          rename_i id
          split at ha
          case h_2 => cases ha
          rename_i e' z' hg
          cases hc : (Nat.beq z' i.size && Nat.beq e e') with
          | false => rw [hc] at ha; cases ha
          | true =>
            rw [hc, cond_true] at ha
            simp only [Bool.and_eq_true, nbeq, decide_eq_true_eq] at hc
            obtain ⟨hz1, rfl⟩ := hc
            subst hz1
            obtain ⟨⟨m, g⟩, hsrc, ha⟩ := T.sel_bind_some ha
            obtain ⟨us, hSrc, hul, q1, _⟩ := srcY_ok (tx := tx) hsz hsrc rx r hk (fun _ => rfl)
            have rs2 := rs
            simp only [AV.R] at rs2
            obtain ⟨b, κ, hM, hS⟩ := rs2
            simp only [if_true, Nat.sub_zero] at hS
            rcases T.sel_br ha with ⟨hm, ha⟩ | ⟨hm, ha⟩
            · have h3 := T.sel_ret ha
              simp only [Prod.mk.injEq] at h3
              obtain ⟨rfl, rfl⟩ := h3
              have hm0 : m = 0 := by simpa [yNeq] using hm
              have : us = [] := List.length_eq_zero_iff.1 (by rw [hul, hm0]; simp)
              subst this
              subst hm0
              have hS2 := hS
              subst hS2
              exact Got.pure r (run_append_nothing w t tx ty e i hu hi _ 0 κ (Nat.zero_le _) X hSrc) rs
            · obtain ⟨hgr, ha⟩ := T.sel_must ha
              split at ha
              case h_2 => cases ha
              rename_i h1 hd
              obtain ⟨hn, hv⟩ := newArr_sel ha
              subst hv hS
              have hm0 : m ≠ 0 := by simpa [yNeq] using hm
              obtain ⟨rd1, rd2, rd3⟩ := del_ok r hd
              have hnx1 := (AH.put_nx hd).1
              have hnx2 := (AH.new_nx hn).1
              have hfr : M h1.nx = none := fr h1.nx (by omega) (by omega)
              obtain ⟨ob, hb, vs, rest, rl, rfl, hκ⟩ := Ob_of r hg hM
              simp only [AV.RL] at rl
              subst rl
              simp only [List.nil_append] at hb hκ
              by_cases hin : m ≤ κ
              · have hfit : us.length ≤ rest.length := by
                  have := Nat.mul_le_mul_right i.size hin
                  rw [hul]; omega
                have hst := run_storeCells_at P b 0 e us 0 rest.toArray w hb (by simpa using hfit) hSrc.one
                simp only [Nat.zero_add, List.take_zero, List.nil_append] at hst
                obtain ⟨row, hrow⟩ : ∃ row, row = (us ++ rest.drop us.length).toArray := ⟨_, rfl⟩
                rw [← hrow] at hst
                have hob : ObR M κ (.arr false e i.size m g) (.cells row e (0, 0)) := by
                  refine ⟨row, rfl, by rw [hrow]; simp; omega, hin, fun p hp j hj => ?_⟩
                  obtain ⟨v, k1, k2, k3⟩ := src_one hSrc q1 p hp j hj
                  have h6 : p * i.size + j < us.length := by rw [hul]; exact place_lt hp hj
                  refine ⟨v, ?_, k2, by simpa using k3⟩
                  rw [hrow, List.getElem?_toArray, List.getElem?_append_left h6]; exact k1
                obtain ⟨p1, p2, p3⟩ := re_ok (κ := κ) (w' := w.setRow b row) r hg hM hd hn (by rw [← hnx1]; exact hfr) (upd_setRow hb) hob
                refine ⟨_, .slice (some ⟨b, 0, none⟩) m κ, _, ?_, ?_, p1, p2, p3⟩
                · rcases hSrc.kind with ⟨e2, hk2⟩ | hk2 <;> simp [Builtin.append_, run_underlying hu, run_underlying hk2, sizeOf, typeInfo, hi, hSrc.len, hin, hSrc.cells, addr_add, hst]
                · simp only [AV.R]
                  exact .inr (.inr ⟨trivial, b, κ, κ, by simp [updM, hnx1], by simp, hin, by omega, fun _ => ⟨by simp, by simpa using hin⟩⟩)
              · refine Got.after rd2 rd3 ?_
                have hold : (Builtin.firstCells i.size 0 (.slice (some ⟨b, 0, none⟩) 0 κ)).run P w.drew = .ok ([] : List Value).toArray w.drew := run_firstCells_some w.drew i.size 0 ⟨b, 0, none⟩ 0 κ [] (by simp) (by simp)
                have := growY_ok (P := P) (w := w) (ty := ty) (base := some ⟨b, 0, none⟩) (len := 0) (cap := κ) (n := m) (olds := []) (us := us) (g := g) (nl := false) hu hi hzz hzs (fun p hp => by omega) (src_one hSrc q1) (by simp) hold hSrc (by omega) (by simpa [yGrow] using hgr) hby rd1 hfr (by simpa using hn) rfl
                simpa using this
        · cases ha
    · cases ha
  · cases ha

theorem makeSliceY_ok {h h' : AH} {w : World} {t : TypeId} {l c v : AV} {L C : Value} (hb : (makeSliceY P h t l c).sel = some (v, h')) (rl : l.R M L) (rc : c.R M C) (r : Rel M h w) (fr : Fresh M h h') :
    Got P h h' M w v (Instr.makeSlice t L C) := by
  unfold makeSliceY at hb
  split at hb
  · rename_i k l k' c
    simp only [AV.R] at rl rc; subst rl rc
    split at hb
    · rename_i e hu
      split at hb
      · rename_i i za hi hza
        obtain ⟨z, hzr, rz, i', hi', hzz⟩ := zeroT_ok (M := M) hza
        rw [hi] at hi'
        simp only [Option.some.injEq] at hi'; subst hi'
        cases hcond : (Nat.beq (cellsA za).length i.size && Nat.blt 0 i.bytes && Nat.blt 0 i.size && allCell (cellsA za)) with
        | false => rw [hcond] at hb; cases hb
        | true =>
          rw [hcond, cond_true] at hb
          simp only [Bool.and_eq_true, nbeq, nblt, decide_eq_true_eq] at hcond
          obtain ⟨⟨⟨hzl, hby⟩, hsz⟩, hall⟩ := hcond
          obtain ⟨h1, hb1⟩ := T.sel_must hb
          obtain ⟨h2, hb2⟩ := T.sel_must hb1
          obtain ⟨h3, hb3⟩ := T.sel_must hb2
          have h1 : 0 ≤ l := of_decide_eq_true h1
          have h2 : l = c := of_decide_eq_true h2
          clear hb hb1 hb2
          subst h2
          have hb := hb3
          clear hb3
          obtain ⟨n, rfl⟩ : ∃ n : Nat, l = n := ⟨l.toNat, by omega⟩
          have hnn : yNat (n : Int) = n := by simp [yNat]
          rw [hnn] at h3 hb
          have hgr : 4 * n * i.bytes ≤ 140737488355328 := by simpa [yGrow, growOk, nble] using h3
          have hgr2 : n * 1 ≤ n * i.bytes := Nat.mul_le_mul_left _ hby
          have hgr3 : n * i.bytes ≤ 140737488355328 := by rw [Nat.mul_assoc] at hgr; omega
          split at hb
          · rename_i h4 hn
            have h5 := T.sel_ret hb
            simp only [Prod.mk.injEq] at h5
            obtain ⟨rfl, rfl⟩ := h5
            have hfr : M h.nx = none := fr h.nx (Nat.le_refl _) (by have := (AH.new_nx hn).1; omega)
            have rlz := cellsA_R rz
            have hlen := RL_length rlz
            have hm : n * i.size = n * z.cells.size := by simp at hlen; rw [hlen, hzl]
            have hrz := rep_zero hm
            have hone := allCell_one rlz hall
            have hob : ObR M n (.arr false e i.size n (fun _ j => match nthA (cellsA za) j with | some v => v | none => .np)) (.cells (repV n z.cells.toList).toArray e (0, 0)) := by
              refine ⟨_, rfl, by simp [repV_len]; simp at hlen; rw [hlen, hzl], Nat.le_refl _, fun p hp j hj => ?_⟩
              have hzc : z.cells.toList.length = i.size := by rw [hlen, hzl]
              have hpl := place_lt hp hj
              have hmod : (p * i.size + j) % z.cells.toList.length = j := by
                rw [hzc, Nat.mul_comm, Nat.mul_add_mod, Nat.mod_eq_of_lt hj]
              obtain ⟨a, ha⟩ := nthA_lt (l := cellsA za) (k := j) (by omega)
              obtain ⟨v, q1, q2⟩ := nthA_get ha rlz
              refine ⟨v, ?_, hone v (List.mem_of_getElem? q1), by simp only [ha]; exact q2⟩
              rw [List.getElem?_toArray, repV_get z.cells.toList undef n _ (by rw [hzc]; exact hpl), hmod]
              rw [List.getD_eq_getElem?_getD, q1]; rfl
            obtain ⟨p1, p2, p3⟩ := new_ok r hn hfr hob
            refine ⟨_, .slice (some ⟨w.heap.size, 0, none⟩) n n, _, ?_, ?_, p1, p2, p3⟩
            · have hwl : IntKind.i64.wrap (n : Int) = n := wrap_id _ _ (by simp only [negLim]; omega) (by simp only [posLim]; omega)
              have hno : ¬ (281474976710656 < (i.bytes : Int) * (n : Int)) := by
                have : ((n * i.bytes : Nat) : Int) ≤ ((140737488355328 : Nat) : Int) := Int.ofNat_le.2 hgr3
                rw [Int.natCast_mul, Int.mul_comm] at this; omega
              have hsi := run_typeInfo' hi
              have hnn' : ¬ ((n : Int) < 0) := by omega
              by_cases h0 : n = 0 ∨ i.size = 0
              · have hn0 : n = 0 := by omega
                subst hn0
                have e0 : ∀ d : Value, Array.map (fun _ : Nat => d) (Array.range 0) = #[] := fun _ => Array.eq_empty_of_size_eq_zero (by simp)
                have hw0 : IntKind.i64.wrap 0 = 0 := by simpa using hwl
                simp [Instr.makeSlice, run_underlying hu, asInt, asIntOf, hsi, hw0, sizeOf, e0, newRow, repV]
              · simp [Instr.makeSlice, run_underlying hu, asInt, asIntOf, hsi, hwl, hno, hnn', sizeOf, hzr, hrz, newRow]
                try (intro hh; exfalso; rcases Nat.mul_eq_zero.1 hh with hh | hh <;> omega)
            · simp only [AV.R]
              by_cases hn0 : n = 0
              · subst hn0; exact .inr (.inl ⟨trivial, rfl, _, 0, rfl, fun _ => rfl⟩)
              · exact .inr (.inr ⟨trivial, _, _, n, by simp [updM]; exact ⟨rfl, rfl⟩, by simp, Nat.le_refl _, by omega, fun _ => ⟨by simp, by omega⟩⟩)
          · cases hb
      · cases hb
    · cases hb
  · cases hb
theorem yStr_rel {n : Nat} {g : Nat → Nat → AV} {us : List Value} (hul : us.length = n) (h : ∀ i, i < n → ∃ v, us[i]? = some v ∧ (g i 0).R M v) (h8 : yU8 n g = true) :
    ∃ ns : List Int, us = ns.map (Value.int .u8) ∧ yStr n g = ns.map fun n => UInt8.ofNat n.toNat := by
  have k8 : ∀ i, i < n → ∃ m, yI (g i 0) = some (.u8, m) := fun i hi => by
    have := List.all_eq_true.1 h8 i (List.mem_range.2 hi)
    unfold u8A at this
    split at this
    · rename_i k m e
      obtain rfl := eqK_eq this
      exact ⟨m, e⟩
    · cases this
  refine ⟨(List.range n).map fun i => (match yI (g i 0) with | some (_, m) => m | none => 0), ?_, ?_⟩
  · apply List.ext_getElem?
    intro i
    by_cases hi : i < n
    · obtain ⟨m, e⟩ := k8 i hi
      obtain ⟨v, h1, h2⟩ := h i hi
      rw [h1]
      simp only [List.map_map, List.getElem?_map, List.getElem?_range hi, Option.map_some, Function.comp_apply, e, Option.some.injEq]
      exact yI_ok e h2
    · rw [List.getElem?_eq_none (by omega), List.getElem?_eq_none (by simp; omega)]
  · unfold yStr
    rw [List.map_map]
    apply List.map_congr_left
    intro i hi
    obtain ⟨m, e⟩ := k8 i (List.mem_range.1 hi)
    simp only [byteA, Function.comp_apply, e]
end
section
variable {P : Program} {M : Mp}
theorem rowOf_ok {h h1 : AH} {w : World} {z : Nat} {e : TypeId} {s s' : AV} {S : Value} (hr : rowOf h z e s = some (s', h1)) (rs : s.R M S) (r : Rel M h w) :
    Rel M h1 w ∧ Fr h h1 M M w w ∧ Ab h h1 ∧ s'.R M S ∧ h1.nx = h.nx := by
  unfold rowOf at hr
  split at hr
  · rename_i id len
    split at hr
    · rename_i c e' z' hg
      cases hc : (Nat.beq z' z && Nat.beq e e' && Nat.beq c.length (Nat.succ len * z) && allCell c && Nat.blt 0 z) with
      | false => rw [hc] at hr; cases hr
      | true =>
        rw [hc, cond_true] at hr
        simp only [Bool.and_eq_true, nbeq, nblt, decide_eq_true_eq] at hc
        obtain ⟨⟨⟨⟨rfl, rfl⟩, hcl⟩, hac⟩, hz⟩ := hc
        split at hr
        · rename_i h2 hp
          simp only [Option.some.injEq, Prod.mk.injEq] at hr
          obtain ⟨rfl, rfl⟩ := hr
          simp only [AV.R] at rs
          obtain ⟨b, κ, hM, rfl⟩ := rs
          obtain ⟨ob, hb, vs, rest, rv, rfl, hlen⟩ := Ob_of r hg hM
          have hvl := RL_length rv
          have hul : vs.length = Nat.succ len * z' := by omega
          obtain ⟨q1, _⟩ := catLit_ok (z := z') (Nat.succ len) 0 none c vs rv hul (fun _ => rfl)
          have hle : Nat.succ len ≤ κ := by
            have h3 : Nat.succ len * z' ≤ κ * z' := by rw [← hul, ← hlen]; simp
            exact Nat.le_of_mul_le_mul_right h3 hz
          have ho : ObR M κ (.arr false e z' (Nat.succ len) (orNp (catLit z' (Nat.succ len) 0 none c))) (.cells (vs ++ rest).toArray e (0, 0)) := by
            refine ⟨_, rfl, by simpa using hlen, hle, fun i hi j hj => ?_⟩
            obtain ⟨v, k1, k2⟩ := q1 i hi j hj
            have hlt : i * z' + j < vs.length := (List.getElem?_eq_some_iff.1 k1).1
            refine ⟨v, ?_, ?_, by simpa using k2⟩
            · rw [List.getElem?_toArray, List.getElem?_append_left hlt]; exact k1
            · exact allCell_one rv hac v (List.mem_of_getElem? k1)
          obtain ⟨p1, p2, p3⟩ := put_ok r hg hp hM ⟨rfl, rfl, rfl, rfl, fun _ _ => rfl, hb⟩ ho
          refine ⟨p1, p2, p3, ?_, (AH.put_nx hp).1⟩
          simp only [AV.R]
          exact .inr (.inr ⟨trivial, b, κ, κ, hM, by simp, hle, Nat.succ_pos _, fun _ => ⟨by simp, by omega⟩⟩)
        · cases hr
    · cases hr
  · cases hr
theorem appendY_ok {h h' : AH} {w : World} {t tx ty : TypeId} {s x v : AV} {S X : Value} (ha : (appendY P h t (some tx) s x).sel = some (v, h')) (rs : s.R M S) (rx : x.R M X) (r : Rel M h w) (fr : Fresh M h h') :
    Got P h h' M w v (Builtin.append_ #[t, tx] ty #[S, X]) := by
  unfold appendY at ha
  split at ha
  · split at ha
    · split at ha
      · rename_i p hp
        obtain ⟨s', h1⟩ := p
        obtain ⟨q1, q2, q3, q4, q5⟩ := rowOf_ok hp rs r
        exact Got.after q2 q3 (appendY0_ok ha q4 rx q1 (fun id h2 h3 => fr id (by omega) h3))
      · exact appendY0_ok ha rs rx r fr
    · cases ha
  · cases ha
theorem appendY0_none {h h' : AH} {t : TypeId} {s x v : AV} (hl : (appendY0 P h t none s x).sel = some (v, h')) : False := by
  unfold appendY0 at hl
  split at hl
  · split at hl
    · simp only [srcOk, Option.bind_none, Bool.false_and, cond_false] at hl; cases hl
    · cases hl
  · cases hl
theorem appendY_none {h h' : AH} {t : TypeId} {s x v : AV} (hl : (appendY P h t none s x).sel = some (v, h')) : False := by
  unfold appendY at hl
  split at hl
  · split at hl
    · split at hl
      · exact appendY0_none hl
      · exact appendY0_none hl
    · cases hl
  · cases hl
end
end Go.Proofs.YtiikiphkhfmlcaaGreatDoor.Ex
