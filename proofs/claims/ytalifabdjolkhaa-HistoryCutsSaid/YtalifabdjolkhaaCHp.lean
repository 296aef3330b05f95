/- Histories that may be: the states of 'gone' along the way (plain). -/
import Derived.Test.YtalifabdjolkhaaCHl
namespace Go.Proofs.Ytalifabdjolkhaa.Ex
open Go

/-- An open call has no end yet; two threads have not the same open call. -/
structure GInj (g : GS) : Prop where
  en : ∀ x, g.p x = true → g.en (g.v x).toNat = 0
  inj : ∀ x y, g.p x = true → g.p y = true → g.v x = g.v y → x = y
theorem gInj (E : EvS) : ∀ i, GInj (gS E i)
  | 0 => ⟨fun x h => absurd (show false = true from h) Bool.false_ne_true, fun x y h => absurd (show false = true from h) Bool.false_ne_true⟩
  | i + 1 => by
    have ih := gInj E i
    have iv := gInv E i
    show GInj (bif (gS E i).ok then gs1 E i (gS E i) else gS E i)
    cases hok : (gS E i).ok with
    | false => exact ih
    | true =>
      rw [cond_true]
      rcases gs1_cases E i (gS E i) with h | ⟨h2, h1, h3⟩ | ⟨h3, h1, h4⟩
      · rw [h]; exact ⟨ih.en, ih.inj⟩
      · rw [gs1_t2 h1 h2 h3]
        refine ⟨fun x hx => ?_, fun x y hx hy hv => ?_⟩
        · have hx : yOr (yEq x (eTh E i)) ((gS E i).p x) = true := hx
          show (if (ySel (yEq x (eTh E i)) ((gS E i).n : Int) ((gS E i).v x)).toNat = (gS E i).n then 0 else (gS E i).en (ySel (yEq x (eTh E i)) ((gS E i).n : Int) ((gS E i).v x)).toNat) = 0
          cases hq : yEq x (eTh E i) with
          | true => exact if_pos (Int.toNat_natCast _)
          | false =>
            rw [hq] at hx
            have := ih.en x hx
            show (if ((gS E i).v x).toNat = (gS E i).n then 0 else (gS E i).en ((gS E i).v x).toNat) = 0
            split
            · rfl
            · exact this
        · have hx : yOr (yEq x (eTh E i)) ((gS E i).p x) = true := hx
          have hy : yOr (yEq y (eTh E i)) ((gS E i).p y) = true := hy
          have hv : ySel (yEq x (eTh E i)) ((gS E i).n : Int) ((gS E i).v x) = ySel (yEq y (eTh E i)) ((gS E i).n : Int) ((gS E i).v y) := hv
          cases hq : yEq x (eTh E i) with
          | true =>
            cases hr : yEq y (eTh E i) with
            | true => rw [yEq_t] at hq hr; rw [hq, hr]
            | false =>
              rw [hr] at hy; rw [hq, hr] at hv
              have := iv.v y hy
              have hv : ((gS E i).n : Int) = (gS E i).v y := hv
              omega
          | false =>
            rw [hq] at hx
            cases hr : yEq y (eTh E i) with
            | true =>
              rw [hq, hr] at hv
              have := iv.v x hx
              have hv : (gS E i).v x = ((gS E i).n : Int) := hv
              omega
            | false =>
              rw [hr] at hy; rw [hq, hr] at hv
              exact ih.inj x y hx hy hv
      · rw [gs1_t3 h1 (by omega) h3 h4]
        have hp : (gS E i).p (eTh E i) = true := by
          cases hq : (gS E i).p (eTh E i) with
          | true => rfl
          | false => exact absurd (.inl hq) h4
        refine ⟨fun x hx => ?_, fun x y hx hy hv => ?_⟩
        · have hx : yAnd (yNot (yEq x (eTh E i))) ((gS E i).p x) = true := hx
          rw [yAnd_t, yNot_t] at hx
          have a1 := iv.v x hx.2
          have a2 := iv.v _ hp
          show (if ((gS E i).v x).toNat = ((gS E i).v (eTh E i)).toNat then i + 1 else (gS E i).en ((gS E i).v x).toNat) = 0
          rw [if_neg]
          · exact ih.en x hx.2
          · intro he
            have := ih.inj x (eTh E i) hx.2 hp (by omega)
            rw [this] at hx
            have := hx.1
            rw [show yEq (eTh E i) (eTh E i) = true from yEq_t.mpr rfl] at this
            cases this
        · have hx : yAnd (yNot (yEq x (eTh E i))) ((gS E i).p x) = true := hx
          have hy : yAnd (yNot (yEq y (eTh E i))) ((gS E i).p y) = true := hy
          rw [yAnd_t] at hx hy
          exact ih.inj x y hx.2 hy.2 hv
theorem gOk_back {E : EvS} {i : Nat} (h : gOk E (i + 1) = true) : gOk E i = true := by
  cases hq : gOk E i with
  | true => rfl
  | false => rw [gOk_stay hq 1] at h; cases h
/-- From one state to a later one. -/
structure GExt (m : Nat) (g h : GS) : Prop where
  le : g.n ≤ h.n
  ev : ∀ j, j < g.n → h.ev j = g.ev j
  en : ∀ j, j < g.n → h.en j = g.en j ∨ (g.en j = 0 ∧ m < h.en j)
theorem gExt (E : EvS) (m : Nat) : ∀ k, gOk E (m + k) = true → GExt m (gS E m) (gS E (m + k))
  | 0, _ => ⟨Nat.le_refl _, fun _ _ => rfl, fun _ _ => .inl rfl⟩
  | k + 1, hok => by
    have hok0 := gOk_back (i := m + k) hok
    have ih := gExt E m k hok0
    have ij := gInj E (m + k)
    have hs := gS_step hok0
    have hok : (gS E (m + k + 1)).ok = true := hok
    show GExt m (gS E m) (gS E (m + k + 1))
    rw [hs] at hok ⊢
    rcases gs1_cases E (m + k) (gS E (m + k)) with h | ⟨h2, h1, h3⟩ | ⟨h3, h1, h4⟩
    · rw [h] at hok; cases hok
    · rw [gs1_t2 h1 h2 h3]
      refine ⟨Nat.le_succ_of_le ih.le, fun j hj => ?_, fun j hj => ?_⟩
      · have hl := ih.le
        show (if j = (gS E (m + k)).n then m + k else (gS E (m + k)).ev j) = _
        rw [if_neg (by omega)]; exact ih.ev j hj
      · have hl := ih.le
        show (if j = (gS E (m + k)).n then 0 else (gS E (m + k)).en j) = _ ∨ (_ ∧ m < (if j = (gS E (m + k)).n then 0 else (gS E (m + k)).en j))
        rw [if_neg (by omega)]; exact ih.en j hj
    · rw [gs1_t3 h1 (by omega) h3 h4]
      have hp : (gS E (m + k)).p (eTh E (m + k)) = true := by
        cases hq : (gS E (m + k)).p (eTh E (m + k)) with
        | true => rfl
        | false => exact absurd (.inl hq) h4
      refine ⟨ih.le, ih.ev, fun j hj => ?_⟩
      show (if j = ((gS E (m + k)).v (eTh E (m + k))).toNat then m + k + 1 else (gS E (m + k)).en j) = _ ∨ (_ ∧ m < (if j = ((gS E (m + k)).v (eTh E (m + k))).toNat then m + k + 1 else (gS E (m + k)).en j))
      by_cases hj2 : j = ((gS E (m + k)).v (eTh E (m + k))).toNat
      · rw [if_pos hj2]
        have h0 := ij.en _ hp
        rw [← hj2] at h0
        rcases ih.en j hj with h | ⟨h, h'⟩
        · exact .inr ⟨by rw [← h]; exact h0, by omega⟩
        · rw [h0] at h'; omega
      · rw [if_neg hj2]; exact ih.en j hj
theorem gAt_step {E : EvS} {i : Nat} (h : gOk E (i + 1) = true) : gAt E i ≤ eAt E i ∧ gAt E (i + 1) = eAt E i := by
  have h0 := gOk_back h
  have h : (gS E (i + 1)).ok = true := h
  show (gS E i).at_ ≤ _ ∧ (gS E (i + 1)).at_ = _
  rw [gS_step h0] at h ⊢
  rcases gs1_cases E i (gS E i) with g | ⟨h2, h1, h3⟩ | ⟨h3, h1, h4⟩
  · rw [g] at h; cases h
  · rw [gs1_t2 h1 h2 h3]; exact ⟨by omega, rfl⟩
  · rw [gs1_t3 h1 (by omega) h3 h4]; exact ⟨by omega, rfl⟩
theorem gAt_mono (E : EvS) (i : Nat) : ∀ k, gOk E (i + 1 + k) = true → eAt E i ≤ gAt E (i + 1 + k)
  | 0, h => by rw [Nat.add_zero] at h ⊢; rw [(gAt_step h).2]; exact Int.le_refl _
  | k + 1, h => by
    have h' : gOk E (i + 1 + k + 1) = true := h
    have ih := gAt_mono E i k (gOk_back h')
    obtain ⟨a, b⟩ := gAt_step h'
    show _ ≤ gAt E (i + 1 + k + 1)
    omega
theorem cut_range (E : EvS) (a : Int) : ∀ i, gOk E i = true → ((List.range i).filter fun q => yLt (eAt E q) a) = List.range (cntU E a i) ∧ ∀ q, q < i → (eAt E q < a ↔ q < cntU E a i)
  | 0, _ => ⟨rfl, fun q h => absurd h (Nat.not_lt_zero _)⟩
  | i + 1, h => by
    have h0 := gOk_back h
    obtain ⟨ih1, ih2⟩ := cut_range E a i h0
    have hle : cntU E a i ≤ i := cntQ_le _ i
    cases hq : yLt (eAt E i) a with
    | true =>
      have hq' := hq
      rw [yLt_t] at hq'
      have hall : ∀ q, q < i → eAt E q < a := fun q hqi => by
        have e : q + 1 + (i - (q + 1)) = i := by omega
        have h1 := gAt_mono E q (i - (q + 1)) (by rw [e]; exact h0)
        rw [e] at h1
        have h2 := (gAt_step h).1
        omega
      have hc : cntU E a i = i := by
        rcases Nat.lt_or_ge (cntU E a i) i with hlt | hge
        · have := (ih2 _ hlt).1 (hall _ hlt); omega
        · omega
      have hc1 : cntU E a (i + 1) = i + 1 := by
        have : cntU E a (i + 1) = cntU E a i + 1 := cntQ_t (q := fun q => yLt (eAt E q) a) hq
        omega
      rw [hc1]
      refine ⟨?_, fun q hqi => ⟨fun _ => hqi, fun _ => ?_⟩⟩
      · rw [range_filter, ih1, hc]
        show List.range i ++ (bif yLt (eAt E i) a then [i] else []) = _
        rw [hq, List.range_succ]; rfl
      · rcases Nat.lt_or_ge q i with h | h
        · exact hall q h
        · obtain rfl : q = i := by omega
          exact hq'
    | false =>
      have hq' := hq
      rw [yLt_f] at hq'
      have hc1 : cntU E a (i + 1) = cntU E a i := cntQ_f (q := fun q => yLt (eAt E q) a) hq
      rw [hc1]
      refine ⟨?_, fun q hqi => ?_⟩
      · rw [range_filter, ih1]
        show List.range (cntU E a i) ++ (bif yLt (eAt E i) a then [i] else []) = _
        rw [hq]; exact List.append_nil _
      · rcases Nat.lt_or_ge q i with h | h
        · exact ih2 q h
        · obtain rfl : q = i := by omega
          constructor <;> intro _ <;> omega
theorem selU_eq {E : EvS} {a : Int} {n j : Nat} (h : gOk E n = true) (hj : j < cntU E a n) : selU E a n j = j := by
  unfold selU
  rw [(cut_range E a n h).1, List.getElem?_range hj]; rfl
theorem gEv_le (E : EvS) : ∀ (i j : Nat), (gS E i).ev j ≤ i
  | 0, _ => Nat.le_refl _
  | i + 1, j => by
    have ih := gEv_le E i
    show (bif (gS E i).ok then gs1 E i (gS E i) else gS E i).ev j ≤ i + 1
    cases (gS E i).ok with
    | false => exact Nat.le_succ_of_le (ih j)
    | true =>
      rw [cond_true]
      rcases gs1_cases E i (gS E i) with h | ⟨h2, h1, h3⟩ | ⟨h3, h1, h4⟩
      · rw [h]; exact Nat.le_succ_of_le (ih j)
      · rw [gs1_t2 h1 h2 h3]
        show (if j = (gS E i).n then i else (gS E i).ev j) ≤ i + 1
        split
        · omega
        · exact Nat.le_succ_of_le (ih j)
      · rw [gs1_t3 h1 (by omega) h3 h4]
        exact Nat.le_succ_of_le (ih j)
theorem gs1_cut {E : EvS} {a : Int} {n m i : Nat} (hs : ∀ j, j < m → selU E a n j = j) (hi : i < m) (g : GS) (hg : ∀ k, g.ev k ≤ i) : gs1 (cutE E a n) i g = gs1 E i g := by
  have e := hs i hi
  have eg : ∀ k, selU E a n (g.ev k) = g.ev k := fun k => hs _ (Nat.lt_of_le_of_lt (hg k) hi)
  have z : zeroR (cutE E a n) i = zeroR E i := by
    show sameRes (eRk E (selU E a n i)) (eRv E (selU E a n i)) (ePn E (selU E a n i)) (ePk E (selU E a n i)) (ePv E (selU E a n i)) 0 0 0 (fun _ => 0) (fun _ => 0) = _
    rw [e]; rfl
  have so : ∀ k, sameOp (cutE E a n) (g.ev k) i = sameOp E (g.ev k) i := fun k => by
    show sameOp E (selU E a n (g.ev k)) (selU E a n i) = _
    rw [e, eg]
  have ei : ∀ k, eId (cutE E a n) (g.ev k) = eId E (g.ev k) := fun k => congrArg (eId E) (eg k)
  have h1 : eAt (cutE E a n) i = eAt E i := congrArg (eAt E) e
  have h2 : eTh (cutE E a n) i = eTh E i := congrArg (eTh E) e
  have h3 : eKd (cutE E a n) i = eKd E i := congrArg (eKd E) e
  have h4 : eId (cutE E a n) i = eId E i := congrArg (eId E) e
  have h5 : eOk (cutE E a n) i = eOk E i := congrArg (eOk E) e
  have h6 : eMost (cutE E a n) i = eMost E i := congrArg (eMost E) e
  unfold gs1
  rw [h1, h2, h3, h4, h5, h6, z, so, ei]
theorem gS_cut {E : EvS} {a : Int} {n m : Nat} (hs : ∀ j, j < m → selU E a n j = j) : ∀ i, i ≤ m → gS (cutE E a n) i = gS E i
  | 0, _ => rfl
  | i + 1, hi => by
    have ih := gS_cut hs i (by omega)
    show (bif (gS (cutE E a n) i).ok then gs1 (cutE E a n) i (gS (cutE E a n) i) else gS (cutE E a n) i) = (bif (gS E i).ok then gs1 E i (gS E i) else gS E i)
    rw [ih, gs1_cut hs (by omega) _ (gEv_le E i)]
theorem gEv_lt (E : EvS) : ∀ (i j : Nat), j < (gS E i).n → (gS E i).ev j < i
  | 0, _, h => absurd h (Nat.not_lt_zero _)
  | i + 1, j, h => by
    have ih := gEv_lt E i
    have h : j < (bif (gS E i).ok then gs1 E i (gS E i) else gS E i).n := h
    show (bif (gS E i).ok then gs1 E i (gS E i) else gS E i).ev j < i + 1
    revert h
    cases (gS E i).ok with
    | false => exact fun h => Nat.lt_succ_of_lt (ih j h)
    | true =>
      rw [cond_true]
      rcases gs1_cases E i (gS E i) with h | ⟨h2, h1, h3⟩ | ⟨h3, h1, h4⟩
      · rw [h]; exact fun h => Nat.lt_succ_of_lt (ih j h)
      · rw [gs1_t2 h1 h2 h3]
        intro h
        have h : j < (gS E i).n + 1 := h
        show (if j = (gS E i).n then i else (gS E i).ev j) < i + 1
        split
        · omega
        · exact Nat.lt_succ_of_lt (ih j (by omega))
      · rw [gs1_t3 h1 (by omega) h3 h4]
        exact fun h => Nat.lt_succ_of_lt (ih j h)
theorem cnt_le (E : EvS) (a : Int) (n : Nat) : cntU E a n ≤ n := cntQ_le _ n
theorem gS_cutm {E : EvS} {a : Int} {n : Nat} (h : gOk E n = true) : gS (cutE E a n) (cntU E a n) = gS E (cntU E a n) :=
  gS_cut (fun _ hj => selU_eq h hj) _ (Nat.le_refl _)
theorem gOk_m {E : EvS} {m n : Nat} (hm : m ≤ n) (h : gOk E n = true) : gOk E m = true := by
  cases hq : gOk E m with
  | true => rfl
  | false =>
    have := gOk_stay hq (n - m)
    rw [show m + (n - m) = n by omega, h] at this
    cases this
theorem hc_ok {E : EvS} {a : Int} {n : Nat} (h : gOk E n = true) : gOk (cutE E a n) (cntU E a n) = true := by
  show (gS _ _).ok = true
  rw [gS_cutm h]; exact gOk_m (cnt_le E a n) h
theorem hc_ext {E : EvS} {a : Int} {n : Nat} (h : gOk E n = true) : GExt (cntU E a n) (gS E (cntU E a n)) (gS E n) := by
  have := gExt E (cntU E a n) (n - cntU E a n)
  rw [show cntU E a n + (n - cntU E a n) = n by have := cnt_le E a n; omega] at this
  exact this h
theorem hc_res {E : EvS} {a : Int} {n : Nat} (h : gOk E n = true) : resN (cutE E a n) (cntU E a n) = (gS E (cntU E a n)).n := by
  unfold resN
  rw [hc_ok h, cond_true]
  show (gS _ _).n = _
  rw [gS_cutm h]
theorem hc_n {E : EvS} {a : Int} {n : Nat} (h : gOk E n = true) : resN (cutE E a n) (cntU E a n) ≤ resN E n := by
  rw [hc_res h]
  unfold resN
  rw [h, cond_true]
  exact (hc_ext h).le
theorem hc_ev {E : EvS} {a : Int} {n i : Nat} (h : gOk E n = true) (hi : i < resN (cutE E a n) (cntU E a n)) : selU E a n (gEv (cutE E a n) (cntU E a n) i) = gEv E n i := by
  rw [hc_res h] at hi
  have e : gEv (cutE E a n) (cntU E a n) i = (gS E (cntU E a n)).ev i := by
    show (gS _ _).ev i = _
    rw [gS_cutm h]
  rw [e, selU_eq h (gEv_lt E _ i hi)]
  exact ((hc_ext h).ev i hi).symm
theorem hc_en {E : EvS} {a : Int} {n i : Nat} (h : gOk E n = true) (hi : i < resN (cutE E a n) (cntU E a n)) :
    cOv (gEn (cutE E a n) (cntU E a n) i) = yAnd (cOv (gEn E n i)) (yLt (cTo E (gEn E n i)) a) := by
  rw [hc_res h] at hi
  have e : gEn (cutE E a n) (cntU E a n) i = gEn E (cntU E a n) i := by
    show (gS _ _).en i = _
    rw [gS_cutm h]; rfl
  rw [e]
  have hl := gEn_le E (cntU E a n) i
  have hl2 := gEn_le E n i
  have hm := cnt_le E a n
  have hr := (cut_range E a n h).2
  have hx : gEn E n i = gEn E (cntU E a n) i ∨ (gEn E (cntU E a n) i = 0 ∧ cntU E a n < gEn E n i) := (hc_ext h).en i hi
  rcases hx with hx | ⟨h0, hx⟩
  · rw [hx]
    cases hq : gEn E (cntU E a n) i with
    | zero => rfl
    | succ q =>
      rw [hq] at hl
      show true = yAnd true (yLt (eAt E q) a)
      rw [show yLt (eAt E q) a = true from yLt_t.mpr ((hr q (by omega)).2 (by omega))]; rfl
  · rw [h0]
    cases hq : gEn E n i with
    | zero => rfl
    | succ q =>
      rw [hq] at hx hl2
      show false = yAnd true (yLt (eAt E q) a)
      rw [show yLt (eAt E q) a = false from by
        cases hb : yLt (eAt E q) a with
        | false => rfl
        | true => rw [yLt_t] at hb; have := (hr q (by omega)).1 hb; omega]
      rfl
theorem selU_lt {E : EvS} {a : Int} {n j : Nat} (hj : j < cntU E a n) : selU E a n j < n := by
  unfold selU
  rw [List.getElem?_eq_getElem hj]
  exact List.mem_range.1 (List.mem_filter.1 (List.getElem_mem hj)).1
theorem pre_cut {E : EvS} {a : Int} {n : Nat} (h : preE E n = true) : preE (cutE E a n) (cntU E a n) = true := by
  obtain ⟨hn, hp⟩ := of_decide_eq_true h
  exact decide_eq_true ⟨Nat.le_trans (cnt_le E a n) hn, fun i hi => hp _ (selU_lt hi)⟩
theorem wf_cut {E : EvS} {a : Int} {n : Nat} (h : wfE E n = true) : wfE (cutE E a n) (cntU E a n) = true := by
  have hp := of_decide_eq_true h
  exact decide_eq_true fun i hi => hp _ (selU_lt hi)
end Go.Proofs.Ytalifabdjolkhaa.Ex
