/- The abstract machine: a region that draws its order comes to the same in every order (2). -/
import Derived.Test.YtiikiphkhfmlcaaGreatDoorExO
noncomputable section
namespace Go.Proofs.YtiikiphkhfmlcaaGreatDoor.Ex
open Go

section
variable {P : Program} {rec : Rc} {ops : Array Oper} {rr : Nat → DR} {S : Nat → St} {M0 : Mp} {w0 : World} {D D' : Nat → Bool} {M : Mp} {a : Act} {w : World} {i : Nat}

theorem put_tm {o : Oper} {v : AV} {h1 : AH} (st : Step P rec ops rr i (S i) (S (i + 1)) o v h1) : ∀ t, (rr i).dst = some t → (S (i + 1)).tm.get (t + 1) = some v ∧ t < (S i).sz := fun t ht => by
  have hp := st.put
  rw [st.dst] at ht
  rw [ht] at hp
  simp only [putA_eq, nblt, Bool.cond_decide] at hp
  split at hp
  · rename_i hlt
    split at hp
    · rename_i t' ht'
      simp only [Option.some.injEq] at hp
      rw [← hp]
      refine ⟨?_, hlt⟩
      show t'.get (t + 1) = _
      rw [Tr.get_set _ _ _ _ _ ht']
      simp
    · cases hp
  · cases hp

/-- Behind i, nothing that is done touches what i has touched. -/
theorem later_off (F : Facts P rec ops rr S) (I : Inv ops.size rr S M0 w0 D M a w) (hi : i < ops.size) (hDi : D i = false) {x : Nat} (hx : inDR x (rr i) = true) : ∀ k, i < k → k < ops.size → inDR x (rr k) = true → D k = false := fun k h1 h2 h3 => by
  cases hD : D k with
  | false => rfl
  | true =>
    exfalso
    have hu : Nat.testBit (rr k).pm i = false := by
      cases hb : Nat.testBit (rr k).pm i with
      | false => rfl
      | true => have := I.closed k h2 hD i hb; rw [hDi] at this; cases this
    obtain ⟨hm, _⟩ := F.apart h1 h2 hu
    obtain ⟨_, r2, r3, _⟩ := F.rcd i hi
    obtain ⟨_, q2, q3, _⟩ := F.rcd k h2
    have hmono := F.nx (i + 1) k (by omega) (by omega)
    rcases inDR_iff.1 h3 with h4 | h4
    · rcases inDR_iff.1 hx with h5 | h5
      · omega
      · have := ((F.base (i + 1) (by omega)).recs i (by omega)).2 x h5; omega
    · obtain ⟨o, v, d⟩ := F.dig k h2
      rcases d.run with ⟨_, _, hn⟩ | ⟨_, _, _, hw, _⟩
      · have := ((noneW_ok hn).2 _ hm (by intro e; rw [e] at h4; cases h4)).2.2 x h4
        rw [hx] at this; cases this
      · rw [hw] at h4; cases h4

theorem inv_upd (F : Facts P rec ops rr S) (I : Inv ops.size rr S M0 w0 D M a w) (hi : i < ops.size) (hDi : D i = false) (hpre : ∀ k, Nat.testBit (rr i).pm k = true → D k = true) (hD : ∀ k, k ≠ i → D' k = D k) (hDi' : D' i = true)
    {o : Oper} {v : AV} {h1 : AH} (st : Step P rec ops rr i (S i) (S (i + 1)) o v h1) {M' : Mp} {u : Value} {w' : World} {V V' : AH} (rv : v.R M' u) (rh : Rel M' V' w') (f : Fr V V' M M' w w')
    (hnx : V.nx = (rr i).lo) (hnx' : V'.nx = (rr i).hi) (hsub : ∀ x ob, V.get x = some ob → cur D (fun j => inDR x (rr j)) (fun j => (S j).h.get x) ops.size = some ob)
    (hnew : ∀ x, inDR x (rr i) = true → (S (i + 1)).h.get x = V'.get x) (hkeep : ∀ x, V.get x ≠ none → inDR x (rr i) = false → V'.get x = V.get x) : Inv ops.size rr S M0 w0 D' M' (a.put o.dst u) w' := by
  have hDtrue : ∀ k, D k = true → D' k = true := fun k hk => by
    by_cases e : k = i
    · rw [e]; exact hDi'
    · rw [hD k e]; exact hk
  have cOn : ∀ x, inDR x (rr i) = true → cur D' (fun j => inDR x (rr j)) (fun j => (S j).h.get x) ops.size = V'.get x := fun x hx => by
    rw [cur_on hD hDi' hx ops.size hi (fun k q1 q2 q3 => later_off F I hi hDi hx k q1 q2 q3)]
    exact hnew x hx
  have cOff : ∀ x, inDR x (rr i) = false → cur D' (fun j => inDR x (rr j)) (fun j => (S j).h.get x) ops.size = cur D (fun j => inDR x (rr j)) (fun j => (S j).h.get x) ops.size := fun x hx => cur_off hD hx ops.size
  -- a block of the new state: it is in V', or it is as it was and not in V
  have cases2 : ∀ x, cur D' (fun j => inDR x (rr j)) (fun j => (S j).h.get x) ops.size ≠ none →
      (V'.get x = cur D' (fun j => inDR x (rr j)) (fun j => (S j).h.get x) ops.size) ∨
      (V.get x = none ∧ inDR x (rr i) = false ∧ cur D' (fun j => inDR x (rr j)) (fun j => (S j).h.get x) ops.size = cur D (fun j => inDR x (rr j)) (fun j => (S j).h.get x) ops.size) := fun x hx => by
    cases hd : inDR x (rr i) with
    | true => exact .inl (cOn x hd).symm
    | false =>
      cases hV : V.get x with
      | none => exact .inr ⟨rfl, rfl, cOff x hd⟩
      | some ob =>
        left
        rw [hkeep x (by simp [hV]) hd, hV, cOff x hd, hsub x ob hV]
  have Mold : ∀ x b κ, V.get x = none → inDR x (rr i) = false → cur D (fun j => inDR x (rr j)) (fun j => (S j).h.get x) ops.size ≠ none → M' x = some (b, κ) → M x = some (b, κ) ∧ b < w.heap.size := fun x b κ _ hdr hc hM => by
    cases hcc : cur D (fun j => inDR x (rr j)) (fun j => (S j).h.get x) ops.size with
    | none => exact absurd hcc hc
    | some oo =>
      rcases I.obj x oo hcc with ⟨hv, e1⟩ | ⟨b2, κ2, ob, e1, e2, _⟩
      · exfalso
        have h9 := f.only x (by rw [hM, e1]; simp)
        rw [inDR_iff.2 (.inl ⟨by omega, by omega⟩)] at hdr; cases hdr
      have := f.ext _ _ e1
      rw [hM] at this
      simp only [Option.some.injEq, Prod.mk.injEq] at this
      obtain ⟨rfl, rfl⟩ := this
      exact ⟨e1, heap_lt e2⟩
  have notV : ∀ x b κ ox, V.get x = none → cur D (fun j => inDR x (rr j)) (fun j => (S j).h.get x) ops.size = some ox → M x = some (b, κ) → ∀ id κ' oid, V.get id = some oid → (ox.ro = false ∨ oid.ro = false) → M id ≠ some (b, κ') := fun x b κ ox hV hc hM id κ' oid hid hro e => by
    have : id = x := by
      rcases hro with hr | hr
      · exact (I.inj x id b κ κ' ox hc hr (by rw [hsub id oid hid]; simp) hM e).symm
      · exact I.inj id x b κ' κ oid (hsub id oid hid) hr (by rw [hc]; simp) e hM
    subst this
    rw [hV] at hid; cases hid
  refine ⟨fun t => ?_, ?_, ?_, fun x oo hx => ?_, fun x y b κ κ' ox hx hro hy ex ey => ?_, fun x hx => ?_, f.os.trans I.os, f.tape.trans I.tape, f.output.trans I.output, Nat.le_trans I.size f.size, I.ext.trans f.ext, fun k hk hn => ?_, fun x b κ o' hx hM => ?_, fun j hj hDj k hk => ?_, rh.gw, fun x b κ ox hx hro hM => ?_, rh.fz, fun x b κ ox hx hro hM => ?_, fun b cs e => ?_⟩
  · cases ht : sameT (rr i).dst (some t) with
    | false =>
      rw [cur_off hD ht ops.size]
      have hne : o.dst ≠ some t := fun e => by rw [← st.dst] at e; rw [sameT_iff.2 e] at ht; cases ht
      have : (a.put o.dst u).tmps.getD t undef = a.tmps.getD t undef := by
        cases hdd : o.dst with
        | none => rfl
        | some d =>
          have hdt : t ≠ d := fun e => hne (by rw [hdd, e])
          simp only [Act.put, Array.getD_eq_getD_getElem?, Array.getElem?_setIfInBounds_ne (Ne.symm hdt)]
      rw [this]
      exact AV.R.mono f.ext _ _ (I.tm t)
    | true =>
      have hdt := sameT_iff.1 ht
      rw [cur_on hD hDi' ht ops.size hi (fun k q1 q2 q3 => by
        cases hDk : D k with
        | false => rfl
        | true =>
          exfalso
          have hu : Nat.testBit (rr k).pm i = false := by
            cases hb : Nat.testBit (rr k).pm i with
            | false => rfl
            | true => have := I.closed k q2 hDk i hb; rw [hDi] at this; cases this
          obtain ⟨_, _, hs, _⟩ := F.apart q1 q2 hu
          rw [hdt, sameT_iff.1 q3] at hs
          simp [sameT] at hs)]
      obtain ⟨e1, e2⟩ := put_tm st t hdt
      rw [e1]
      have hlt : t < a.tmps.size := by rw [I.sz, ← (F.base i (by omega)).sz]; exact e2
      rw [st.dst] at hdt
      have : (a.put o.dst u).tmps.getD t undef = u := by rw [hdt]; simp [Act.put, hlt]
      rw [this]; exact rv
  · have := I.sz
    cases hdd : o.dst <;> simpa [Act.put, hdd] using this
  · have hdf : (a.put o.dst u).defers = a.defers := by cases o.dst <;> rfl
    rw [hdf]; exact I.df.mono f.ext
  · rcases cases2 x (by rw [hx]; simp) with h | ⟨h1, h2, h3⟩
    · rw [hx] at h; exact rh.obj x oo h
    · rw [hx] at h3
      rcases I.obj x oo h3.symm with ⟨hv, e1⟩ | ⟨b, κ, ob, e1, e2, e3⟩
      · refine .inl ⟨hv, ?_⟩
        cases hM' : M' x with
        | none => rfl
        | some q =>
          exfalso
          have h9 := f.only x (by rw [hM', e1]; simp)
          rw [inDR_iff.2 (.inl ⟨by omega, by omega⟩)] at h2; cases h2
      refine .inr ⟨b, κ, ob, f.ext _ _ e1, ?_, ObR.mono f.ext _ _ e3⟩
      rw [f.keep b (heap_lt e2) (fun id κ' oid hid hr => notV x b κ oo h1 h3.symm e1 id κ' oid hid (.inr hr))]
      exact e2
  · rcases cases2 x (by rw [hx]; simp) with h | ⟨h1, h2, h3⟩
    · rw [hx] at h
      rcases cases2 y hy with k | ⟨k1, k2, k3⟩
      · exact rh.inj x y b κ κ' ox h hro (by rw [k]; exact hy) ex ey
      · rw [k3] at hy
        obtain ⟨e1, e2⟩ := Mold y b κ' k1 k2 hy ey
        rcases f.range x b κ ox h ex with q | ⟨id, κ2, oid, q1, q2, q3⟩
        · omega
        · cases hyy : cur D (fun j => inDR y (rr j)) (fun j => (S j).h.get y) ops.size with
          | none => exact absurd hyy hy
          | some oy => exact absurd q2 (notV y b κ' oy k1 hyy e1 id κ2 oid q1 (.inr (q3 hro)))
    · rw [h3] at hx
      obtain ⟨e1, e2⟩ := Mold x b κ h1 h2 (by rw [hx]; simp) ex
      rcases cases2 y hy with k | ⟨k1, k2, k3⟩
      · cases hVy : V'.get y with
        | none => rw [← k, hVy] at hy; exact absurd rfl hy
        | some oy =>
          rcases f.range y b κ' oy hVy ey with q | ⟨id, κ2, oid, q1, q2, q3⟩
          · omega
          · exact absurd q2 (notV x b κ ox h1 hx e1 id κ2 oid q1 (.inl hro))
      · rw [k3] at hy
        exact I.inj x y b κ κ' ox hx hro hy e1 (Mold y b κ' k1 k2 hy ey).1
  · by_cases e : M' x = M x
    · rw [e] at hx
      obtain ⟨j, q1, q2, q3⟩ := I.fresh x hx
      exact ⟨j, q1, hDtrue j q2, q3⟩
    · have := f.only x e
      exact ⟨i, hi, hDi', by omega, by omega⟩
  · rw [f.keep k (Nat.lt_of_lt_of_le hk I.size) (fun id κ oid hid hr e => ?_)]
    · exact I.keep k hk hn
    · rcases I.range id k κ oid (hsub id oid hid) e with q | ⟨i0, κ', o0, q1, q2, q3⟩
      · omega
      · exact hn i0 κ' o0 q1 (q3 hr) q2
  · rcases cases2 x (by rw [hx]; simp) with h | ⟨h1, h2, h3⟩
    · rw [hx] at h
      rcases f.range x b κ o' h hM with q | ⟨id, κ2, oid, q1, q2, q3⟩
      · left; have := I.size; omega
      · rcases I.range id b κ2 oid (hsub id oid q1) q2 with p | ⟨i0, κ3, o0, p1, p2, p3⟩
        · exact .inl p
        · exact .inr ⟨i0, κ3, o0, p1, p2, fun e => p3 (q3 e)⟩
    · rw [h3] at hx
      exact I.range x b κ o' hx (Mold x b κ h1 h2 (by rw [hx]; simp) hM).1
  · by_cases e : j = i
    · subst e; exact hDtrue k (hpre k hk)
    · rw [hD j e] at hDj
      exact hDtrue k (I.closed j hj hDj k hk)
  · rcases cases2 x (by rw [hx]; simp) with h | ⟨h1, h2, h3⟩
    · rw [hx] at h; exact rh.gf x b κ ox h hro hM
    · rw [h3] at hx
      exact I.gf x b κ ox hx hro (Mold x b κ h1 h2 (by rw [hx]; simp) hM).1
  · rcases cases2 x (by rw [hx]; simp) with h | ⟨h1, h2, h3⟩
    · rw [hx] at h; exact rh.fo x b κ ox h hro hM
    · rw [h3] at hx
      obtain ⟨e1, e2⟩ := Mold x b κ h1 h2 (by rw [hx]; simp) hM
      cases hz : M'.z b with
      | none => rfl
      | some cs =>
        exfalso
        rcases f.zx b cs hz with q | q | ⟨id, κ', oid, q1, q2, q3⟩
        · rw [I.fo x b κ ox hx hro e1] at q; cases q
        · omega
        · exact notV x b κ ox h1 hx e1 id κ' oid q1 (.inr q2) q3
  · rcases f.zx b cs e with q | q | ⟨id, κ', oid, q1, q2, q3⟩
    · exact I.zx b cs q
    · exact .inr (.inl (Nat.le_trans I.size q))
    · rcases I.range id b κ' oid (hsub id oid q1) q3 with p | ⟨i0, κ3, o0, p1, p2, p3⟩
      · exact .inr (.inl p)
      · exact .inr (.inr ⟨i0, κ3, o0, p1, p3 q2, p2⟩)

theorem inv_step (hG : Good P rec) (F : Facts P rec ops rr S) (I : Inv ops.size rr S M0 w0 D M a w) (hF0 : Fresh M0 (S 0).h (S ops.size).h) (hi : i < ops.size) (hDi : D i = false) (hpre : ∀ k, Nat.testBit (rr i).pm k = true → D k = true)
    (hD : ∀ k, k ≠ i → D' k = D k) (hDi' : D' i = true) {r : Option Nat} {K : Act → World → Prop} {Q : Exit → Act → World → Prop} (hK : ∀ M' a' w', Inv ops.size rr S M0 w0 D' M' a' w' → K a' w') : wpOpIn (FW r) 0 P ops Q i K a w := by
  obtain ⟨o, v, d⟩ := F.dig i hi
  obtain ⟨h1, st, he⟩ := d.st
  obtain ⟨r1, r2, r3, r4⟩ := F.rcd i hi
  have succ_un : ∀ k, i < k → k < ops.size → D k = true → Nat.testBit (rr k).pm i = false := fun k _ h2 hDk => by
    cases hb : Nat.testBit (rr k).pm i with
    | false => rfl
    | true => have := I.closed k h2 hDk i hb; rw [hDi] at this; cases this
  have pred_un : ∀ k, D k = false → Nat.testBit (rr i).pm k = false := fun k hDk => by
    cases hb : Nat.testBit (rr i).pm k with
    | false => rfl
    | true => have := hpre k hb; rw [hDk] at this; cases this
  have hread : ∀ t, t ∈ (rr i).looks → (((S i).tm.get (t + 1)).getD undefA).R M (a.tmps.getD t undef) := fun t ht => by
    have := I.tm t
    rwa [cur_view (i := i) (fun k hk hT => by
        cases hDk : D k with
        | true => rfl
        | false =>
          exfalso
          obtain ⟨_, hs, _⟩ := F.apart hk hi (pred_un k hDk)
          rw [sameT_iff.1 hT] at hs
          simp only [memT] at hs
          rw [memN_iff.2 ht] at hs; cases hs) ops.size (by omega) (fun k h2 h3 hT => by
        by_cases e : k = i
        · rw [e]; exact hDi
        · cases hDk : D k with
          | false => rfl
          | true =>
            exfalso
            obtain ⟨_, _, _, hs⟩ := F.apart (by omega : i < k) h3 (succ_un k (by omega) h3 hDk)
            rw [sameT_iff.1 hT] at hs
            simp only [memT] at hs
            rw [memN_iff.2 ht] at hs; cases hs) (fun k hk hT => by rw [F.tm_same k hk t hT])] at this
  have hwant : ∀ b, wantA ops.toList (S i).tm o = some b → Region.wanted o (yielded ops a.tmps) = b := fun b hb => wantA_ok hb (fun g d' hg hd' => by rw [evT_tmp]; exact hread d' (by
    rw [st.looks]
    unfold looksA
    rw [hg]
    obtain ⟨g1, g2⟩ := g
    simp only at hd'
    rw [List.mem_append]
    right
    simp only [Array.getElem?_toList]
    cases hj : ops[g1]? with
    | none => rw [hj] at hd'; cases hd'
    | some oj => rw [hj] at hd'; simp at hd'; simp [hd']))
  unfold wpOpIn
  simp only [st.op]
  rcases d.run with ⟨hw, ⟨V, V', hv⟩, hn⟩ | ⟨hw, hv, hh, hwr, hfu, hld⟩
  · rw [hwant true hw]
    simp only [if_true]
    have hop : ∀ x ∈ o.op.operands.toList, (evT (S i).tm x).R M (a.eval x) := fun x hx => by
      cases x with
      | tmp t =>
        rw [evT_tmp]; refine hread t ?_
        rw [st.looks]
        unfold looksA
        rw [List.mem_append]
        left
        exact List.mem_filterMap.2 ⟨.tmp t, hx, rfl⟩
      | const c => exact ofV_R M 2 c
      | global g => rfl
      | func f => simp only [evT, AV.R, Act.eval]; exact ⟨[], rfl, rfl⟩
    have hsub : ∀ x ob, V.get x = some ob → cur D (fun j => inDR x (rr j)) (fun j => (S j).h.get x) ops.size = some ob := fun x ob hx => by
      have hx0 := hv.sub x ob hx
      have hVn : V.get x ≠ none := by simp [hx]
      rw [cur_view (i := i) (fun k hk hT => by
        cases hDk : D k with
        | true => rfl
        | false =>
          exfalso
          obtain ⟨hm, _⟩ := F.apart hk hi (pred_un k hDk)
          have := hv.vis x hVn _ hm
          rw [show inDR x (rr k) = true from hT] at this; cases this) ops.size (by omega) (fun k h2 h3 hT => by
        by_cases e : k = i
        · rw [e]; exact hDi
        · cases hDk : D k with
          | false => rfl
          | true =>
            exfalso
            obtain ⟨hm, _⟩ := F.apart (by omega : i < k) h3 (succ_un k (by omega) h3 hDk)
            obtain ⟨_, q2, q3, _⟩ := F.rcd k h3
            have hlt := (F.base i (by omega)).wf x (by rw [hx0]; simp)
            have hmono := F.nx i k (by omega) (by omega)
            rcases inDR_iff.1 hT with h4 | h4
            · omega
            · obtain ⟨o2, v2, d2⟩ := F.dig k h3
              rcases d2.run with ⟨_, _, hn2⟩ | ⟨_, _, _, hw2, _⟩
              · obtain ⟨p1, p2, _⟩ := (noneW_ok hn2).2 _ hm (by intro e; rw [e] at h4; cases h4)
                rcases hv.kind with hk | ⟨_, hk⟩
                · rw [p1] at hk; cases hk
                · exact p2 x (hk x hVn) h4
              · rw [hw2] at h4; cases h4) (fun k hk hT => by rw [F.heap_same k hk x hT])]
      exact hx0
    have rV : Rel M V w := ⟨fun x ob hx => I.obj x ob (hsub x ob hx), fun x y b κ κ' ox hx hr hy => by
      cases hy1 : V.get y with
      | none => exact absurd hy1 hy
      | some oy => exact I.inj x y b κ κ' ox (hsub x ox hx) hr (by rw [hsub y oy hy1]; simp), fun x hx => by
      cases hx1 : V.get x with
      | none => exact absurd hx1 hx
      | some ox => rw [hv.nx]; exact (F.base i (by omega)).wf x (by rw [hv.sub x ox hx1]; simp), I.gw, fun x b κ ox hx hr hM => I.gf x b κ ox (hsub x ox hx) hr hM, I.fz, fun x b κ ox hx hr hM => I.fo x b κ ox (hsub x ox hx) hr hM⟩
    have fV : Fresh M V V' := fun x q1 q2 => by
      rw [hv.nx] at q1
      rw [hv.nx'] at q2
      have h00 := F.nx 0 i (by omega) (by omega)
      have h01 := F.nx (i + 1) ops.size (Nat.le_refl _) (by omega)
      by_cases e : M x = M0 x
      · rw [e]; exact hF0 x (by omega) (by omega)
      · exfalso
        obtain ⟨j, j1, j2, j3, j4⟩ := I.fresh x e
        obtain ⟨_, p2, p3, _⟩ := F.rcd j j1
        have hji : j ≠ i := fun e => by rw [e, hDi] at j2; cases j2
        by_cases hlt : j < i
        · have := F.nx (j + 1) i (by omega) (by omega); omega
        · have := F.nx (i + 1) j (by omega) (by omega); omega
    refine (opF_ok hG hv.run).2 M a w r K Q hop rV fV (fun M' u w' rv rh f _ => hK M' _ w' ?_)
    exact inv_upd F I hi hDi hpre hD hDi' st rv rh f (by rw [hv.nx, r2]) (by rw [hv.nx', r3]) hsub
      (fun x hx => hv.new x (by rcases inDR_iff.1 hx with h | h; exact .inr (by rw [r2, r3] at h; exact h); exact .inl h))
      (fun x hx hd => hv.keep x hx (fun e => by rw [inDR_iff.2 (.inr e)] at hd; cases hd))
  · rw [hwant false hw]
    simp only [Bool.false_eq_true, if_false]
    refine ⟨fun _ _ => trivial, hK M _ w ?_⟩
    have hnone : ∀ x, inDR x (rr i) = false := fun x => by
      cases hx : inDR x (rr i) with
      | false => rfl
      | true =>
        rcases inDR_iff.1 hx with h | h
        · rw [r2, r3, hh] at h; omega
        · rw [hwr] at h; cases h
    exact inv_upd (V := ⟨.lf, (S i).h.nx, 0, []⟩) (V' := ⟨.lf, (S i).h.nx, 0, []⟩) F I hi hDi hpre hD hDi' st (by rw [hv]; simp [undefA, AV.R, AV.RL, undef]) ⟨fun x ob hx => by simp [get_lf] at hx, fun x y b κ κ' o hx => by simp [get_lf] at hx, fun x hx => absurd (get_lf _ _ _ x) hx, I.gw, fun x b κ o hx => (by simp [get_lf] at hx), I.fz, fun x b κ o hx => by simp [get_lf] at hx⟩ (Fr.same _ M w) r2.symm (by rw [r3, hh]) (fun x ob hx => by simp [get_lf] at hx) (fun x hx => by rw [hnone x] at hx; cases hx) (fun x hx => absurd (get_lf _ _ _ x) hx)
end
end Go.Proofs.YtiikiphkhfmlcaaGreatDoor.Ex
