/- Walks by symbols: a contract whose walk meets its conditions holds. -/
import Derived.Test.YtlfehgagnelbhaaGreatDoorWn
namespace Go.Proofs.YtlfehgagnelbhaaGreatDoor.Ex
open Go

section
variable {P : Program} {sm : FuncId → Option Sm}
set_option maxHeartbeats 1000000 in
theorem ctX_ok (hm : P.follows .mixedOrders = true) (hs : SmOK P sm) {ss : List Sx} {rs : Sx} {F : List Dx → Option (Bool × Dx × List (List Dx))} {f : FuncId}
    (hw : ∀ ds r post, F ds = some (true, r, post) → ∃ ann n, wxF P sm ann n f (canXs nmI ss ds []).1 (heapOf (canXs nmI ss ds []).2)
      (postX (canXs nmI ss ds []).2.length (delX 0 (canXs nmI ss ds []).2 (ptrId (canXs nmI ss ds []).1)) (ptrId (canXs nmI ss ds []).1) (expR (fun j => (canXs nmI ss ds []).2.length + j) (ptrSh ss ds) rs r post))) :
    SmCall P f (fun args h => (ctX ss rs F args h).sel) := by
  intro args h v h' hg
  obtain ⟨⟨ds, is⟩, e1, e⟩ := T.sel_bind_some hg
  simp only at e
  split at e
  case h_2 => cases e
  rename_i pre r post hF
  generalize hcan : canXs nmI ss ds [] = can at e
  obtain ⟨cargs, bl⟩ := can
  simp only at e
  generalize hL : lendXs h ss args = L at e
  generalize hflat : (flatP (ptrSh ss ds) post && flatX rs r) = flat at e
  generalize hLR : (bif flat then ([] : List Nat) else L) = LR at e
  generalize hexp : expR (fun j => h.nx + j) (ptrSh ss ds) rs r post = E at e
  obtain ⟨v0, cs, nb⟩ := E
  simp only [Bool.cond_eq_ite] at e
  split at e
  case isFalse => cases e
  rename_i hc
  simp only [Bool.and_eq_true, nbeq, nblt, decide_eq_true_eq] at hc
  obtain ⟨⟨⟨⟨⟨⟨⟨⟨⟨⟨c1, c2⟩, c3⟩, c4⟩, c5⟩, c6⟩, c7⟩, c8s⟩, c9⟩, c10⟩, c11⟩ := hc
  have c8 : bl.length < 4294967296 := by omega
  obtain ⟨rfl, e⟩ := T.sel_must e
  have e := T.sel_ret e
  simp only [Prod.mk.injEq] at e
  obtain ⟨rfl, rfl⟩ := e
  have hrem := allLt_ok c5
  have hpid := allLt_ok c6
  obtain ⟨g1, g2, g3, g4⟩ := heapX_get hrem hpid (nodupB_ok c4) c3 c7
  obtain ⟨lk1, lk2⟩ := linkB_at c2
  generalize hpi : ptrId args = pids at c2 c3 c4 c5 c6 hrem hpid g1 g2 g3 g4 lk1 lk2
  have hLR9 : ∀ id, id ∈ LR → id ∈ L := fun id hi => by subst hLR; cases flat with | true => simp at hi | false => exact hi
  generalize hrm : remX bl is pids ++ LR = rem at c5 hrem g1 g2 g3 g4
  generalize hcp : ptrId cargs = cpid at c2 lk1 lk2
  have hsz : (heapX h rem pids cs nb).nx = h.nx + nb.length := rfl
  have hab : Ab h (heapX h rem pids cs nb) := by
    refine ⟨Nat.le_add_right _ _, rfl, fun x hx => List.mem_append_right _ hx, fun x b1 b2 hx => ?_, fun x hx => ?_⟩
    · have hn : x ∉ filtLt h.bs (rem ++ pids) := fun q => hx (List.mem_append_left _ q)
      refine g4 x (by omega) (fun q => hn (filtLt_mem (List.mem_append_right _ q) b1)) (fun q => hn (filtLt_mem (List.mem_append_left _ q) b1))
    · by_cases hnew : h.nx ≤ x ∧ x < h.nx + nb.length
      · exact .inr hnew
      · left
        by_cases hp : x ∈ pids
        · obtain ⟨j, hj⟩ := List.mem_iff_getElem?.1 hp
          have hjl : j < cpid.length := by rw [lk1]; exact (List.getElem?_eq_some_iff.1 hj).1
          obtain ⟨_, _, o, ho⟩ := lk2 j _ x (List.getElem?_eq_getElem hjl) hj
          rw [ho]; simp
        · by_cases hr : x ∈ rem
          · exact absurd (g3 x hr hp) hx
          · rw [← g4 x hnew hp hr]; exact hx
  refine ⟨⟨Nat.le_add_right _ _, hab⟩, fun M us w rr' R ra rr fr k => ?_⟩
  obtain ⟨nb0, bs, q1, q2, q3⟩ := rdXs_ok (Z := zL M w L) rr rfl ss args ds is us [] [] e1 (by rw [hL]; exact fun _ h => h) ra rfl
  rw [hcan] at q1 q3
  simp only [List.nil_append] at q1 q2 q3
  subst q1
  obtain ⟨rel0, fr0⟩ := heapOf_relX rfl q2 c1 c11 rr c8
  obtain ⟨ann, n, hw⟩ := hw ds r post hF
  rw [hcan] at hw
  simp only [hcp] at hw
  refine wxF_ok hm hs hw (MofZ (zL M w L) bs) us w rr' R q3 rel0 fr0 fun v2 h2 M2 u w' hk rv rel2 _ fo kp => ?_
  have kp : ∀ id, id < bl.length → M2 id = MofZ (zL M w L) bs id := kp
  generalize hexk : expR (fun j => bl.length + j) (ptrSh ss ds) rs r post = E at hk
  obtain ⟨vk, ck, nk⟩ := E
  simp only [postX] at hk
  obtain ⟨ρ1, x1, hk, rvk⟩ := cmpV_ok _ _ _ _ hk
  obtain ⟨ρ, x2, okr, t2⟩ := cmpHs_ok hk
  simp only [Bool.and_eq_true] at okr
  obtain ⟨okr, okf⟩ := okr
  have found := t2 M2 w' rel2
  have rvN : vk.R (MR bl.length ρ M2 (cellsW w')) u := AV.R.mono (MR_le x2 M2) _ _ (rvk M2 w' u rel2 rv)
  generalize hN : MR bl.length ρ M2 (cellsW w') = N at rvN
  have hlen : nk.length = nb.length ∧ ck.length = cs.length := by
    have := expR_shift (N := noM) (N' := noM) (L := nk.length) (x1 := fun j => bl.length + j) (x2 := fun j => h.nx + j) (ps := ptrSh ss ds) (rs := rs) (r := r) (post := post) (fun _ _ _ e => by cases e) (.inl fun _ _ e => e) (by rw [hexk]; exact Nat.le_refl _)
    rw [hexk, hexp] at this
    exact ⟨this.1.1, this.2.1.1⟩
  have Nz : ∀ b cs, N.z b = some cs → M2.z b = some cs ∨ ∃ a κ oa, ρ.at (frzM a) = some a ∧ h2.get a = some oa ∧ oa.ro = false ∧ M2 a = some (b, κ) ∧ ∃ t fr, w'.heap[b]? = some (.cells cs t fr) := fun b cs e => by
    rw [← hN] at e
    unfold MR at e
    simp only at e
    split at e
    · rename_i cs' hz
      simp only [Option.some.injEq] at e; subst e
      exact .inl hz
    · split at e
      · rename_i hf
        obtain ⟨a, κ2, f1, f2⟩ := frzB_iff.1 hf
        obtain ⟨oa, f3, f4⟩ := okFz_at okf f1
        unfold cellsW at e
        split at e
        · rename_i cs' t fr hb
          simp only [Option.some.injEq] at e; subst e
          exact .inr ⟨a, κ2, oa, f1, f3, f4, f2, t, fr, hb⟩
        · cases e
      · cases e
  -- by which numbers blocks go behind the call
  let M' : Mp := ⟨fun id => if id < h.nx then M id else if id < h.nx + nb.length then N (bl.length + (id - h.nx)) else M id, if flat = true then M.z else N.z⟩
  have hNz : ∀ b cs, M.z b = some cs → N.z b = some cs := fun b cs e => by rw [← hN]; exact MR_zm (fo.zm b cs (zL_le e))
  have M'z : ∀ b cs, M'.z b = some cs → M.z b = some cs ∨ (flat = false ∧ N.z b = some cs) := fun b cs e => by
    have e : (if flat = true then M.z else N.z) b = some cs := e
    cases hf : flat with
    | true => rw [if_pos hf] at e; exact .inl e
    | false => rw [if_neg (by rw [hf]; simp)] at e; exact .inr ⟨rfl, e⟩
  have M'old : ∀ id, id < h.nx → M' id = M id := fun id hid => by show ite _ _ _ = _; rw [if_pos hid]
  have M'new : ∀ j, j < nb.length → M' (h.nx + j) = N (bl.length + j) := fun j hj => by
    show ite _ _ _ = _
    rw [if_neg (by omega), if_pos (by omega), Nat.add_sub_cancel_left]
  have shift := expR_shift (N := N) (N' := M') (L := nk.length) (x1 := fun j => bl.length + j) (x2 := fun j => h.nx + j) (ps := ptrSh ss ds) (rs := rs) (r := r) (post := post) (fun j p hj e => by rw [M'new j (by omega)]; exact e) (by
    cases hf : flat with
    | true => exact .inr (by rw [hflat, hf])
    | false => exact .inl fun b cs e => by show (if flat = true then M.z else N.z) b = some cs; rw [if_neg (by rw [hf]; simp)]; exact e) (by rw [hexk]; exact Nat.le_refl _)
  rw [hexk, hexp] at shift
  obtain ⟨sh1, sh2, sh3⟩ := shift
  have le : Le M M' := ⟨fun id p e => by
    by_cases h1 : id < h.nx
    · rw [M'old id h1]; exact e
    · by_cases h2 : id < h.nx + nb.length
      · rw [fr id (by omega) (by rw [hsz]; exact h2)] at e; cases e
      · show ite _ _ _ = _
        rw [if_neg h1, if_neg h2]; exact e, fun b cs e => by
    show (if flat = true then M.z else N.z) b = some cs
    split
    · exact e
    · exact hNz b cs e⟩
  -- a block behind the call: new, or the function's, or as it was
  have old : ∀ x o, ¬ (h.nx ≤ x ∧ x < h.nx + nb.length) → x ∉ pids → (heapX h rem pids cs nb).get x = some o → h.get x = some o ∧ x ∉ rem ∧ x < h.nx := fun x o hn hp e => by
    by_cases hr : x ∈ rem
    · rw [g3 x hr hp] at e; cases e
    · rw [g4 x hn hp hr] at e
      exact ⟨e, hr, rr.wf x (by rw [e]; simp)⟩
  have clash : ∀ x b κ, (∃ o, h.get x = some o) → x ∉ pids → x ∉ rem → M x = some (b, κ) → ¬ OwnP (MofZ (zL M w L) bs) (heapOf bl) b := fun x b κ ⟨o, ho⟩ hp hr hM ho2 => by
    obtain ⟨i, a, id, o2, κ2, s1, s2, s3, s4, s5, s6⟩ := ownX q2 c8 ho2
    have := rr.inj id x b κ2 κ o2 s4 s5 (by rw [ho]; simp) s6 hM
    subst this
    exact hr (by rw [← hrm]; exact List.mem_append_left _ ((remX_mem).2 i a id s1 s3 s2 hp))
  have callee : ∀ x o, (heapX h rem pids cs nb).get x = some o → ((h.nx ≤ x ∧ x < h.nx + nb.length) ∨ x ∈ pids) → (o.Vac ∧ M' x = none) ∨ ∃ ia a' b κ ob, h2.get ia = some a' ∧ M2 ia = some (b, κ) ∧ M' x = some (b, κ) ∧ w'.heap[b]? = some ob ∧ ObR M' κ o ob ∧ a'.ro = false ∧
      ((∃ j, x = h.nx + j ∧ j < nb.length ∧ ρ.at (bl.length + j) = some ia) ∨ ∃ j, pids[j]? = some x ∧ cpid[j]? = some ia) := fun x o ho hx => by
    rcases hx with hx | hx
    · obtain ⟨j, rfl⟩ : ∃ j, x = h.nx + j := ⟨x - h.nx, by omega⟩
      have hj : j < nb.length := by omega
      have hno := g1 j _ (List.getElem?_eq_getElem hj)
      rw [hno] at ho
      simp only [Option.some.injEq] at ho
      obtain ⟨a, ha⟩ : ∃ a, nk[j]? = some a := ⟨nk[j]'(by omega), by simp [hlen.1, hj]⟩
      obtain ⟨a2, ha2, sa1, sa2, sa3⟩ := sh1.2 j a ha
      rw [List.getElem?_eq_getElem hj, ho] at ha2
      simp only [Option.some.injEq] at ha2; subst ha2
      have hro : o.ro = false := allOwn_at c9 (by rw [List.getElem?_eq_getElem hj, ho])
      rcases found (bl.length + j) a (List.mem_append_right _ ((numR_mem).2 j a ha)) with ⟨_, f2, f3, _⟩ | ⟨ia, a', _, f2, f3, f4, f5, f6⟩
      · refine .inl ⟨sa2 f3, ?_⟩
        rw [M'new j hj, ← hN]
        unfold MR
        simp only
        rw [if_neg (by omega), if_neg (by omega), f2]
      · have f2 := f2 (by omega)
        have hNj : N (bl.length + j) = M2 ia := by rw [← hN]; unfold MR; simp only; rw [if_neg (by omega), if_neg (by omega), f2]
        rcases rel2.obj ia a' f3 with ⟨hv, hM⟩ | ⟨b, κ, ob, hM, hb, hob⟩
        · exact .inl ⟨sa2 (f5 hv), by rw [M'new j hj, hNj]; exact hM⟩
        · exact .inr ⟨ia, a', b, κ, ob, f3, hM, by rw [M'new j hj, hNj]; exact hM, hb, sa3 κ ob (by rw [← hN]; exact f6 κ ob hob), by rw [← f4, ← sa1]; exact hro, .inl ⟨j, rfl, hj, f2⟩⟩
    · obtain ⟨j, hj⟩ := List.mem_iff_getElem?.1 hx
      have hjl : j < pids.length := (List.getElem?_eq_some_iff.1 hj).1
      have hjc : j < cpid.length := by omega
      have hjs : j < cs.length := by omega
      have hz : (x, cs[j]) ∈ pids.zip cs := by
        rw [List.mem_iff_getElem?]
        exact ⟨j, by rw [List.getElem?_zip_eq_some]; exact ⟨hj, List.getElem?_eq_getElem hjs⟩⟩
      have ho2 := g2 x _ hz
      rw [ho2] at ho
      simp only [Option.some.injEq] at ho
      obtain ⟨a, ha⟩ : ∃ a, ck[j]? = some a := ⟨ck[j]'(by omega), by simp [hlen.2, hjs]⟩
      obtain ⟨a2, ha2, sa1, sa2, sa3⟩ := sh2.2 j a ha
      rw [List.getElem?_eq_getElem hjs, ho] at ha2
      simp only [Option.some.injEq] at ha2; subst ha2
      have hro := allOwn_at c10 (show cs[j]? = some o by rw [List.getElem?_eq_getElem hjs, ho])
      obtain ⟨l1, ⟨a0, l2, l3⟩, _⟩ := lk2 j _ x (List.getElem?_eq_getElem hjc) hj
      have hcl : cpid[j] < bl.length := (List.getElem?_eq_some_iff.1 l2).1
      obtain ⟨b0, i0, s1, s2, s3⟩ := q2.get l2
      rw [l1] at s2
      simp only [Option.some.injEq] at s2; subst s2
      have hz2 : (cpid[j], a) ∈ cpid.zip ck := by
        rw [List.mem_iff_getElem?]
        exact ⟨j, by rw [List.getElem?_zip_eq_some]; exact ⟨List.getElem?_eq_getElem hjc, ha⟩⟩
      rcases s3 with ⟨hb0, _, hv⟩ | ⟨b, κ, _, id, o3, κ3, rfl, _, _, hid, _, s6, s7⟩ | ⟨_, _, _, _, _, _, hid, _⟩
      · have hM2 : M2 cpid[j] = none := by rw [kp _ hcl]; unfold MofZ Mof; simp only [s1, hb0]
        rcases found cpid[j] a (List.mem_append_left _ hz2) with ⟨f1, _⟩ | ⟨ia, a', f1, _, f3, _, f5, _⟩
        · exact absurd hcl f1
        · have := f1 hcl
          subst this
          rcases rel2.obj _ a' f3 with ⟨hv2, _⟩ | ⟨b', κ', ob, hM, _⟩
          · exact .inl ⟨sa2 (f5 hv2), by rw [M'old x (hpid x hx)]; exact hv l3 x rfl⟩
          · rw [hM2] at hM; cases hM
      rotate_left
      · cases hid
      · simp only [Option.some.injEq] at hid; subst hid
        obtain ⟨_, rfl⟩ := s7 l3
        have hM2 : M2 cpid[j] = some (b, κ3) := by rw [kp _ hcl]; unfold MofZ Mof; simp only [s1]
        rcases found cpid[j] a (List.mem_append_left _ hz2) with ⟨f1, _⟩ | ⟨ia, a', f1, _, f3, f4, f5, f6⟩
        · exact absurd hcl f1
        · have := f1 hcl
          subst this
          rcases rel2.obj _ a' f3 with ⟨_, hM⟩ | ⟨b', κ', ob, hM, hb, hob⟩
          · rw [hM2] at hM; cases hM
          · rw [hM2] at hM
            simp only [Option.some.injEq, Prod.mk.injEq] at hM
            obtain ⟨rfl, rfl⟩ := hM
            exact .inr ⟨_, a', b, κ3, ob, f3, hM2, by rw [M'old x (hpid x hx)]; exact s6, hb, sa3 κ3 ob (by rw [← hN]; exact f6 κ3 ob hob), by rw [← f4, ← sa1]; exact hro, .inr ⟨j, hj, List.getElem?_eq_getElem hjc⟩⟩
  have split3 : ∀ x, ((h.nx ≤ x ∧ x < h.nx + nb.length) ∨ x ∈ pids) ∨ (¬ (h.nx ≤ x ∧ x < h.nx + nb.length) ∧ x ∉ pids) := fun x => by
    by_cases h1 : h.nx ≤ x ∧ x < h.nx + nb.length
    · exact .inl (.inl h1)
    · by_cases h2 : x ∈ pids
      · exact .inl (.inr h2)
      · exact .inr ⟨h1, h2⟩
  have apart : ∀ x y ia a' b κ κ' o, h2.get ia = some a' → a'.ro = false → M2 ia = some (b, κ) → h.get y = some o → y ∉ pids → y ∉ rem → M y = some (b, κ') → x = y := fun x y ia a' b κ κ' o r1 r2 r3 r4 r5 r6 r7 => by
    exfalso
    rcases fo.own b ⟨ia, κ, a', r1, r2, r3⟩ with q | q
    · exact clash y b κ' ⟨o, r4⟩ r5 r6 r7 q
    · rcases rr.obj y o r4 with ⟨_, hM⟩ | ⟨b2, κ2, ob, hM, hb, _⟩
      · rw [hM] at r7; cases r7
      · rw [hM] at r7
        simp only [Option.some.injEq, Prod.mk.injEq] at r7
        obtain ⟨rfl, _⟩ := r7
        have := heap_lt hb; omega
  have rel' : Rel M' (heapX h rem pids cs nb) w' := by
    refine ⟨fun x o ho => ?_, fun x y b κ κ' o hx hr hy ex ey => ?_, fun x hx => ?_, rel2.gw, fun x b κ o hx hro ex => ?_, fun b cs e => ?_, fun x b κ o hx hr ex => ?_⟩
    · rcases split3 x with hx | ⟨hx1, hx2⟩
      · rcases callee x o ho hx with hv | ⟨ia, a', b, κ, ob, _, _, r1, r2, r3, _⟩
        · exact .inl hv
        · exact .inr ⟨b, κ, ob, r1, r2, r3⟩
      · obtain ⟨o1, o2, o3⟩ := old x o hx1 hx2 ho
        rcases rr.obj x o o1 with ⟨hv, hM⟩ | ⟨b, κ, ob, hM, hb, hob⟩
        · exact .inl ⟨hv, by rw [M'old x o3]; exact hM⟩
        · exact .inr ⟨b, κ, ob, by rw [M'old x o3]; exact hM, by rw [fo.keep b (heap_lt hb) (clash x b κ ⟨o, o1⟩ hx2 o2 hM)]; exact hb, ObR.mono le _ _ hob⟩
    · cases hyy : (heapX h rem pids cs nb).get y with
      | none => exact absurd hyy hy
      | some oy =>
        rcases split3 x with hx' | ⟨hx1, hx2⟩
        · rcases callee x o hx hx' with ⟨_, hv⟩ | ⟨ia, a', b1, κ1, _, r1, r2, r3, _, _, r4, r5⟩
          · rw [hv] at ex; cases ex
          · rw [r3] at ex
            simp only [Option.some.injEq, Prod.mk.injEq] at ex
            obtain ⟨rfl, rfl⟩ := ex
            rcases split3 y with hy' | ⟨hy1, hy2⟩
            · rcases callee y oy hyy hy' with ⟨_, hv⟩ | ⟨ja, b', b2, κ2, _, u1, u2, u3, _, _, u4, u5⟩
              · rw [hv] at ey; cases ey
              · rw [u3] at ey
                simp only [Option.some.injEq, Prod.mk.injEq] at ey
                obtain ⟨rfl, rfl⟩ := ey
                have := rel2.inj ia ja b2 κ1 κ2 a' r1 r4 (by rw [u1]; simp) r2 u2
                subst this
                have mix : ∀ j j' z, ρ.at (bl.length + j) = some ia → pids[j']? = some z → cpid[j']? = some ia → False := fun j j' z e1 e2 e3 => by
                  obtain ⟨_, ⟨_, l2, _⟩, _⟩ := lk2 j' ia z e3 e2
                  have hlt := (List.getElem?_eq_some_iff.1 l2).1
                  rcases (okR_at okr e1).1 with q | q
                  · omega
                  · exact delX_mem ia q (List.mem_of_getElem? e3)
                rcases r5 with ⟨j, rfl, _, e1⟩ | ⟨j, e1, e2⟩ <;> rcases u5 with ⟨j', rfl, _, e1'⟩ | ⟨j', e1', e2'⟩
                · have := okR_inj okr e1 e1'; omega
                · exact (mix j j' y e1 e1' e2').elim
                · exact (mix j' j x e1' e1 e2).elim
                · have l1 := (lk2 j ia x e2 e1).1
                  have l2 := (lk2 j' ia y e2' e1').1
                  rw [l1] at l2
                  simpa using l2
            · obtain ⟨o1, o2, o3⟩ := old y oy hy1 hy2 hyy
              rw [M'old y o3] at ey
              exact apart x y ia a' b1 κ1 κ' oy r1 r4 r2 o1 hy2 o2 ey
        · obtain ⟨o1, o2, o3⟩ := old x o hx1 hx2 hx
          rw [M'old x o3] at ex
          rcases split3 y with hy' | ⟨hy1, hy2⟩
          · rcases callee y oy hyy hy' with ⟨_, hv⟩ | ⟨ja, b', b2, κ2, _, u1, u2, u3, _, _, u4, _⟩
            · rw [hv] at ey; cases ey
            · rw [u3] at ey
              simp only [Option.some.injEq, Prod.mk.injEq] at ey
              obtain ⟨rfl, rfl⟩ := ey
              exact (apart y x ja b' b2 κ2 κ o u1 u4 u2 o1 hx2 o2 ex).symm
          · obtain ⟨p1, p2, p3⟩ := old y oy hy1 hy2 hyy
            rw [M'old y p3] at ey
            exact rr.inj x y b κ κ' o o1 hr (by rw [p1]; simp) ex ey
    · rcases hab.dom x hx with q | ⟨_, q⟩
      · have := rr.wf x q
        show x < h.nx + nb.length
        omega
      · exact q
    · rcases split3 x with hx' | ⟨hx1, hx2⟩
      · rcases callee x o hx hx' with ⟨_, hv⟩ | ⟨ia, a', b1, κ1, _, r1, r2, r3, _, _, r6, _⟩
        · rw [hv] at ex; cases ex
        · rw [r3] at ex
          simp only [Option.some.injEq, Prod.mk.injEq] at ex
          obtain ⟨rfl, rfl⟩ := ex
          exact rel2.gf ia b1 κ1 a' r1 r6 r2
      · obtain ⟨o1, o2, o3⟩ := old x o hx1 hx2 hx
        rw [M'old x o3] at ex
        exact rr.gf x b κ o o1 hro ex
    · rcases M'z b cs e with e | ⟨_, e⟩
      · exact rel2.fz b cs (fo.zm b cs (zL_le e))
      · rcases Nz b cs e with e | ⟨a, κ, oa, f1, f2, f3, f4, f5⟩
        · exact rel2.fz b cs e
        · obtain ⟨t, fr, f6⟩ := f5
          exact ⟨t, fr, f6⟩
    · cases hz : M'.z b with
      | none => rfl
      | some cs =>
        exfalso
        rcases split3 x with hx' | ⟨hx1, hx2⟩
        · rcases callee x o hx hx' with ⟨_, hv⟩ | ⟨ia, a', b1, κ1, _, r1, r2, r3, _, _, r4, r5⟩
          · rw [hv] at ex; cases ex
          · rw [r3] at ex
            simp only [Option.some.injEq, Prod.mk.injEq] at ex
            obtain ⟨rfl, rfl⟩ := ex
            have hn := rel2.fo ia b1 κ1 a' r1 r4 r2
            rcases M'z b1 cs hz with e | ⟨_, e⟩
            · have e2 : M2.z b1 = some cs := fo.zm b1 cs (zL_le e)
              rw [e2] at hn; cases hn
            · rcases Nz b1 cs e with e | ⟨a, κ2, oa, f1, f2, f3, f4, _⟩
              · rw [e] at hn; cases hn
              · have hij := rel2.inj a ia b1 κ2 κ1 oa f2 f3 (by rw [r1]; simp) f4 r2
                subst hij
                have h32 : 4294967296 ≤ frzM a := Nat.le_add_right _ _
                rcases r5 with ⟨j, rfl, hj, e1⟩ | ⟨j, e1, e2⟩
                · have := okR_inj okr e1 f1; omega
                · obtain ⟨_, ⟨_, l2, _⟩, _⟩ := lk2 j a x e2 e1
                  have hlt := (List.getElem?_eq_some_iff.1 l2).1
                  rcases (okR_at okr f1).1 with q | q
                  · omega
                  · exact delX_mem a q (List.mem_of_getElem? e2)
        · obtain ⟨o1, o2, o3⟩ := old x o hx1 hx2 hx
          rw [M'old x o3] at ex
          have hn := rr.fo x b κ o o1 hr ex
          have hsz9 : b < w.heap.size := by
            rcases rr.obj x o o1 with ⟨_, hM⟩ | ⟨b2, κ2, ob, hM, hb, _⟩
            · rw [hM] at ex; cases ex
            · rw [hM] at ex
              simp only [Option.some.injEq, Prod.mk.injEq] at ex
              obtain ⟨rfl, _⟩ := ex
              exact heap_lt hb
          have hcl := clash x b κ ⟨o, o1⟩ hx2 o2 ex
          rcases M'z b cs hz with e | ⟨hf, e⟩
          · rw [e] at hn; cases hn
          · have lent : ∀ cs, zL M w L b = some cs → False := fun cs e => by
              rcases zL_inv e with e | ⟨id, κ2, t, fr, f1, f2, _⟩
              · rw [e] at hn; cases hn
              · obtain ⟨⟨o4, f4, f5⟩, _⟩ := okLend_at c11 id f1
                have := rr.inj id x b κ2 κ o4 f4 f5 (by rw [o1]; simp) f2 ex
                subst this
                exact o2 (by rw [← hrm, ← hLR, hf]; exact List.mem_append_right _ f1)
            rcases Nz b cs e with e | ⟨a, κ2, oa, f1, f2, f3, f4, _⟩
            · rcases fo.zx b cs e with e | e | e
              · exact lent cs e
              · exact hcl e
              · omega
            · rcases fo.own b ⟨a, κ2, oa, f2, f3, f4⟩ with e | e
              · exact hcl e
              · omega
  refine k M' u w' (sh3 u rvN) rel' ⟨fo.os, fo.tape, fo.output, fo.size, le, fun id hne => ?_, fun b hb hno => fo.keep b hb (fun ho => ?_), fun x b κ o hx ex => ?_, fun b cs e => ?_⟩ hab
  · by_cases h1 : id < h.nx
    · exact absurd (M'old id h1) hne
    · by_cases h2 : id < h.nx + nb.length
      · exact ⟨by omega, h2⟩
      · exact absurd (show ite _ _ _ = _ by rw [if_neg h1, if_neg h2]) hne
  · obtain ⟨i, a, id, o2, κ2, _, _, _, s4, s5, s6⟩ := ownX q2 c8 ho
    exact hno id κ2 o2 s4 s5 s6
  · rcases split3 x with hx' | ⟨hx1, hx2⟩
    · rcases callee x o hx hx' with ⟨_, hv⟩ | ⟨ia, a', b1, κ1, _, r1, r2, r3, _, _, r4, _⟩
      · rw [hv] at ex; cases ex
      · rw [r3] at ex
        simp only [Option.some.injEq, Prod.mk.injEq] at ex
        obtain ⟨rfl, rfl⟩ := ex
        rcases fo.own b1 ⟨ia, κ1, a', r1, r4, r2⟩ with q | q
        · obtain ⟨i, a, id, o2, κ2, _, _, _, s4, s5, s6⟩ := ownX q2 c8 q
          exact .inr ⟨id, κ2, o2, s4, s6, fun _ => s5⟩
        · exact .inl q
    · obtain ⟨o1, o2, o3⟩ := old x o hx1 hx2 hx
      rw [M'old x o3] at ex
      exact .inr ⟨x, κ, o, o1, ex, fun e => e⟩
  · have own9 : OwnP (MofZ (zL M w L) bs) (heapOf bl) b → M.z b = some cs ∨ w.heap.size ≤ b ∨ ∃ i κ o, h.get i = some o ∧ o.ro = false ∧ M i = some (b, κ) := fun q => by
      obtain ⟨i, a, id, o2, κ2, _, _, _, s4, s5, s6⟩ := ownX q2 c8 q
      exact .inr (.inr ⟨id, κ2, o2, s4, s5, s6⟩)
    rcases M'z b cs e with e | ⟨_, e⟩
    · exact .inl e
    · rcases Nz b cs e with e | ⟨a, κ2, oa, f1, f2, f3, f4, _⟩
      · rcases fo.zx b cs e with e | e | e
        · rcases zL_inv e with e | ⟨id, κ3, t, fr, f1, f2, _⟩
          · exact .inl e
          · obtain ⟨⟨o4, f4, f5⟩, _⟩ := okLend_at c11 id f1
            exact .inr (.inr ⟨id, κ3, o4, f4, f5, f2⟩)
        · exact own9 e
        · exact .inr (.inl e)
      · rcases fo.own b ⟨a, κ2, oa, f2, f3, f4⟩ with e | e
        · exact own9 e
        · exact .inr (.inl e)
end
end Go.Proofs.YtlfehgagnelbhaaGreatDoor.Ex
