/- Walks by symbols: the conditions of a walk, and that a walk that meets them goes as it says. -/
import Derived.Test.YtiikiphkhfmlcaaGreatDoorWd
noncomputable section
namespace Go.Proofs.YtiikiphkhfmlcaaGreatDoor.Ex
open Go

/-- What a piece of code leaves as it is. -/
structure Frm (c : Code) (s s' : St) : Prop where
  tm : ∀ t, t ∉ wrC c → frzM t ∉ s'.h.wl → s'.tm.get (t + 1) = s.tm.get (t + 1)
  nx : s.h.nx ≤ s'.h.nx
  bs : s'.h.bs = s.h.bs
  wl : ∀ x, x ∈ s.h.wl → x ∈ s'.h.wl
  log : ∀ x, x < s.h.bs → x < s.h.nx → x ∉ s'.h.wl → s'.h.get x = s.h.get x
  sz : s'.sz = s.sz
  rd : s'.rd = s.rd
theorem Frm.trans {a b c : Code} {s s1 s2 : St} (h : Frm a s s1) (k : Frm b s1 s2) (hc : ∀ t, t ∉ wrC c → t ∉ wrC a ∧ t ∉ wrC b) : Frm c s s2 :=
  ⟨fun t ht hf => (k.tm t (hc t ht).2 hf).trans (h.tm t (hc t ht).1 (fun q => hf (k.wl _ q))), Nat.le_trans h.nx k.nx, k.bs.trans h.bs, fun x hx => k.wl x (h.wl x hx), fun x h1 h2 h3 => (k.log x (by rw [h.bs]; exact h1) (Nat.lt_of_lt_of_le h2 h.nx) h3).trans (h.log x h1 h2 (fun e => h3 (k.wl x e))), k.sz.trans h.sz, k.rd.trans h.rd⟩
theorem Frm.code {a b : Code} {s s1 : St} (h : Frm a s s1) (hc : ∀ t, t ∉ wrC b → t ∉ wrC a) : Frm b s s1 := ⟨fun t ht hf => h.tm t (hc t ht) hf, h.nx, h.bs, h.wl, h.log, h.sz, h.rd⟩

def eqNs : List Nat → List Nat → Bool
  | [], [] => true
  | a :: l, b :: k => Nat.beq a b && eqNs l k
  | _, _ => false
theorem eqNs_ok : ∀ {a b : List Nat}, eqNs a b = true → a = b
  | [], [], _ => rfl
  | a :: l, b :: k, h => by
    simp only [eqNs, Bool.and_eq_true] at h
    rw [beqN h.1, eqNs_ok h.2]
  | [], _ :: _, h => by cases h
  | _ :: _, [], h => by cases h
/-- Behind a round. -/
def endOk (s : St) (A : LoopA) (s' : St) : Bool := s'.h.wl.all (fun x => memN x A.ids || memN x A.del || (Nat.ble 4294967296 x && memN (Nat.sub x 4294967296) A.tms)) && eqNs s'.df s.df && Nat.ble s.h.nx 4294967296
def lenOk (A : LoopA) (i : A.ι) : Bool := Nat.beq (A.hpU i).length A.ids.length && Nat.beq (A.tmU i).length A.tms.length
def nl : Code → Nat
  | .seq a b => nl a + nl b
  | .cond _ a b => nl a + nl b
  | .block _ c => nl c
  | .loop c => nl c + 1
  | .scope c => nl c
  | .rangeFunc .. => 1
  | _ => 0
def filtLt (n : Nat) : List Nat → List Nat
  | [] => []
  | x :: l => bif Nat.blt x n then x :: filtLt n l else filtLt n l
/-- The temporaries that are told of otherwise, though nothing was written there (lists that were frozen). -/
def filtGe : List Nat → List Nat
  | [] => []
  | x :: l => bif Nat.ble 4294967296 x then x :: filtGe l else filtGe l
def logT (W : List Nat) : List Nat → List Nat
  | [] => []
  | x :: l => bif memN x W then logT W l else frzM x :: logT W l
theorem filtGe_mem {x : Nat} : ∀ {l : List Nat}, x ∈ l → 4294967296 ≤ x → x ∈ filtGe l
  | [], h, _ => by simp at h
  | y :: l, h, hn => by
    simp only [filtGe, nble, Bool.cond_decide]
    rcases List.mem_cons.1 h with rfl | h
    · rw [if_pos hn]; simp
    · split
      · exact List.mem_cons_of_mem _ (filtGe_mem h hn)
      · exact filtGe_mem h hn
theorem logT_mem {W : List Nat} {x : Nat} : ∀ {l : List Nat}, x ∈ l → x ∉ W → frzM x ∈ logT W l
  | [], h, _ => by simp at h
  | y :: l, h, hn => by
    simp only [logT, Bool.cond_eq_ite]
    rcases List.mem_cons.1 h with rfl | h
    · rw [if_neg (by rw [memN_iff]; exact hn)]; simp
    · split
      · exact logT_mem h hn
      · exact List.mem_cons_of_mem _ (logT_mem h hn)
/-- The state behind a loop, seen from ahead of it. -/
def backS (s : St) (W : List Nat) (A : LoopA) (s' : St) : St := { s' with h := ⟨s'.h.t, s'.h.nx, s.h.bs, filtLt s.h.bs (A.ids ++ A.del ++ s'.h.wl) ++ (logT W A.tms ++ filtGe s'.h.wl) ++ s.h.wl⟩ }
def loopW (wxc : St → (AX → St → Prop) → Prop) : Nat → St → (AX → St → Prop) → Prop
  | 0, _, _ => False
  | m + 1, s, K => wxc s (fun e s' => match e with | .nm => loopW wxc m s' K | e => K e s')
/-- A range over a function, as it begins and as it ends. -/
def rangeIn (g : Operand) (ps : Array Tmp) (asg bo : Code) (s : St) : Option (FuncId × List AV × Nat × List Nat × AH) :=
  match evT s.tm g with
  | .fn gf caps => match s.rd with
    | none => match s.h.new (.dfr true) with
      | some h => match h.new (.loop .ready none s.tm s.sz ps asg bo s.h.nx) with
        | some h1 => some (gf, .yl h.nx :: caps, h.nx, s.h.nx :: s.df, h1)
        | none => none
      | none => none
    | some _ => none
  | _ => none
def busyB : LoopState → Bool
  | .busy => true
  | _ => false
def outR (s : St) : Option Code → Option (AX × St)
  | none => some (.nm, s)
  | some .ret => some (.rt, s)
  | some (.exit id) => some (.ex id, s)
  | some _ => none
def rangeOut (s : St) (df : List Nat) (l : Nat) (h2 : AH) : Option (AX × St) :=
  match h2.get l with
  | some (.loop st pe tm sz ps asg bo D) => match h2.put l (some (.loop .exhausted pe tm sz ps asg bo D)) with
    | some h3 => bif busyB st then none else outR { s with df := df, h := h3 } pe
    | none => none
  | _ => none
def wx (P : Program) (sm : FuncId → Option Sm) (ann : Nat → Option (St → LoopA)) : Nat → Code → Nat → St → (AX → St → Prop) → Prop
  | 0, _, _, _, _ => False
  | n + 1, c, b, s, K => match c with
    | .seq x y => wx P sm ann n x b s (fun e s' => match e with | .nm => wx P sm ann n y (b + nl x) s' K | e => K e s')
    | .block id x => wx P sm ann n x b s (fun e s' => match e with | .ex j => bif Nat.beq j id then K .nm s' else K (.ex j) s' | e => K e s')
    | .scope x => wx P sm ann n x b s K
    | .cond t x y => match evT s.tm t with
      | .b q => bif q then wx P sm ann n x b s K else wx P sm ann n y (b + nl x) s K
      | .yb q => (q = true → wx P sm ann n x b s K) ∧ (q = false → wx P sm ann n y (b + nl x) s K)
      | _ => False
    | .loop x => match ann b with
      | none => loopW (wx P sm ann n x (b + 1)) n s K
      | some A0 => okA s (wrC x) (A0 s) = true ∧ (∃ i0, (A0 s).pre i0 ∧ lenOk (A0 s) i0 = true ∧ matchS s.h.nx (s.h.nx + (A0 s).ex) (A0 s).del (tlA (A0 s) i0) (hlA (A0 s) i0) s) ∧
          ∀ (g : Nat → AV) (i : (A0 s).ι), (A0 s).pre i → wx P sm ann n x (b + 1) (headS s (wrC x) (A0 s) g i) (fun e s' => match e with
            | .nm => endOk s (A0 s) s' = true ∧ ∃ i', (A0 s).pre i' ∧ (A0 s).ms i' < (A0 s).ms i ∧ lenOk (A0 s) i' = true ∧ matchS s.h.nx (s.h.nx + (A0 s).ex) (A0 s).del (tlA (A0 s) i') (hlA (A0 s) i') s'
            | e => K e (backS s (wrC x) (A0 s) s'))
    | .rangeFunc g ps asg bo => match ann (b + 1000) with
      | none => (execT P sm n (.rangeFunc g ps asg bo) s).all fun p => K p.1 p.2
      | some _ => match rangeIn g ps asg bo s with
        | some (gf, args, l, df, h1) => match P.funcs[gf]? with
          | some fn => bif okFn fn then match fn.body with
            | some cb => match initT .lf 0 args with
              | some tm => wx P sm ann n cb (b + 1000) ⟨tm, max fn.ntmps args.length, [], none, h1⟩ (fun x s' => match finA P fn x s' with
                | some (_, h2) => match rangeOut s df l h2 with | some (x', s'') => K x' s'' | none => False
                | none => False)
              | none => False
            | none => False
            else False
          | none => False
        | none => False
    | c => (execT P sm n c s).all fun p => K p.1 p.2

section
variable {P : Program}

/-- A state found again is the state at the head. -/
theorem found_head {s s' : St} {W : List Nat} {A : LoopA} {i : A.ι} (ok : okA s W A = true) (hm : matchS s.h.nx (s.h.nx + A.ex) A.del (tlA A i) (hlA A i) s')
    (htm : ∀ t, t ∉ W → (∀ v, (t, v) ∉ tlA A i) → s'.tm.get (t + 1) = s.tm.get (t + 1)) (hh : ∀ id, id < s.h.nx → (∀ c, (id, c) ∉ hlA A i) → id ∉ A.del → s'.h.get id = s.h.get id) (hsz : s'.sz = s.sz) (hdf : s'.df = s.df) (hrd : s'.rd = s.rd)
    {Me : Mp} {ae : Act} {we : World} {re : Option Nat} (se : StR Me s ae we) (rde : RdR Me s.rd re) (fe : FreshA Me s.h.nx) :
    ∀ (M : Mp) (a : Act) (w : World), StR M s' a w → FreshA M s'.h.nx → ∃ g M1, StR M1 (headS s W A g i) a w ∧ FreshA M1 (headS s W A g i).h.nx ∧ (∀ r, RdR M s'.rd r → RdR M1 (headS s W A g i).rd r) ∧ Wid (OwnP M s'.h) (OwnP M1 (headS s W A g i).h) ∧ ∀ id, id < s.h.nx → M1 id = M id := by
  intro M a w st fr
  obtain ⟨ρ1, _, e1, t1⟩ := cmpTs_ok hm
  obtain ⟨ρ, h2, okr, t2⟩ := cmpHs_ok e1
  have t2 := t2 M w st.h
  simp only [Bool.and_eq_true] at okr
  obtain ⟨okr, okf⟩ := okr
  let g : Nat → AV := fun t => .o (a.tmps.getD t undef)
  have hids : ∀ id c, (id, c) ∈ hlA A i → id < s.h.nx + A.ex := fun id c hc => by
    have ok2 := ok
    simp only [okA, Bool.and_eq_true] at ok2
    exact allLt_ok ok2.2 _ (zip_mem (v := c) hc)
  have hap : ∀ id c, (id, c) ∈ hlA A i → id ∉ A.del := fun id c hc => by
    have ok2 := ok
    simp only [okA, Bool.and_eq_true] at ok2
    exact apartB_ok ok2.1.2 _ (zip_mem (v := c) hc)
  -- a block at the head, in s'
  have key : ∀ id o, (headS s W A g i).h.get id = some o → (MR s.h.nx ρ M (cellsW w) id = none ∧ o.Vac) ∨ ∃ ia a', (id < s.h.nx → ia = id) ∧ (¬ id < s.h.nx → ρ.at id = some ia ∧ id < 4294967296) ∧ s'.h.get ia = some a' ∧ o.ro = a'.ro ∧ (a'.Vac → o.Vac) ∧ ∀ κ ob, ObR M κ a' ob → ObR (MR s.h.nx ρ M (cellsW w)) κ o ob := by
    intro id o ho
    rcases head_get (g := g) (i := i) ok id with ⟨c, hc, e⟩ | ⟨_, _, e⟩ | ⟨hno, hd, e⟩
    · rw [ho] at e
      simp only [Option.some.injEq] at e; subst e
      rcases t2 id o hc with ⟨f1, f2, f3, _⟩ | f
      · exact .inl ⟨by unfold MR; simp only; rw [if_neg f1, f2]; simp, f3⟩
      · obtain ⟨ia, a', f1, f2, f3⟩ := f
        have ok2 := ok
        simp only [okA, Bool.and_eq_true] at ok2
        exact .inr ⟨ia, a', f1, fun e => ⟨f2 e, allLt_ok ok2.1.1.1.1.1.2 _ (zip_mem (v := o) hc)⟩, f3⟩
    · rw [ho] at e; cases e
    · rw [ho] at e
      have hlt : id < s.h.nx := se.h.wf id (by rw [← e]; simp)
      have hs' := hh id hlt hno hd
      rw [← e] at hs'
      refine .inr ⟨id, o, fun _ => rfl, fun h => absurd hlt h, hs', rfl, fun v => v, fun κ ob hob => ?_⟩
      rcases se.h.obj id o e.symm with ⟨hv, _⟩ | ⟨_, κ0, ob0, _, _, h0⟩
      · exact supp_O fe o (κ0 := 0) (ob0 := ob) (.inl hv) hob
      · exact supp_O fe o (.inr h0) hob
  have hMR : ∀ id ia, (id < s.h.nx → ia = id) → (¬ id < s.h.nx → ρ.at id = some ia ∧ id < 4294967296) → MR s.h.nx ρ M (cellsW w) id = M ia := fun id ia h1 h2 => by
    unfold MR
    simp only
    split
    · rename_i h; rw [h1 h]
    · rename_i h
      have hr := h2 h
      rw [if_neg (by omega), hr.1]
  refine ⟨g, MR s.h.nx ρ M (cellsW w), ⟨fun t => ?_, ?_, ?_, ?_⟩, ?_, ?_, ?_, fun id hid => MR_lt hid⟩
  · rcases head_tm (g := g) (i := i) ok t with ⟨v, hv, e⟩ | ⟨_, e⟩ | ⟨hW, hT, e⟩
    · rw [e]
      exact AV.R.mono (MR_le h2 M) _ _ (t1 M w st.h t v hv (a.tmps.getD t undef) (by rw [evT_tmp]; exact st.tm t))
    · rw [e]; rfl
    · rw [e]
      have := st.tm t
      rw [htm t hW hT] at this
      exact supp_R fe _ _ _ (se.tm t) this
  · rw [st.sz, hsz]; rfl
  · have := st.df
    rw [hdf] at this
    exact supp_Df fe _ _ _ se.df this
  · refine ⟨fun id o ho => ?_, fun x y b κ κ' o hx hr hy e1 e2 => ?_, fun x hx => ?_, st.h.gw, fun x b κ o hx hro hM => ?_, fun b cs hz => ?_, fun x b κ o hx hr hM => ?_⟩
    · rcases key id o ho with ⟨k1, k2⟩ | ⟨ia, a', k1, k2, k3, k4, k5, k6⟩
      · exact .inl ⟨k2, k1⟩
      · rcases st.h.obj ia a' k3 with ⟨hv, hM⟩ | ⟨b, κ, ob, hM, hb, hob⟩
        · exact .inl ⟨k5 hv, by rw [hMR id ia k1 k2]; exact hM⟩
        · exact .inr ⟨b, κ, ob, by rw [hMR id ia k1 k2]; exact hM, hb, k6 κ ob hob⟩
    · cases hyy : (headS s W A g i).h.get y with
      | none => exact absurd hyy hy
      | some oy =>
        rcases key x o hx with ⟨k1, _⟩ | ⟨ia, a', k1, k2, k3, k4, _, _⟩
        · rw [k1] at e1; cases e1
        · rcases key y oy hyy with ⟨l1, _⟩ | ⟨ja, b', l1, l2, l3, _, _, _⟩
          · rw [l1] at e2; cases e2
          · rw [hMR x ia k1 k2] at e1
            rw [hMR y ja l1 l2] at e2
            have hij := st.h.inj ia ja b κ κ' a' k3 (by rw [← k4]; exact hr) (by rw [l3]; simp) e1 e2
            subst hij
            have hnd : ∀ z oz, (headS s W A g i).h.get z = some oz → z < s.h.nx → z ∉ A.del := fun z oz hz _ => by
              rcases head_get (g := g) (i := i) ok z with ⟨c, hc, _⟩ | ⟨_, _, e⟩ | ⟨_, hd, _⟩
              · exact hap z c hc
              · rw [hz] at e; cases e
              · exact hd
            by_cases hx0 : x < s.h.nx <;> by_cases hy0 : y < s.h.nx
            · rw [← k1 hx0, l1 hy0]
            · have := okR_at okr (l2 hy0).1
              have hxi := k1 hx0
              rcases this.1 with q | q
              · omega
              · rw [hxi] at q; exact absurd q (hnd x o hx hx0)
            · have := okR_at okr (k2 hx0).1
              have hyi := l1 hy0
              rcases this.1 with q | q
              · omega
              · rw [hyi] at q; exact absurd q (hnd y oy hyy hy0)
            · exact okR_inj okr (k2 hx0).1 (l2 hy0).1
    · show x < s.h.nx + A.ex
      rcases head_get (g := g) (i := i) ok x with ⟨c, hc, _⟩ | ⟨_, _, e⟩ | ⟨_, _, e⟩
      · exact hids x c hc
      · exact absurd e hx
      · rw [e] at hx; have := se.h.wf x hx; omega
    · rcases key x o hx with ⟨k1, _⟩ | ⟨ia, a', k1, k2, k3, k4, _, _⟩
      · rw [k1] at hM; cases hM
      · rw [hMR x ia k1 k2] at hM
        exact st.h.gf ia b κ _ k3 (k4.symm.trans hro) hM
    · unfold MR at hz
      simp only at hz
      split at hz
      · rename_i cs' hz'
        simp only [Option.some.injEq] at hz; subst hz
        exact st.h.fz b _ hz'
      · split at hz
        · rename_i hf
          obtain ⟨a, κ2, f1, f2⟩ := frzB_iff.1 hf
          obtain ⟨oa, f3, f4⟩ := okFz_at okf f1
          unfold cellsW at hz
          split at hz
          · rename_i cs' e fr hb
            simp only [Option.some.injEq] at hz; subst hz
            exact ⟨e, fr, hb⟩
          · cases hz
        · cases hz
    · rcases key x o hx with ⟨k1, _⟩ | ⟨ia, a', k1, k2, k3, k4, _, _⟩
      · rw [k1] at hM; cases hM
      · rw [hMR x ia k1 k2] at hM
        have hz := st.h.fo ia b κ a' k3 (by rw [← k4]; exact hr) hM
        unfold MR
        simp only [hz]
        cases hf : frzB ρ M b with
        | false => rfl
        | true =>
          exfalso
          obtain ⟨a, κ2, f1, f2⟩ := frzB_iff.1 hf
          obtain ⟨oa, f3, f4⟩ := okFz_at okf f1
          have hij := st.h.inj a ia b κ2 κ oa f3 f4 (by rw [k3]; simp) f2 hM
          subst hij
          by_cases hx0 : x < s.h.nx
          · have hxi := k1 hx0
            rcases (okR_at okr f1).1 with q | q
            · omega
            · rw [hxi] at q
              rcases head_get (g := g) (i := i) ok x with ⟨c, hc, _⟩ | ⟨_, _, e⟩ | ⟨_, hd, _⟩
              · exact hap x c hc q
              · rw [hx] at e; cases e
              · exact hd q
          · have h3 := okR_inj okr (k2 hx0).1 f1
            have h4 := (k2 hx0).2
            rw [h3] at h4
            have h5 : 4294967296 ≤ frzM a := Nat.le_add_right _ _
            omega
  · intro id hid
    have hid : s.h.nx + A.ex ≤ id := hid
    unfold MR
    simp only
    rw [if_neg (by omega)]
    split
    · rfl
    · rename_i h32
      cases ha : ρ.at id with
      | none => rfl
      | some ia => have := (okR_at okr ha).2; omega
  · intro r hr
    rw [hrd] at hr
    exact supp_Rd fe rde hr
  · refine ⟨fun b ⟨id, κ, o, h1, h2, h3⟩ => ?_, fun b cs e => MR_zm (x0 := s.h.nx) e, fun b cs e => ?_⟩
    rcases key id o h1 with ⟨k1, _⟩ | ⟨ia, a', k1, k2, k3, k4, _, _⟩
    · rw [k1] at h3; cases h3
    · exact ⟨ia, κ, a', k3, by rw [← k4]; exact h2, by rw [← hMR id ia k1 k2]; exact h3⟩
    unfold OwnP MR at e
    simp only at e
    split at e
    · rename_i cs' hz
      simp only [Option.some.injEq] at e; subst e
      exact .inl hz
    · split at e
      · rename_i hf
        obtain ⟨a, κ2, f1, f2⟩ := frzB_iff.1 hf
        obtain ⟨oa, f3, f4⟩ := okFz_at okf f1
        exact .inr ⟨a, κ2, oa, f3, f4, f2⟩
      · cases e
end
end Go.Proofs.YtiikiphkhfmlcaaGreatDoor.Ex
