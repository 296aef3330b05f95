/- The abstract machine: what it computes is what the machine does. -/
import Derived.Test.YtiikiphkhfmlcaaGreatDoorExP
import Derived.LoopNIn
import Derived.Below
noncomputable section
namespace Go.Proofs.YtiikiphkhfmlcaaGreatDoor.Ex
open Go Go.RowKit

section
variable {P : Program} {rec : Rc}

theorem draw_ab (hG : Good P rec) {ops : Array Oper} {rr : Nat → DR} {S : Nat → St} (hS : ∀ j, j < ops.size → ∃ o v h1, Step P rec ops rr j (S j) (S (j + 1)) o v h1) :
    ∀ j, j ≤ ops.size → Ab (S 0).h (S j).h ∧ (S j).sz = (S 0).sz ∧ (S j).rd = (S 0).rd ∧ (∀ k, k < j → (rr k).hi ≤ (S j).h.nx ∧ ∀ x ∈ (rr k).wr, x < (S j).h.nx)
  | 0, _ => ⟨Ab.refl _, rfl, rfl, fun k hk => by omega⟩
  | j + 1, hj => by
    obtain ⟨b, bs, br, bf⟩ := draw_ab hG hS j (by omega)
    obtain ⟨o, v, h1, st⟩ := hS j (by omega)
    obtain ⟨p1, p2, p3, p4⟩ := putA_same st.put
    simp only at p1 p2 p3 p4
    have hun : ∀ r ∈ unA (rr j).pm (recsOf rr j), r.hi ≤ (S j).h.nx ∧ ∀ x ∈ r.wr, x < (S j).h.nx := fun r hr => by
      obtain ⟨k, hk, rfl⟩ := recsOf_mem.1 (List.mem_filter.1 hr).1
      exact bf k hk
    have ab : Ab (S j).h (S (j + 1)).h ∧ ∀ x ∈ (rr j).wr, x < (S j).h.nx := by
      rcases st.run with ⟨r1, r2, r3⟩ | ⟨r1, r2, r3, r4, r5, r6⟩
      · have := viewRun_ab hG r2 hun r3
        rw [← p1] at this
        exact ⟨this, (noneW_ok r3).1⟩
      · have e : (S (j + 1)).h = (S j).h := by rw [p1, r3]
        exact ⟨by rw [e]; exact Ab.refl _, by rw [r4]; simp⟩
    obtain ⟨ab, hwr⟩ := ab
    have hnx := ab.nx
    refine ⟨b.trans ab, by rw [p2, bs], by rw [p3, br], fun k hk => ?_⟩
    by_cases e : k = j
    · subst e
      exact ⟨by rw [st.hi, p1]; exact Nat.le_refl _, fun x hx => Nat.lt_of_lt_of_le (hwr x hx) hnx⟩
    · obtain ⟨q1, q2⟩ := bf k (by omega)
      exact ⟨Nat.le_trans q1 hnx, fun x hx => Nat.lt_of_lt_of_le (q2 x hx) hnx⟩

def lst (L : Array Bool) (k : Nat) : Bool := L.getD k false

theorem draw_any (hG : Good P rec) {ops : Array Oper} {rr : Nat → DR} {S : Nat → St} {M0 : Mp} {w0 : World} {r : Option Nat} {Q : Exit → Act → World → Prop} (F : Facts P rec ops rr S) (hF0 : Fresh M0 (S 0).h (S ops.size).h)
    (hQ : ∀ M a w, Inv ops.size rr S M0 w0 (fun _ => true) M a w → Q .normal a w) :
    ∀ (fuel : Nat) (L : Array Bool) (M : Mp) (a : Act) (w : World), L.size = ops.size → (List.range ops.size).countP (fun k => !lst L k) ≤ fuel → Inv ops.size rr S M0 w0 (lst L) M a w → wpAnyIn (FW r) 0 P .any ops Q fuel L a w := by
  have hgd : ∀ (L : Array Bool) (k : Nat), L.size = ops.size → k < ops.size → L.getD k true = lst L k := fun L k hL hk => by
    unfold lst
    simp [Array.getD_eq_getD_getElem?, hL, hk]
  have hcg : ∀ {D D' : Nat → Bool} {M a w}, (∀ k, k < ops.size → D' k = D k) → Inv ops.size rr S M0 w0 D M a w → Inv ops.size rr S M0 w0 D' M a w := fun {D D' M a w} hD I => by
    have hc : ∀ {β : Type} (T : Nat → Bool) (val : Nat → β) (n : Nat), n ≤ ops.size → cur D' T val n = cur D T val n := fun T val n => by
      induction n with
      | zero => intro _; rfl
      | succ n ih => intro hn; simp only [cur, ih (by omega), hD n (by omega)]
    refine ⟨fun t => ?_, I.sz, I.df, fun x o hx => ?_, fun x y b κ κ' o hx hr hy => ?_, fun x hx => ?_, I.os, I.tape, I.output, I.size, I.ext, I.keep, fun x b κ o' hx => ?_, fun j hj hDj k hk => ?_, I.gw, fun x b κ o hx => ?_, I.fz, fun x b κ o hx => ?_, I.zx⟩
    · rw [hc _ _ _ (Nat.le_refl _)]; exact I.tm t
    · rw [hc _ _ _ (Nat.le_refl _)] at hx; exact I.obj x o hx
    · rw [hc _ _ _ (Nat.le_refl _)] at hx hy; exact I.inj x y b κ κ' o hx hr hy
    · obtain ⟨j, q1, q2, q3⟩ := I.fresh x hx
      exact ⟨j, q1, by rw [hD j q1]; exact q2, q3⟩
    · rw [hc _ _ _ (Nat.le_refl _)] at hx; exact I.range x b κ o' hx
    · rw [hD j hj] at hDj
      have hk2 := I.closed j hj hDj k hk
      have hkj : k < ops.size := by
        obtain ⟨o, v, d⟩ := F.dig j hj
        obtain ⟨h1, st, _⟩ := d.st
        have : ∀ (n m : Nat), n ≤ ops.size → (∀ i, i < n → ∀ q, Nat.testBit (rr i).pm q = true → q < ops.size) := fun n m => by
          induction n with
          | zero => intro _ i hi; omega
          | succ n ih =>
            intro hn i hi q hq
            by_cases e : i = n
            · subst e
              obtain ⟨o2, v2, d2⟩ := F.dig i (by omega)
              obtain ⟨h2, st2, _⟩ := d2.st
              obtain ⟨e2, _, _, hh⟩ := (predsA_ok st2.pm).2 q hq
              rcases hh with hh | ⟨r2, hr2, e3, e4⟩
              · rename_i he2 hb2
                obtain ⟨r3, hr3, e5, _⟩ := (predsA_ok st2.pm).1 e2 he2 hb2
                obtain ⟨k3, hk3, rfl⟩ := recsOf_mem.1 hr3
                rw [(F.rcd k3 (by omega)).1] at e5
                omega
              · obtain ⟨k3, hk3, rfl⟩ := recsOf_mem.1 hr2
                exact ih (by omega) k3 hk3 q e4
            · exact ih (by omega) i (by omega) q hq
        exact this ops.size 0 (Nat.le_refl _) j hj k hk
      rw [hD k hkj]; exact hk2
    · rw [hc _ _ _ (Nat.le_refl _)] at hx; exact I.gf x b κ o hx
    · rw [hc _ _ _ (Nat.le_refl _)] at hx; exact I.fo x b κ o hx
  have hall : ∀ (L : Array Bool), L.size = ops.size → Region.ready .any ops L = [] → ∀ i, i < ops.size → lst L i = true := fun L hL hr i => by
    induction i using Nat.strongRecOn with
    | _ i ih =>
      intro hi
      cases hl : lst L i with
      | true => rfl
      | false =>
        exfalso
        obtain ⟨o, v, d⟩ := F.dig i hi
        obtain ⟨h1, st, _⟩ := d.st
        have hm : i ∈ Region.ready .any ops L := by
          rw [mem_ready]
          refine ⟨by rw [hgd L i hL hi]; exact hl, o, st.op, fun e he hb => ?_⟩
          obtain ⟨r3, hr3, e5, _⟩ := (predsA_ok st.pm).1 e (by simpa using he) hb
          obtain ⟨k3, hk3, rfl⟩ := recsOf_mem.1 hr3
          rw [(F.rcd k3 (by omega)).1] at e5
          have := ih e.on (by omega) (by omega)
          exact this
        rw [hr] at hm; cases hm
  intro fuel
  induction fuel with
  | zero =>
    intro L M a w hL hc I
    have hall2 : ∀ i, i < ops.size → lst L i = true := fun i hi => by
      have := List.countP_eq_zero.1 (Nat.le_zero.1 hc) i (List.mem_range.2 hi)
      simpa using this
    refine ⟨?_, hQ M a w (hcg (fun k hk => (hall2 k hk).symm) I)⟩
    apply List.eq_nil_iff_forall_not_mem.2
    intro i hm
    obtain ⟨h1, o, h2, _⟩ := mem_ready.1 hm
    have hi := (Array.getElem?_eq_some_iff.1 h2).1
    rw [hgd L i hL hi, hall2 i hi] at h1; cases h1
  | succ fuel ih =>
    intro L M a w hL hc I
    refine ⟨fun hr => hQ M a w (hcg (fun k hk => (hall L hL hr k hk).symm) I), fun i hm => ?_⟩
    obtain ⟨h1, o, h2, h3⟩ := mem_ready.1 hm
    have hi := (Array.getElem?_eq_some_iff.1 h2).1
    rw [hgd L i hL hi] at h1
    obtain ⟨o2, v, d⟩ := F.dig i hi
    obtain ⟨hh1, st, _⟩ := d.st
    have ho : o2 = o := by have := st.op; rw [h2] at this; simpa using this.symm
    subst ho
    have hpre : ∀ k, Nat.testBit (rr i).pm k = true → lst L k = true := fun k hk => by
      obtain ⟨e, he, hb, hh⟩ := (predsA_ok st.pm).2 k hk
      have hon := h3 e (by simpa using he) hb
      rcases hh with hh | ⟨r2, hr2, e3, e4⟩
      · rw [← hh]; exact hon
      · obtain ⟨k3, hk3, rfl⟩ := recsOf_mem.1 hr2
        rw [(F.rcd k3 (by omega)).1] at e3
        subst e3
        exact I.closed e.on (by omega) hon k e4
    have hset : ∀ k, lst (L.setIfInBounds i true) k = if k = i then true else lst L k := fun k => by
      unfold lst
      by_cases e : k = i
      · subst e
        have : k < L.size := by omega
        simp [Array.getD_eq_getD_getElem?, this]
      · simp [Array.getD_eq_getD_getElem?, Array.getElem?_setIfInBounds_ne (Ne.symm e), e]
    refine inv_step hG F I hF0 hi h1 hpre (D' := lst (L.setIfInBounds i true)) (fun k hk => by rw [hset, if_neg hk]) (by rw [hset, if_pos rfl]) (fun M' a' w' I' => ih _ M' a' w' (by simpa using hL) ?_ I')
    have hlt : (List.range ops.size).countP (fun k => !lst (L.setIfInBounds i true) k) < (List.range ops.size).countP (fun k => !lst L k) := by
      refine countP_dec (fun x _ hx => ?_) ⟨i, List.mem_range.2 hi, by simp [h1], by simp [hset]⟩
      rw [hset] at hx
      by_cases e : x = i
      · simp [e] at hx
      · simpa [e] using hx
    omega

theorem draw_okA (hG : Good P rec) {ops : Array Oper} {s s' : St} (h : drawA P rec ops.toList ops.toList 0 [] s = some s') : (s.h.nx ≤ s'.h.nx ∧ Ab s.h s'.h) ∧ s'.sz = s.sz ∧ s'.rd = s.rd ∧
    ∀ (M : Mp) (a : Act) (w : World) (r : Option Nat) (Q : Exit → Act → World → Prop), StR M s a w → Fresh M s.h s'.h →
      (∀ M' a' w', StR M' s' a' w' → Fr s.h s'.h M M' w w' → Ab s.h s'.h → Q .normal a' w') → wpAnyIn (FW r) 0 P .any ops Q ops.size (Array.replicate ops.size false) a { w with drawn := w.drawn + 1 } := by
  obtain ⟨S, rr, _, q2, q3, q4⟩ := draw_trace ops ops.toList 0 [] s s' h rfl (Nat.zero_le _) (fun _ => ⟨0, 0, none, [], 0, 0, [], false, none⟩) rfl
  have hS : ∀ j, j < ops.size → ∃ o v h1, Step P rec ops rr j (S j) (S (j + 1)) o v h1 := fun j hj => q4 j (Nat.zero_le _) hj
  obtain ⟨a1, a2, a3, _⟩ := draw_ab hG hS ops.size (Nat.le_refl _)
  rw [q2, q3] at a1 a2 a3
  refine ⟨⟨a1.nx, a1⟩, a2, a3, fun M a w r Q st fr q => ?_⟩
  have hwf : WfH (S 0).h := by rw [q2]; exact st.h.wf
  have F : Facts P rec ops rr S := ⟨fun j hj => (base_ok hG hwf hS j hj).1, fun j hj => (base_ok hG hwf hS ops.size (Nat.le_refl _)).2 j hj⟩
  have hdf : s'.df = s.df := by rw [← q2, ← q3]; exact (F.base ops.size (Nat.le_refl _)).df
  refine draw_any hG F (M0 := M) (w0 := w) (by rw [q2, q3]; exact fr) (fun M' a' w' I => ?_) ops.size _ M a _ (by simp) (Nat.le_trans List.countP_le_length (by simp)) ?_
  · have hc : ∀ {β : Type} (T : Nat → Bool) (val : Nat → β), (∀ k, k < ops.size → T k = false → val (k + 1) = val k) → cur (fun _ => true) T val ops.size = val ops.size := fun T val hT => cur_lo ops.size (fun _ _ _ => rfl) hT
    have ch : ∀ x, cur (fun _ => true) (fun j => inDR x (rr j)) (fun j => (S j).h.get x) ops.size = s'.h.get x := fun x => by
      rw [hc _ _ (fun k hk hT => F.heap_same k hk x hT), q3]
    refine q M' a' w' ⟨fun t => ?_, by rw [I.sz, q2, a2], by rw [hdf, ← q2]; exact I.df, ⟨fun x o hx => I.obj x o (by rw [ch]; exact hx), fun x y b κ κ' o hx hr hy => I.inj x y b κ κ' o (by rw [ch]; exact hx) hr (by rw [ch]; exact hy), by rw [← q3]; exact (F.base ops.size (Nat.le_refl _)).wf, I.gw, fun x b κ o hx => I.gf x b κ o (by rw [ch]; exact hx), I.fz, fun x b κ o hx => I.fo x b κ o (by rw [ch]; exact hx)⟩⟩
      ⟨I.os, I.tape, I.output, I.size, I.ext, fun x hx => ?_, fun k hk hn => I.keep k hk (fun id κ o hid => hn id κ o (by rw [← q2]; exact hid)), fun x b κ o' hx hM => ?_, fun b cs e => by rw [← q2]; exact I.zx b cs e⟩ a1
    · have := I.tm t
      rw [hc _ _ (fun k hk hT => by rw [F.tm_same k hk t hT]), q3] at this
      exact this
    · obtain ⟨j, j1, _, j2, j3⟩ := I.fresh x hx
      obtain ⟨_, p2, p3, _⟩ := F.rcd j j1
      have n1 := F.nx 0 j (by omega) (by omega)
      have n2 := F.nx (j + 1) ops.size (Nat.le_refl _) (by omega)
      rw [q2] at n1
      rw [q3] at n2
      omega
    · rcases I.range x b κ o' (by rw [ch]; exact hx) hM with e | ⟨i, κ', oi, e1, e2, e3⟩
      · exact .inl e
      · exact .inr ⟨i, κ', oi, by rw [← q2]; exact e1, e2, e3⟩
  · have hno : ∀ k, lst (Array.replicate ops.size false) k = false := fun k => by
      unfold lst
      by_cases hk : k < ops.size <;> simp [Array.getD_eq_getD_getElem?, hk]
    have c0 : ∀ {β : Type} (T : Nat → Bool) (val : Nat → β) (n : Nat), cur (lst (Array.replicate ops.size false)) T val n = val 0 := fun T val n => by
      induction n with
      | zero => rfl
      | succ n ih => simp only [cur, hno, Bool.false_and, cond_false, ih]
    refine ⟨fun t => ?_, by rw [q2]; exact st.sz, by rw [q2]; exact st.df, fun x o hx => ?_, fun x y b κ κ' o hx hr hy => ?_, fun x hx => absurd rfl hx, rfl, rfl, rfl, Nat.le_refl _, Le.refl M, fun _ _ _ => rfl, fun x b κ o' hx hM => ?_, fun j _ hDj => (by rw [hno] at hDj; cases hDj), st.h.gw, fun x b κ o hx hro hM => ?_, st.h.fz, fun x b κ o hx => ?_, fun _ _ e => .inl e⟩
    · rw [c0, q2]; exact st.tm t
    · rw [c0, q2] at hx; exact st.h.obj x o hx
    · rw [c0, q2] at hx hy; exact st.h.inj x y b κ κ' o hx hr hy
    · rw [c0] at hx; exact .inr ⟨x, κ, o', hx, hM, fun e => e⟩
    · rw [c0, q2] at hx; exact st.h.gf x b κ o hx hro hM
    · rw [c0, q2] at hx; exact st.h.fo x b κ o hx

theorem draw_ok (hm : P.follows .mixedOrders = true) (hG : Good P rec) {id : Nat} {ops : Array Oper} {s s' : St} (h : drawA P rec ops.toList ops.toList 0 [] s = some s') : (s.h.nx ≤ s'.h.nx ∧ Ab s.h s'.h) ∧ s'.sz = s.sz ∧ s'.rd = s.rd ∧
    ∀ (M : Mp) (a : Act) (w : World) (r : Option Nat) (Q : Exit → Act → World → Prop), StR M s a w → Fresh M s.h s'.h →
      (∀ M' a' w', StR M' s' a' w' → Fr s.h s'.h M M' w w' → Ab s.h s'.h → Q .normal a' w') → (Code.region id ops true).wpIn (FW r) 0 P Q a w := by
  obtain ⟨h1, h2, h3, h4⟩ := draw_okA hG h
  exact ⟨h1, h2, h3, fun M a w r Q st fr q => wpIn_region_any hm (h4 M a w r Q st fr q)⟩

def afterR (P : Program) (r : Option Nat) (Q : Exit → Act → World → Prop) (pe : Option Code) (a : Act) (w : World) : Prop :=
  match pe with
  | none => Q .normal a w
  | some c => c.wpIn (FW r) 0 P Q a w
theorem afterR_post {r : Option Nat} {Q : Exit → Act → World → Prop} {pe : Option Code} {a : Act} {l : Nat} {v : Value} {w3 w4 : World} (he : (Instr.endLoop l).run P w3 = .ok pe w4) (h : afterR P r Q pe a w4) : rangePost (FW r) 0 P l Q a (.returned v) w3 := by
  refine ⟨pe, w4, he, ?_⟩
  cases pe with
  | none => exact h
  | some c => exact h
theorem rangeFunc_ok (hG : Good P rec) {g : Operand} {ps : Array Tmp} {asg bo : Code} {s s' : St} {x : AX} (h : rangeFuncA P rec g ps asg bo s = some (x, s')) : (s.h.nx ≤ s'.h.nx ∧ Ab s.h s'.h) ∧ s'.sz = s.sz ∧ s'.rd = s.rd ∧
    ∀ (M : Mp) (a : Act) (w : World) (r : Option Nat) (Q : Exit → Act → World → Prop), StR M s a w → RdR M s.rd r → Fresh M s.h s'.h →
      (∀ M' a' w', StR M' s' a' w' → Fr s.h s'.h M M' w w' → Ab s.h s'.h → Q (exitOf x) a' w') → (Code.rangeFunc g ps asg bo).wpIn (FW r) 0 P Q a w := by
  unfold rangeFuncA at h
  split at h
  · rename_i gf caps hgf
    split at h
    · rename_i D df hd0 hent
      split at h
      · rename_i h1 hn1
        split at h
        · rename_i v h2 hcall
          obtain ⟨⟨c1, ca⟩, c2⟩ := callA_ok hG hcall
          split at h
          · cases h
          · rename_i st pe tm2 sz2 ps2 asg2 bo2 D2 hnb hg2
            split at h
            · rename_i h3 hp3
              have hnx3 := (AH.put_nx hp3).1
              have hnx1 := (AH.new_nx hn1).1
              -- the way in
              have ent : (s.h.nx ≤ hd0.nx ∧ Ab s.h hd0) ∧ ∀ (M : Mp) (a : Act) (w : World) (r : Option Nat), StR M s a w → RdR M s.rd r → Fresh M s.h hd0 → ∀ fn, ∃ M1 w1 bD cD mark, M1 D = some (bD, cD) ∧ Rel M1 hd0 w1 ∧ Fr s.h hd0 M M1 w w1 ∧ DfR M1 df (mark ++ a.defers) ∧
                  (Instr.enterLoop fn a.tmps ps asg bo r).run P w = .ok (w1.heap.size, mark) (w1.alloc (.loop { state := .ready, pending := none, fn, tmps := a.tmps, params := ps, assign := asg, body := bo, defers := bD })) := by
                split at hent
                · rename_i hrd
                  split at hent
                  · rename_i hh hnn
                    simp only [Option.some.injEq, Prod.mk.injEq] at hent
                    obtain ⟨rfl, rfl, rfl⟩ := hent
                    have hnn1 := (AH.new_nx hnn).1
                    refine ⟨⟨by omega, new_ab hnn⟩, fun M a w r sr rr fr fn => ?_⟩
                    rw [hrd] at rr
                    simp only [RdR] at rr; subst rr
                    obtain ⟨q1, q2, q3⟩ := new_ok (ob := .deferred (some [])) (κ := 0) sr.h hnn (fr s.h.nx (Nat.le_refl _) (by omega)) (by simp [ObR])
                    refine ⟨_, _, w.heap.size, 0, [{ target := .collected w.heap.size, args := #[] }], by simp [updM], q1, q2, ?_, ?_⟩
                    · simp only [List.singleton_append, DfR]
                      exact ⟨w.heap.size, 0, _, by simp [updM], sr.df.mono q2.ext, rfl⟩
                    · rw [run_enterLoop_outer, World.size_alloc]
                  · cases hent
                · rename_i l hrd
                  split at hent
                  · rename_i st0 pe0 tm0 sz0 ps0 asg0 bo0 D0 hgl
                    simp only [Option.some.injEq, Prod.mk.injEq] at hent
                    obtain ⟨rfl, rfl, rfl⟩ := hent
                    refine ⟨⟨Nat.le_refl _, Ab.refl _⟩, fun M a w r sr rr fr fn => ?_⟩
                    rw [hrd] at rr
                    simp only [RdR] at rr
                    obtain ⟨b, κ, hM, rfl⟩ := rr
                    obtain ⟨ob, hb, fn0, tmps0, bD, cD, hD, rt0, hsz0, rfl⟩ := Ob_of sr.h hgl hM
                    refine ⟨M, w, bD, cD, [], hD, sr.h, Fr.same _ M w, sr.df, ?_⟩
                    simp only [Instr.enterLoop, Sem.run_bind, run_getLoop hb, Result.andThen_ok, Sem.run_pure, run_newObj]
                    rfl
                  · cases hent
              obtain ⟨⟨en, ea⟩, ent⟩ := ent
              have ab3 : Ab s.h h3 := ((ea.trans (new_ab hn1)).trans ca).trans (put_ab hg2 hp3)
              -- what is behind the call
              have main : ∀ (M : Mp) (a : Act) (w : World) (r : Option Nat) (Q : Exit → Act → World → Prop), StR M s a w → RdR M s.rd r → Fresh M s.h h3 →
                  (∀ M' a' w', StR M' { s with df := df, h := h3 } a' w' → Fr s.h h3 M M' w w' → afterR P r Q pe a' w') → (Code.rangeFunc g ps asg bo).wpIn (FW r) 0 P Q a w := by
                intro M a w r Q sr rr fr k
                refine wpIn_rangeFunc (fun fn _ => ?_)
                obtain ⟨M1, w1, bD, cD, mark, hD, rh1, f1, rdf, erun⟩ := ent M a w r sr rr (fun id e1 e2 => fr id e1 (by omega)) fn
                have fr1 : Fresh M1 hd0 h3 := Fresh.right fr en f1
                obtain ⟨q1, q2, q3⟩ := new_ok (κ := 0) (ob := .loop { state := .ready, pending := none, fn, tmps := a.tmps, params := ps, assign := asg, body := bo, defers := bD }) rh1 hn1 (fr1 hd0.nx (Nat.le_refl _) (by omega)) ⟨fn, a.tmps, bD, cD, hD, sr.tm.mono f1.ext, sr.sz, rfl⟩
                have hev := ev_ok sr.tm g
                rw [hgf] at hev
                simp only [AV.R] at hev
                obtain ⟨cvs, rcv, hev⟩ := hev
                have f12 := f1.trans en (by omega) q2
                have fr2 : Fresh (updM M1 hd0.nx (w1.heap.size, 0)) h1 h2 := by
                  have := Fresh.right fr1 (by omega) q2
                  exact fun id e1 e2 => this id e1 (by omega)
                have ra : AV.RL (updM M1 hd0.nx (w1.heap.size, 0)) (.yl hd0.nx :: caps) (.func (.yield w1.heap.size) #[] #[] :: cvs) := by
                  simp only [AV.RL]
                  exact ⟨_, _, by simp only [AV.R]; exact ⟨w1.heap.size, 0, by simp [updM], rfl⟩, AV.RL.mono f12.ext _ _ rcv, rfl⟩
                obtain ⟨cf, cc⟩ := c2 _ (.func (.yield w1.heap.size) #[] #[] :: cvs) _ r (rangePost (FW r) 0 P w1.heap.size Q { a with defers := mark ++ a.defers }) ra q1 fr2 (fun M2 u w2 rv rh2 f2 ab2 => by
                  have hM2 : M2 hd0.nx = some (w1.heap.size, 0) := f2.ext _ _ (by simp [updM])
                  obtain ⟨ob, hb, fn2, tmps2, bD2, cD2, hD2, rt2, hsz2, rfl⟩ := Ob_of rh2 hg2 hM2
                  obtain ⟨p1, p2, p3⟩ := put_ok (w' := w2.putObj w1.heap.size (.loop { state := .exhausted, pending := pe, fn := fn2, tmps := tmps2, params := ps2, assign := asg2, body := bo2, defers := bD2 })) rh2 hg2 hp3 hM2 (upd_setObj (heap_lt hb)) ⟨fn2, tmps2, bD2, cD2, hD2, rt2, hsz2, rfl⟩
                  have hst : st ≠ .busy := fun e => hnb e
                  have f13 := f12.trans (show s.h.nx ≤ h1.nx by omega) c1 f2
                  have f14 := f13.trans (show s.h.nx ≤ h2.nx by omega) (by omega) p2
                  have kk := k M2 { a with defers := mark ++ a.defers } _ ⟨sr.tm.mono f13.ext, sr.sz, rdf.mono ((q2.ext).trans f2.ext), p1⟩ f14
                  exact afterR_post (run_endLoop hb hst) kk)
                refine ⟨w1.heap.size, mark, w1.alloc (.loop { state := .ready, pending := none, fn, tmps := a.tmps, params := ps, assign := asg, body := bo, defers := bD }), { target := .fn (.func gf) cvs.toArray, args := #[.func (.yield w1.heap.size) #[] #[]] }, w1.alloc (.loop { state := .ready, pending := none, fn, tmps := a.tmps, params := ps, assign := asg, body := bo, defers := bD }), gf, (.func (.yield w1.heap.size) #[] #[] :: cvs).toArray, w1.alloc (.loop { state := .ready, pending := none, fn, tmps := a.tmps, params := ps, assign := asg, body := bo, defers := bD }), erun, ?_, fun _ _ => trivial, ?_, fun e => by simp [FW] at e, cc⟩
                · have hcn : a.eval (.const (.func (.yield w1.heap.size) #[] #[])) = .func (.yield w1.heap.size) #[] #[] := rfl
                  simp [resolve, hev, hcn, Deferred.ofValue]
                · have e : (#[Value.func (.yield w1.heap.size) #[] #[]] ++ cvs.toArray) = (.func (.yield w1.heap.size) #[] #[] :: cvs).toArray := by apply Array.ext'; simp
                  simp only [invoke, e]
                  exact cf
              split at h
              · simp only [Option.some.injEq, Prod.mk.injEq] at h
                obtain ⟨rfl, rfl⟩ := h
                exact ⟨⟨by show s.h.nx ≤ h3.nx; omega, ab3⟩, rfl, rfl, fun M a w r Q sr rr fr k => main M a w r Q sr rr fr (fun M' a' w' sr' f' => k M' a' w' sr' f' ab3)⟩
              · obtain ⟨⟨g1, ga⟩, g2, g3, g4⟩ := hG.code _ _ _ _ h
                have hle : s.h.nx ≤ h3.nx := by omega
                refine ⟨⟨Nat.le_trans hle g1, ab3.trans ga⟩, g2, g3, fun M a w r Q sr rr fr k => main M a w r Q sr rr (fun id e1 e2 => fr id e1 (Nat.lt_of_lt_of_le e2 g1)) (fun M' a' w' sr' f' => ?_)⟩
                exact g4 M' a' w' r Q sr' (rr.mono f'.ext) (Fresh.right fr hle f') (fun M2 a2 w2 sr2 f2 ab2 => k M2 a2 w2 sr2 (f'.trans hle g1 f2) (ab3.trans ab2))
              · obtain ⟨⟨g1, ga⟩, g2, g3, g4⟩ := hG.code _ _ _ _ h
                have hle : s.h.nx ≤ h3.nx := by omega
                refine ⟨⟨Nat.le_trans hle g1, ab3.trans ga⟩, g2, g3, fun M a w r Q sr rr fr k => main M a w r Q sr rr (fun id e1 e2 => fr id e1 (Nat.lt_of_lt_of_le e2 g1)) (fun M' a' w' sr' f' => ?_)⟩
                exact g4 M' a' w' r Q sr' (rr.mono f'.ext) (Fresh.right fr hle f') (fun M2 a2 w2 sr2 f2 ab2 => k M2 a2 w2 sr2 (f'.trans hle g1 f2) (ab3.trans ab2))
              · cases h
            · cases h
          · cases h
        · cases h
      · cases h
    · cases h
  · cases h

theorem loop_ok (hG : Good P rec) {c : Code} : ∀ (m : Nat) {s s' : St} {x : AX}, loopA rec m c s = some (x, s') → (s.h.nx ≤ s'.h.nx ∧ Ab s.h s'.h) ∧ s'.sz = s.sz ∧ s'.rd = s.rd ∧
    ∀ (M : Mp) (a : Act) (w : World) (r : Option Nat) (Q : Exit → Act → World → Prop), StR M s a w → RdR M s.rd r → Fresh M s.h s'.h →
      (∀ M' a' w', StR M' s' a' w' → Fr s.h s'.h M M' w w' → Ab s.h s'.h → Q (exitOf x) a' w') → Code.roundsIn (FW r) 0 P c Q m a w
  | 0, s, s', x, h => by simp [loopA] at h
  | m + 1, s, s', x, h => by
    simp only [loopA] at h
    split at h
    · rename_i s1 h1
      obtain ⟨⟨g1, ga⟩, g2, g3, g4⟩ := hG.code _ _ _ _ h1
      obtain ⟨⟨k1, ka⟩, k2, k3, k4⟩ := loop_ok hG m h
      refine ⟨⟨Nat.le_trans g1 k1, ga.trans ka⟩, k2.trans g2, k3.trans g3, fun M a w r Q st rd fr k => ?_⟩
      rw [roundsIn_succ]
      refine g4 M a w r _ st rd (fr.left k1) (fun M' a' w' st' f' _ => ?_)
      exact k4 M' a' w' r Q st' (by rw [g3]; exact rd.mono f'.ext) (Fresh.right fr g1 f') (fun M2 a2 w2 st2 f2 ab2 => k M2 a2 w2 st2 (f'.trans g1 k1 f2) (ga.trans ab2))
    · rename_i hne
      obtain ⟨⟨g1, ga⟩, g2, g3, g4⟩ := hG.code _ _ _ _ h
      refine ⟨⟨g1, ga⟩, g2, g3, fun M a w r Q st rd fr k => ?_⟩
      rw [roundsIn_succ]
      refine g4 M a w r _ st rd fr (fun M' a' w' st' f' ab' => ?_)
      have := k M' a' w' st' f' ab'
      cases x with
      | nm => exact absurd h (hne _)
      | ex id => exact this
      | rt => exact this

theorem stepR_scope {b : Frame} {a : Act} {k : List Item} {cs : List Frame} {w : World} {c : Code} : step P (lone (b.atR a (.code (.scope c) :: k)) cs w) = .next (lone (b.atR a (.code c :: .inScope c :: k)) cs w) :=
  step_lone_go (by simp [stepG, stepG.exec, Frame.atR])
theorem stepR_inScope {b : Frame} {a : Act} {k : List Item} {cs : List Frame} {w : World} {c : Code} : step P (lone (b.atR a (.inScope c :: k)) cs w) = .next (lone (b.atR a k) cs w) :=
  step_lone_go (by simp [stepG, stepG.exec, Frame.atR])
def noGo (Q : Exit → Act → World → Prop) : Exit → Act → World → Prop
  | .goto _, _, _ => False
  | e, a, w => Q e a w
theorem wpIn_scope {F : Fence} {n : Nat} {Q : Exit → Act → World → Prop} {a : Act} {w : World} {c : Code} (h : c.wpIn F n P (noGo Q) a w) : (Code.scope c).wpIn F n P Q a w := by
  intro b k cs hro hb hr
  have h0 : (lone (b.atR a (.code (.scope c) :: k)) cs w).fenced P F := fenced_calm hb hr rfl
  obtain ⟨e, a₁, w₁, hq, harr⟩ := h b (.inScope c :: k) cs hro hb hr
  cases e with
  | normal => exact ⟨.normal, a₁, w₁, hq, .head h0 stepR_scope (StepsIn.trans harr (.one (fenced_calm hb hr rfl) stepR_inScope))⟩
  | exit id =>
    have hx : exitTo id (.inScope c :: k) = exitTo id k := by simp [exitTo]
    exact ⟨.exit id, a₁, w₁, hq, fun k' hk => .head h0 stepR_scope (harr.1 k' (by rw [hx]; exact hk)),
      fun hr' hk => let ⟨k₁, h1, h2⟩ := harr.2 hr' (by rw [hx]; exact hk); ⟨k₁, h1, .head h0 stepR_scope h2⟩⟩
  | goto l => exact hq.elim
  | ret => exact ⟨_, a₁, w₁, hq, .of_steps (.one h0 stepR_scope) harr⟩
  | panic ch => exact ⟨_, a₁, w₁, hq, .of_steps (.one h0 stepR_scope) harr⟩
  | outgrown => exact ⟨_, a₁, w₁, hq, .of_steps (.one h0 stepR_scope) harr⟩
theorem step_ok (hm : P.follows .mixedOrders = true) (hG : Good P rec) (n : Nat) {c : Code} {s s' : St} {x : AX} (h : execStep P rec n c s = some (x, s')) : (s.h.nx ≤ s'.h.nx ∧ Ab s.h s'.h) ∧ s'.sz = s.sz ∧ s'.rd = s.rd ∧
    ∀ (M : Mp) (a : Act) (w : World) (r : Option Nat) (Q : Exit → Act → World → Prop), StR M s a w → RdR M s.rd r → Fresh M s.h s'.h →
      (∀ M' a' w', StR M' s' a' w' → Fr s.h s'.h M M' w w' → Ab s.h s'.h → Q (exitOf x) a' w') → c.wpIn (FW r) 0 P Q a w := by
  rw [execStep_eq] at h
  split at h
  · simp only [Option.some.injEq, Prod.mk.injEq] at h
    obtain ⟨rfl, rfl⟩ := h
    exact ⟨⟨Nat.le_refl _, Ab.refl _⟩, rfl, rfl, fun M a w r Q st _ _ k => wpIn_skip (k M a w st (Fr.same _ M w) (Ab.refl _))⟩
  · simp only [Option.some.injEq, Prod.mk.injEq] at h
    obtain ⟨rfl, rfl⟩ := h
    exact ⟨⟨Nat.le_refl _, Ab.refl _⟩, rfl, rfl, fun M a w r Q st _ _ k => wpIn_label (k M a w st (Fr.same _ M w) (Ab.refl _))⟩
  · rename_i c1 c2
    split at h
    · rename_i s1 h1
      obtain ⟨⟨g1, ga⟩, g2, g3, g4⟩ := hG.code _ _ _ _ h1
      obtain ⟨⟨k1, ka⟩, k2, k3, k4⟩ := hG.code _ _ _ _ h
      refine ⟨⟨Nat.le_trans g1 k1, ga.trans ka⟩, k2.trans g2, k3.trans g3, fun M a w r Q st rd fr k => wpIn_seq ?_⟩
      refine g4 M a w r _ st rd (fr.left k1) (fun M' a' w' st' f' _ => ?_)
      exact k4 M' a' w' r Q st' (by rw [g3]; exact rd.mono f'.ext) (Fresh.right fr g1 f') (fun M2 a2 w2 st2 f2 ab2 => k M2 a2 w2 st2 (f'.trans g1 k1 f2) (ga.trans ab2))
    · rename_i hne
      obtain ⟨⟨g1, ga⟩, g2, g3, g4⟩ := hG.code _ _ _ _ h
      refine ⟨⟨g1, ga⟩, g2, g3, fun M a w r Q st rd fr k => wpIn_seq ?_⟩
      refine g4 M a w r _ st rd fr (fun M' a' w' st' f' ab' => ?_)
      have := k M' a' w' st' f' ab'
      cases x with
      | nm => exact absurd h (hne _)
      | ex id => exact this
      | rt => exact this
  · rename_i c t e
    split at h
    · rename_i b hb
      have hc : ∀ (M : Mp) (a : Act) (w : World), StR M s a w → a.eval c = .bool b := fun M a w st => by
        have := ev_ok st.tm c
        rw [hb] at this
        simpa only [AV.R] using this
      cases b with
      | true =>
        obtain ⟨g1, g2, g3, g4⟩ := hG.code _ _ _ _ h
        exact ⟨g1, g2, g3, fun M a w r Q st rd fr k => wpIn_cond_true (hc M a w st) (g4 M a w r Q st rd fr k)⟩
      | false =>
        obtain ⟨g1, g2, g3, g4⟩ := hG.code _ _ _ _ h
        exact ⟨g1, g2, g3, fun M a w r Q st rd fr k => wpIn_cond_false (hc M a w st) (g4 M a w r Q st rd fr k)⟩
    · rename_i b hb
      have hc : ∀ (M : Mp) (a : Act) (w : World), StR M s a w → a.eval c = .bool b := fun M a w st => by
        have := ev_ok st.tm c
        rw [hb] at this
        simpa only [AV.R] using this
      cases b with
      | true =>
        obtain ⟨g1, g2, g3, g4⟩ := hG.code _ _ _ _ h
        exact ⟨g1, g2, g3, fun M a w r Q st rd fr k => wpIn_cond_true (hc M a w st) (g4 M a w r Q st rd fr k)⟩
      | false =>
        obtain ⟨g1, g2, g3, g4⟩ := hG.code _ _ _ _ h
        exact ⟨g1, g2, g3, fun M a w r Q st rd fr k => wpIn_cond_false (hc M a w st) (g4 M a w r Q st rd fr k)⟩
    · cases h
  · rename_i id c
    split at h
    · rename_i j s1 h1
      obtain ⟨g1, g2, g3, g4⟩ := hG.code _ _ _ _ h1
      simp only [nbeq, Bool.cond_decide] at h
      split at h
      · rename_i hj
        simp only [Option.some.injEq, Prod.mk.injEq] at h
        obtain ⟨rfl, rfl⟩ := h
        refine ⟨g1, g2, g3, fun M a w r Q st rd fr k => wpIn_block (g4 M a w r _ st rd fr (fun M' a' w' st' f' ab' => ?_))⟩
        simp only [exitOf, Exit.inBlock, hj, if_true]
        exact k M' a' w' st' f' ab'
      · rename_i hj
        simp only [Option.some.injEq, Prod.mk.injEq] at h
        obtain ⟨rfl, rfl⟩ := h
        refine ⟨g1, g2, g3, fun M a w r Q st rd fr k => wpIn_block (g4 M a w r _ st rd fr (fun M' a' w' st' f' ab' => ?_))⟩
        simp only [exitOf, Exit.inBlock, hj, if_false]
        exact k M' a' w' st' f' ab'
    · rename_i hne
      obtain ⟨g1, g2, g3, g4⟩ := hG.code _ _ _ _ h
      refine ⟨g1, g2, g3, fun M a w r Q st rd fr k => wpIn_block (g4 M a w r _ st rd fr (fun M' a' w' st' f' ab' => ?_))⟩
      have := k M' a' w' st' f' ab'
      cases x with
      | ex id => exact absurd h (hne _ _)
      | nm => exact this
      | rt => exact this
  · rename_i c
    obtain ⟨g1, g2, g3, g4⟩ := loop_ok hG _ h
    exact ⟨g1, g2, g3, fun M a w r Q st rd fr k => wpIn_loop_rounds _ (g4 M a w r Q st rd fr k)⟩
  · rename_i id
    simp only [Option.some.injEq, Prod.mk.injEq] at h
    obtain ⟨rfl, rfl⟩ := h
    exact ⟨⟨Nat.le_refl _, Ab.refl _⟩, rfl, rfl, fun M a w r Q st _ _ k => wpIn_exit (k M a w st (Fr.same _ M w) (Ab.refl _))⟩
  · simp only [Option.some.injEq, Prod.mk.injEq] at h
    obtain ⟨rfl, rfl⟩ := h
    exact ⟨⟨Nat.le_refl _, Ab.refl _⟩, rfl, rfl, fun M a w r Q st _ _ k => wpIn_ret (k M a w st (Fr.same _ M w) (Ab.refl _))⟩
  · rename_i id ops
    split at h
    · rename_i s1 h1
      simp only [Option.some.injEq, Prod.mk.injEq] at h
      obtain ⟨rfl, rfl⟩ := h
      obtain ⟨o1, o2, o3, o4⟩ := opsA_ok hG ops _ _ _ h1
      refine ⟨o1, o2, o3, fun M a w r Q st rd fr k => wpIn_region ?_⟩
      have := o4 0 rfl M a w r Q st fr k
      rw [List.range_eq_range']
      exact this
    · cases h
  · rename_i id ops
    split at h
    · rename_i s1 h1
      simp only [Option.some.injEq, Prod.mk.injEq] at h
      obtain ⟨rfl, rfl⟩ := h
      obtain ⟨o1, o2, o3, o4⟩ := draw_ok (id := id) hm hG h1
      exact ⟨o1, o2, o3, fun M a w r Q st rd fr k => o4 M a w r Q st fr k⟩
    · cases h
  · exact rangeFunc_ok hG h
  · rename_i c
    obtain ⟨g1, g2, g3, g4⟩ := hG.code _ _ _ _ h
    refine ⟨g1, g2, g3, fun M a w r Q st rd fr k => wpIn_scope (g4 M a w r _ st rd fr (fun M' a' w' st' f' ab' => ?_))⟩
    have := k M' a' w' st' f' ab'
    cases x <;> exact this
  · cases h

theorem exec_good (hm : P.follows .mixedOrders = true) {sm : FuncId → Option Sm} (hs : SmOK P sm) : ∀ n, Good P ⟨exec P sm n, sm⟩
  | 0 => ⟨fun c s x s' h => by simp [exec] at h, hs⟩
  | n + 1 => ⟨fun c s x s' h => step_ok hm (exec_good hm hs n) n h, hs⟩
theorem noSm_ok : SmOK P noSm := fun f => ⟨fun g e => by simp [noSm] at e, fun g e => by simp [noSm] at e, fun g e => by simp [noSm] at e⟩

/-- A call on arguments without memory, some contracts given. -/
def callS (P : Program) (sm : FuncId → Option Sm) (n f : Nat) (args : List AV) : Option (AV × AH) := callA P ⟨exec P sm n, sm⟩ f args ⟨.lf, 0, 0, []⟩
/-- **A call comes to what the abstract machine computes**: it returns the value, and whatever lay in memory lies as it lay. -/
theorem callS_calls (hm : P.follows .mixedOrders = true) {sm : FuncId → Option Sm} (hs : SmOK P sm) {n f : Nat} {b : Bool} {args : List AV} {us : List Value} (h : isB b (callS P sm n f args) = true) (ra : AV.RL noM args us) (w : World) (hw : GW w) :
    Calls P f us.toArray w fun e w' => e = .returned (.bool b) ∧ Below w.heap.size w w' := by
  unfold callS at h
  cases hc : callA P ⟨exec P sm n, sm⟩ f args ⟨.lf, 0, 0, []⟩ with
  | none => rw [hc] at h; cases h
  | some p =>
    obtain ⟨v, h'⟩ := p
    rw [hc] at h
    obtain ⟨_, c⟩ := callA_ok (exec_good hm hs n) hc
    have hr : Rel noM ⟨.lf, 0, 0, []⟩ w := ⟨fun x o e => by simp [get_lf] at e, fun x y b κ κ' o hx => by simp [get_lf] at hx, fun x hx => absurd (get_lf _ _ _ x) hx, hw, fun x b κ o hx => (by simp [get_lf] at hx), fun b cs e => (by cases e), fun x b κ o hx => (by simp [get_lf] at hx)⟩
    obtain ⟨_, cc⟩ := c noM us w none (fun e w' => e = .returned (.bool b) ∧ Below w.heap.size w w') ra hr (fun _ _ _ => rfl) (fun M' u w' rv rh f _ => by
      cases v <;> simp only [isB, Bool.false_eq_true, beq_iff_eq] at h
      subst h
      simp only [AV.R] at rv
      refine ⟨by rw [rv], f.os, f.tape, f.output, f.size, fun k hk => f.keep k hk (fun id κ o hg => by simp [get_lf] at hg)⟩)
    exact CallsIn.calls cc (fun k d hd => by simp [FW] at hd)
theorem callN_calls (hm : P.follows .mixedOrders = true) {n f : Nat} {b : Bool} {args : List AV} {us : List Value} (h : isB b (callS P noSm n f args) = true) (ra : AV.RL noM args us) (w : World) (hw : GW w) :
    Calls P f us.toArray w fun e w' => e = .returned (.bool b) ∧ Below w.heap.size w w' := callS_calls hm noSm_ok h ra w hw

/-- A contract that says what a call without arguments returns, of which nothing else is kept. -/
def smB (b : Bool) (args : List AV) (h : AH) : Option (AV × AH) := match args with | [] => some (.b b, h) | _ => none
theorem Rel.below {M : Mp} {h : AH} {w w' : World} (r : Rel M h w) (hb : Below w.heap.size w w') : Rel M h w' :=
  ⟨fun id o e => by
    rcases r.obj id o e with hv | ⟨b, κ, ob, h1, h2, h3⟩
    · exact .inl hv
    exact .inr ⟨b, κ, ob, h1, by rw [hb.block b (heap_lt h2)]; exact h2, h3⟩, r.inj, r.wf, fun g c hg => by
    obtain ⟨vs, e, fr, h1, h2⟩ := r.gw g c hg
    exact ⟨vs, e, fr, by rw [hb.block g (heap_lt h1)]; exact h1, h2⟩, r.gf, fz_kept r (fun b hb2 _ => hb.block b hb2), r.fo⟩
theorem smBool_ok {f : FuncId} {fn : Func} {b : Bool} (hf : P.funcs[f]? = some fn) (hok : okFn fn = true) (hb : fn.body.isSome = true)
    (hc : ∀ w, GW w → Calls P f #[] w fun e w' => e = .returned (.bool b) ∧ Below w.heap.size w w') : SmCall P f (smB b) := by
  intro args h v h' hg
  unfold smB at hg
  split at hg
  · simp only [Option.some.injEq, Prod.mk.injEq] at hg
    obtain ⟨rfl, rfl⟩ := hg
    refine ⟨⟨Nat.le_refl _, Ab.refl _⟩, fun M us w r R ra rr fr k => ⟨?_, ?_⟩⟩
    · have hnn : ¬ (fn.name = "runtime.NumGoroutine") := by simpa [okFn] using hok
      cases hbb : fn.body with
      | none => rw [hbb] at hb; cases hb
      | some c => simp [callFunc, hf, hnn, hbb]
    · simp only [AV.RL] at ra; subst ra
      have : CallsIn (FW none) 0 P f #[] w R := (callsIn_wide (n := 0)).2 ((hc w rr.gw).mono fun e w' ⟨he, hbl⟩ => by
        subst he
        exact k M (.bool b) w' rfl (rr.below hbl) ⟨hbl.os, hbl.tape, hbl.output, hbl.size, Le.refl M, fun _ e => absurd rfl e, fun q hq _ => hbl.block q hq, fun id b2 κ o q1 q2 => .inr ⟨id, κ, o, q1, q2, fun e => e⟩, fun _ _ e => .inl e⟩ (Ab.refl _))
      exact this
  · cases hg
end
end Go.Proofs.YtiikiphkhfmlcaaGreatDoor.Ex
