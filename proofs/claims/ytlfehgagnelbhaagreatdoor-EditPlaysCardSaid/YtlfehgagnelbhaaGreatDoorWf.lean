/- Walks by symbols: a walk that meets its conditions goes as it says. -/
import Derived.Test.YtlfehgagnelbhaaGreatDoorWe
namespace Go.Proofs.YtlfehgagnelbhaaGreatDoor.Ex
open Go

section
variable {P : Program} {sm : FuncId → Option Sm}

theorem leaf_ok (hm : P.follows .mixedOrders = true) (hs : SmOK P sm) {n : Nat} {c : Code} {s : St} {K : AX → St → Prop} (h : (execT P sm n c s).all fun p => K p.1 p.2) : TriC P c s fun x s' => K x s' ∧ Frm c s s' := by
  obtain ⟨⟨x, s'⟩, h1, h2⟩ := T.all_sel h
  rw [execT_sel] at h1
  obtain ⟨⟨g1, ga⟩, g2, g3, _⟩ := (exec_good hm hs n).code _ _ _ _ h1
  exact tri_exec hm hs h1 ⟨h2, fun t ht _ => exec_wr n c s x s' h1 t ht, g1, ga.bs, ga.wl, ga.log, g2, g3⟩
theorem loopW_ok {x : Code} {wxc : St → (AX → St → Prop) → Prop} (hw : ∀ s K, wxc s K → TriC P x s fun e s' => K e s' ∧ Frm x s s') {s0 : St} {K : AX → St → Prop} : ∀ (m : Nat) (s : St), Frm (.loop x) s0 s → loopW wxc m s K →
    ∀ (M : Mp) (a : Act) (w : World) (r : Option Nat) (Q : Exit → Act → World → Prop), StR M s a w → RdR M s.rd r → FreshA M s.h.nx →
      (∀ e s' M' a' w', (K e s' ∧ Frm (.loop x) s0 s') → StR M' s' a' w' → RdR M' s'.rd r → FreshA M' s'.h.nx → FrO (OwnP M s.h) w (OwnP M' s'.h) w' → (s.h.nx ≤ s'.h.nx ∧ ∀ id, id < s.h.nx → M' id = M id) → Q (exitOf e) a' w') → Code.roundsIn (FW r) 0 P x Q m a w
  | 0, s, _, h => h.elim
  | m + 1, s, hf, h => fun M a w r Q st rd fr q => by
    rw [roundsIn_succ]
    refine hw s _ h M a w r _ st rd fr fun e s' M' a' w' ⟨hk, hfr⟩ st' rd' fr' f' k' => ?_
    have hf' : Frm (.loop x) s0 s' := hf.trans (hfr.code (b := .loop x) fun t ht => ht) (fun t ht => ⟨ht, ht⟩)
    cases e with
    | nm => exact loopW_ok hw m s' hf' hk M' a' w' r Q st' rd' fr' fun e s2 M2 a2 w2 hk2 st2 rd2 fr2 f2 k2 => q e s2 M2 a2 w2 hk2 st2 rd2 fr2 (f'.trans f2) ⟨Nat.le_trans k'.1 k2.1, fun id hid => (k2.2 id (Nat.lt_of_lt_of_le hid k'.1)).trans (k'.2 id hid)⟩
    | ex id => exact q _ s' M' a' w' ⟨hk, hf'⟩ st' rd' fr' f' k'
    | rt => exact q _ s' M' a' w' ⟨hk, hf'⟩ st' rd' fr' f' k'
theorem filtLt_mem {n x : Nat} : ∀ {l : List Nat}, x ∈ l → x < n → x ∈ filtLt n l
  | [], h, _ => by simp at h
  | y :: l, h, hn => by
    simp only [filtLt, nblt, Bool.cond_decide]
    rcases List.mem_cons.1 h with rfl | h
    · rw [if_pos hn]; simp
    · split
      · exact List.mem_cons_of_mem _ (filtLt_mem h hn)
      · exact filtLt_mem h hn
theorem zip_full {α : Type} : ∀ {l : List Nat} {k : List α}, k.length = l.length → ∀ x ∈ l, ∃ v, (x, v) ∈ l.zip k
  | [], _, _, x, hx => by simp at hx
  | y :: l, [], h, x, hx => by simp at h
  | y :: l, v :: k, h, x, hx => by
    rcases List.mem_cons.1 hx with rfl | hx
    · exact ⟨v, by simp⟩
    · obtain ⟨u, hu⟩ := zip_full (l := l) (k := k) (by simpa using h) x hx
      exact ⟨u, by simp [hu]⟩

theorem wx_ok (hm : P.follows .mixedOrders = true) (hs : SmOK P sm) {ann : Nat → Option (St → LoopA)} : ∀ (n : Nat) (c : Code) (b : Nat) (s : St) (K : AX → St → Prop), wx P sm ann n c b s K → TriC P c s fun x s' => K x s' ∧ Frm c s s'
  | 0, c, b, s, K, h => h.elim
  | n + 1, c, b, s, K, h => by
    unfold wx at h
    split at h
    · rename_i x y
      refine tri_seq ((wx_ok hm hs n x b s _ h).mono fun e s' ⟨hk, hf⟩ => ?_)
      cases e with
      | nm => exact (wx_ok hm hs n y _ s' _ hk).mono fun e s2 ⟨hk2, hf2⟩ => ⟨hk2, hf.trans hf2 (fun t ht => by simpa [wrC] using ht)⟩
      | ex id => exact ⟨hk, hf.code fun t ht => by simp [wrC] at ht; exact ht.1⟩
      | rt => exact ⟨hk, hf.code fun t ht => by simp [wrC] at ht; exact ht.1⟩
    · rename_i id x
      refine tri_block ((wx_ok hm hs n x b s _ h).mono fun e s' ⟨hk, hf⟩ => ?_)
      have hf' : Frm (.block id x) s s' := hf.code fun t ht => ht
      cases e with
      | nm => exact ⟨hk, hf'⟩
      | rt => exact ⟨hk, hf'⟩
      | ex j =>
        simp only [Bool.cond_eq_ite] at hk ⊢
        split at hk
        · rename_i hj; rw [if_pos hj]; exact ⟨hk, hf'⟩
        · rename_i hj; rw [if_neg hj]; exact ⟨hk, hf'⟩
    · rename_i x
      exact tri_scope ((wx_ok hm hs n x b s K h).mono fun e s' ⟨hk, hf⟩ => ⟨hk, hf.code fun t ht => ht⟩)
    · rename_i t x y
      have hx : ∀ e s', (K e s' ∧ Frm x s s') → K e s' ∧ Frm (.cond t x y) s s' := fun e s' ⟨hk, hf⟩ => ⟨hk, hf.code fun t ht => by simp [wrC] at ht; exact ht.1⟩
      have hy : ∀ e s', (K e s' ∧ Frm y s s') → K e s' ∧ Frm (.cond t x y) s s' := fun e s' ⟨hk, hf⟩ => ⟨hk, hf.code fun t ht => by simp [wrC] at ht; exact ht.2⟩
      split at h
      · rename_i q hq
        refine tri_cond (.inl hq) (fun e => ?_) (fun e => ?_)
        · subst e; exact (wx_ok hm hs n x b s K h).mono hx
        · subst e; exact (wx_ok hm hs n y _ s K h).mono hy
      · rename_i q hq
        exact tri_cond (.inr hq) (fun e => (wx_ok hm hs n x b s K (h.1 e)).mono hx) (fun e => (wx_ok hm hs n y _ s K (h.2 e)).mono hy)
      · exact h.elim
    · rename_i x
      split at h
      · intro M a w r Q st rd fr q
        exact wpIn_loop_rounds n (loopW_ok (fun s K h => wx_ok hm hs n x (b + 1) s K h) n s ⟨fun _ _ _ => rfl, Nat.le_refl _, rfl, fun _ e => e, fun _ _ _ _ => rfl, rfl, rfl⟩ h M a w r Q st rd fr q)
      · rename_i A0 hA
        obtain ⟨ok, ⟨i0, hp0, hl0, hm0⟩, hbody⟩ := h
        clear hA
        generalize hA : A0 s = A at i0 ok hp0 hl0 hm0 hbody
        intro M a w r Q st rd fr q
        obtain ⟨g0, M1, z1, z2, z3, z4, z5⟩ := found_head ok hm0 (fun _ _ _ => rfl) (fun _ _ _ _ => rfl) rfl rfl rfl st rd fr M a w st fr
        -- a round ends where another one begins, or leaves
        have main := tri_loop (P := P) (c := x) (K := fun e s' => K e (backS s (wrC x) A s') ∧ Frm (.loop x) s (backS s (wrC x) A s')) s.h.nx (fun m s1 => ∃ g i, A.pre i ∧ A.ms i = m ∧ s1 = headS s (wrC x) A g i) (fun m s1 ⟨g, i, hp, hms, he⟩ => by subst he; exact Nat.le_add_right _ _) (fun m s1 ⟨g, i, hp, hms, he⟩ => by
          subst he
          refine (wx_ok hm hs n x (b + 1) _ _ (hbody g i hp)).mono fun e s' ⟨hk, hf⟩ => ?_
          have htm : ∀ t, t ∉ wrC x → t ∉ A.tms → frzM t ∉ s'.h.wl → s'.tm.get (t + 1) = s.tm.get (t + 1) := fun t ht htt hlg => by
            rw [hf.tm t ht hlg]
            rcases head_tm (g := g) (i := i) ok t with ⟨v, hv, _⟩ | ⟨hW, _⟩ | ⟨_, _, e⟩
            · exact absurd (zip_mem (v := v) hv) htt
            · exact absurd hW ht
            · exact e
          have hget : ∀ id, id < s.h.nx → id ∉ A.ids → id ∉ A.del → id ∉ s'.h.wl → s'.h.get id = s.h.get id := fun id h1 h2 h3 h4 => by
            rw [hf.log id h1 (show id < s.h.nx + A.ex by omega) h4]
            rcases head_get (g := g) (i := i) ok id with ⟨c, hc, _⟩ | ⟨_, hd, _⟩ | ⟨_, _, e⟩
            · exact absurd (zip_mem (v := c) hc) h2
            · exact absurd hd h3
            · exact e
          have leave : ∀ e : AX, K e (backS s (wrC x) A s') → K e (backS s (wrC x) A s') ∧ Frm (.loop x) s (backS s (wrC x) A s') := fun e hk => by
            refine ⟨hk, fun t ht hlg => ?_, ?_, rfl, fun y hy => List.mem_append_right _ hy, fun y h1 h2 h3 => ?_, hf.sz, hf.rd⟩
            · have hlg : frzM t ∉ filtLt s.h.bs (A.ids ++ A.del ++ s'.h.wl) ++ (logT (wrC x) A.tms ++ filtGe s'.h.wl) ++ s.h.wl := hlg
              simp only [List.mem_append, not_or] at hlg
              exact htm t ht (fun q => hlg.1.2.1 (logT_mem q ht)) (fun q => hlg.1.2.2 (filtGe_mem q (Nat.le_add_right _ _)))
            · have := hf.nx
              have : s.h.nx + A.ex ≤ s'.h.nx := this
              show s.h.nx ≤ s'.h.nx
              omega
            · have h3 : y ∉ filtLt s.h.bs (A.ids ++ A.del ++ s'.h.wl) ++ (logT (wrC x) A.tms ++ filtGe s'.h.wl) ++ s.h.wl := h3
              have hn : y ∉ A.ids ++ A.del ++ s'.h.wl := fun hy => h3 (List.mem_append_left _ (List.mem_append_left _ (filtLt_mem hy h1)))
              simp only [List.mem_append, not_or] at hn
              exact hget y h2 hn.1.1 hn.1.2 hn.2
          cases e with
          | nm =>
            obtain ⟨hend, i', hp', hlt, hl', hm'⟩ := hk
            simp only [endOk, Bool.and_eq_true, List.all_eq_true, Bool.or_eq_true, memN_iff, nble, decide_eq_true_eq] at hend
            refine ⟨A.ms i', by rw [← hms]; exact hlt, fun M' a' w' st' fr' => ?_⟩
            simp only [lenOk, Bool.and_eq_true] at hl'
            have hl2 : (A.tmU i').length = A.tms.length := beqN hl'.2
            have hl' : (A.hpU i').length = A.ids.length := beqN hl'.1
            obtain ⟨g', M2, y1, y2, y3, y4, y5⟩ := found_head ok hm' (fun t ht hT => by
              have hnt : t ∉ A.tms := fun hi => by
                obtain ⟨v, hv⟩ := zip_full hl2 t hi
                exact hT v hv
              refine htm t ht hnt (fun hw => ?_)
              have h32 : 4294967296 ≤ frzM t := Nat.le_add_right _ _
              have ok2 := ok
              simp only [okA, Bool.and_eq_true] at ok2
              rcases hend.1.1 _ hw with (q | q) | q
              · have := allLt_ok ok2.1.1.1.1.1.2 _ q; omega
              · have := allLt_ok ok2.1.1.1.1.2 _ q; omega
              · have e : Nat.sub (frzM t) 4294967296 = t := Nat.add_sub_cancel_left _ _
                rw [e] at q; exact hnt q.2) (fun id h1 h2 h3 => by
              have hni : id ∉ A.ids := fun hi => by
                obtain ⟨v, hv⟩ := zip_full hl' id hi
                exact h2 v hv
              exact hget id h1 hni h3 (fun hw => by
                rcases hend.1.1 id hw with (q | q) | q
                · exact hni q
                · exact h3 q
                · have h9 := q.1
                  have h10 := hend.2
                  omega)) hf.sz (eqNs_ok hend.1.2) hf.rd st rd fr M' a' w' st' fr'
            exact ⟨_, M2, ⟨g', i', hp', rfl, rfl⟩, y1, y2, y3, y4, y5⟩
          | ex id => exact leave _ hk
          | rt => exact leave _ hk) (A.ms i0) (headS s (wrC x) A g0 i0) ⟨g0, i0, hp0, rfl, rfl⟩
        refine main M1 a w r Q z1 (z3 r rd) z2 fun e s' M' a' w' hk st' rd' fr' f' k' => ?_
        exact q e (backS s (wrC x) A s') M' a' w' hk ⟨st'.tm, st'.sz, st'.df, ⟨st'.h.obj, st'.h.inj, st'.h.wf, st'.h.gw, st'.h.gf, st'.h.fz, st'.h.fo⟩⟩ rd' fr' (f'.more z4) ⟨k'.1, fun id hid => (k'.2 id hid).trans (z5 id hid)⟩
    · exact leaf_ok hm hs h
end
end Go.Proofs.YtlfehgagnelbhaaGreatDoor.Ex
