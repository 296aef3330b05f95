/- Walks by symbols: a walk that meets its conditions goes as it says. -/
import Derived.Test.YtiikiphkhfmlcaaGreatDoorWe
noncomputable section
namespace Go.Proofs.YtiikiphkhfmlcaaGreatDoor.Ex
open Go

def TriF (P : Program) (f : FuncId) (args : List AV) (h : AH) (K : AV → AH → Prop) : Prop := ∀ (M : Mp) (us : List Value) (w : World) (r : Option Nat) (R : Ending → World → Prop), AV.RL M args us → Rel M h w → FreshA M h.nx →
  (∀ v h' M' u w', K v h' → v.R M' u → Rel M' h' w' → FreshA M' h'.nx → FrO (OwnP M h) w (OwnP M' h') w' → (∀ id, id < h.nx → M' id = M id) → R (.returned u) w') →
  (callFunc f us.toArray).run P w = .ok (.enter f us.toArray) w ∧ CallsIn (FW r) 0 P f us.toArray w R
section
variable {P : Program} {sm : FuncId → Option Sm}

theorem leaf_ok (hm : P.follows .mixedOrders = true) (hs : SmOK P sm) {n : Nat} {c : Code} {s : St} {K : AX → St → Prop} (h : (execT P sm n c s).all fun p => K p.1 p.2) : TriC P c s fun x s' => K x s' ∧ Frm c s s' := by
  obtain ⟨⟨x, s'⟩, h1, h2⟩ := T.all_sel h
  rw [execT_sel] at h1
  obtain ⟨⟨g1, ga⟩, g2, g3, _⟩ := (exec_good hm hs n).code _ _ _ _ h1
  exact tri_exec hm hs h1 ⟨h2, fun t ht _ => exec_wr n c s x s' h1 t ht, g1, ga.bs, ga.wl, ga.log, g2, g3⟩
theorem loopW_ok {x : Code} {wxc : St → (AX → St → Prop) → Prop} (hw : ∀ s K, wxc s K → TriC P x s fun e s' => K e s' ∧ Frm x s s') {s0 : St} {K : AX → St → Prop} : ∀ (m : Nat) (s : St), Frm (.loop x) s0 s → loopW wxc m s K →
    ∀ (M : Mp) (a : Act) (w : World) (r : Option Nat) (Q : Exit → Act → World → Prop), StR M s a w → RdR M s.rd r → FreshA M s.h.nx →
      (∀ e s' M' a' w', (K e s' ∧ Frm (.loop x) s0 s') → StR M' s' a' w' → RdR M' s'.rd r → FreshA M' s'.h.nx → FrO (OwnP M s.h) w (OwnP M' s'.h) w' → (s.h.nx ≤ s'.h.nx ∧ ∀ id, id < s.h.nx → M' id = M id) → Q (exitOf e) a' w') → Code.roundsIn (FW r) 0 P x Q m a w
  | 0, s, _, h => h.elim
  | m + 1, s, hf, h => fun M a w r Q st rd fr q => by
    rw [roundsIn_succ]
    refine hw s _ h M a w r _ st rd fr fun e s' M' a' w' ⟨hk, hfr⟩ st' rd' fr' f' k' => ?_
    have hf' : Frm (.loop x) s0 s' := hf.trans (hfr.code (b := .loop x) fun t ht => ht) (fun t ht => ⟨ht, ht⟩)
    cases e with
    | nm => exact loopW_ok hw m s' hf' hk M' a' w' r Q st' rd' fr' fun e s2 M2 a2 w2 hk2 st2 rd2 fr2 f2 k2 => q e s2 M2 a2 w2 hk2 st2 rd2 fr2 (f'.trans f2) ⟨Nat.le_trans k'.1 k2.1, fun id hid => (k2.2 id (Nat.lt_of_lt_of_le hid k'.1)).trans (k'.2 id hid)⟩
    | ex id => exact q _ s' M' a' w' ⟨hk, hf'⟩ st' rd' fr' f' k'
    | rt => exact q _ s' M' a' w' ⟨hk, hf'⟩ st' rd' fr' f' k'
theorem filtLt_mem {n x : Nat} : ∀ {l : List Nat}, x ∈ l → x < n → x ∈ filtLt n l
  | [], h, _ => by simp at h
  | y :: l, h, hn => by
    simp only [filtLt, nblt, Bool.cond_decide]
    rcases List.mem_cons.1 h with rfl | h
    · rw [if_pos hn]; simp
    · split
      · exact List.mem_cons_of_mem _ (filtLt_mem h hn)
      · exact filtLt_mem h hn
theorem zip_full {α : Type} : ∀ {l : List Nat} {k : List α}, k.length = l.length → ∀ x ∈ l, ∃ v, (x, v) ∈ l.zip k
  | [], _, _, x, hx => by simp at hx
  | y :: l, [], h, x, hx => by simp at h
  | y :: l, v :: k, h, x, hx => by
    rcases List.mem_cons.1 hx with rfl | hx
    · exact ⟨v, by simp⟩
    · obtain ⟨u, hu⟩ := zip_full (l := l) (k := k) (by simpa using h) x hx
      exact ⟨u, by simp [hu]⟩

/-- A function whose body is walked. -/
theorem body_call {f : FuncId} {fn : Func} {c : Code} (hf : P.funcs[f]? = some fn) (hok : okFn fn = true) (hb : fn.body = some c) {args : List AV} {tm : Tr AV} (htm : initT .lf 0 args = some tm) {h : AH} {KB : AX → St → Prop} {K : AV → AH → Prop}
    (hw : TriC P c ⟨tm, max fn.ntmps args.length, [], none, h⟩ KB) (hk : ∀ x s', KB x s' → ∃ v h', finA P fn x s' = some (v, h') ∧ K v h') : TriF P f args h K := by
  intro M us w r R ra rr fr k
  refine ⟨?_, ?_⟩
  · have hnn : ¬ (fn.name = "runtime.NumGoroutine") := by simpa [okFn] using hok
    simp [callFunc, hf, hnn, hb]
  · show CallsIn (FW none) 0 P f us.toArray w R
    refine callsIn_of_wp_marks hf hb trivial ?_
    have hl := RL_length ra
    refine hw M _ w none _ ⟨?_, ?_, rfl, rr⟩ rfl fr ?_
    · simp only
      exact initT_TR htm ra
    · simp only [Array.size_append, List.size_toArray, Array.size_replicate, hl]; omega
    · intro x s' M' a' w' hkb st _ fr' f' k'
      obtain ⟨v, h', hfin, hK⟩ := hk x s' hkb
      have main : ∀ {h2 : AH}, takeAll s'.h s'.df = some h2 → (match resA P s'.tm h2 fn.results.toList with | some v => some (v, h2) | none => none) = some (v, h') → LeavesInM (FW none) 0 P fn a'.tmps R a'.defers .returning w' := fun {h2} htk hres => by
        split at hres
        · rename_i v2 hv2
          simp only [Option.some.injEq, Prod.mk.injEq] at hres
          obtain ⟨rfl, rfl⟩ := hres
          have tk := takeAll_ok (M := M') (fn := fn) (tmps := a'.tmps) (R := R) (r := none) (P := P) htk st.df st.h
          exact tk.2 (fun w2 t1 t2 t3 => by
            obtain ⟨u, e1, e2⟩ := resA_ok (a := a') hv2 st.tm t1
            exact ⟨u, e1, k v2 h2 M' u w2 hK e2 t1 (fun id hi => fr' id (by rw [tk.1]; exact hi)) (f'.trans t2.frO) k'.2⟩)
        · cases hres
      unfold finA at hfin
      split at hfin
      · cases hfin
      · rename_i hne
        split at hfin
        · rename_i h2 htk
          have := main htk hfin
          cases x with
          | nm => exact this
          | rt => exact this
          | ex id => exact absurd rfl (hne id)
        · cases hfin
theorem finA_ab {fn : Func} {x : AX} {s : St} {v : AV} {h' : AH} (e : finA P fn x s = some (v, h')) : Ab s.h h' := by
  unfold finA at e
  split at e
  · cases e
  · split at e
    · rename_i h2 htk
      split at e
      · simp only [Option.some.injEq, Prod.mk.injEq] at e
        obtain ⟨_, rfl⟩ := e
        exact takeAll_ab htk
      · cases e
    · cases e
/-- A range over a function whose own loops are walked. -/
theorem range_tri {g : Operand} {ps : Array Tmp} {asg bo : Code} {s : St} {gf : FuncId} {args : List AV} {l : Nat} {df : List Nat} {h1 : AH} (hin : rangeIn g ps asg bo s = some (gf, args, l, df, h1)) {K : AX → St → Prop}
    (hF : TriF P gf args h1 fun _ h2 => (h1.nx ≤ h2.nx ∧ h2.bs = h1.bs ∧ (∀ x, x ∈ h1.wl → x ∈ h2.wl) ∧ ∀ x, x < h1.bs → x < h1.nx → x ∉ h2.wl → h2.get x = h1.get x) ∧ ∃ x' s'', rangeOut s df l h2 = some (x', s'') ∧ K x' s'') :
    TriC P (.rangeFunc g ps asg bo) s fun x s' => K x s' ∧ Frm (.rangeFunc g ps asg bo) s s' := by
  unfold rangeIn at hin
  split at hin
  case h_2 => cases hin
  rename_i gf' caps hgf
  split at hin
  case h_2 => cases hin
  rename_i hrd
  split at hin
  case h_2 => cases hin
  rename_i hd0 hn0
  split at hin
  case h_2 => cases hin
  rename_i h1' hn1
  simp only [Option.some.injEq, Prod.mk.injEq] at hin
  obtain ⟨rfl, rfl, rfl, rfl, rfl⟩ := hin
  intro M a w r Q sr rr fr q
  have hnx0 := (AH.new_nx hn0).1
  have hnx1 := (AH.new_nx hn1).1
  have ab0 := (new_ab hn0).trans (new_ab hn1)
  rw [hrd] at rr
  simp only [RdR] at rr; subst rr
  refine wpIn_rangeFunc (fun fn _ => ?_)
  obtain ⟨p1, p2, p3⟩ := new_ok (ob := .deferred (some [])) (κ := 0) sr.h hn0 (fr s.h.nx (Nat.le_refl _)) (by simp [ObR])
  have hD : updM M s.h.nx (w.heap.size, 0) s.h.nx = some (w.heap.size, 0) := by simp [updM]
  have erun : (Instr.enterLoop fn a.tmps ps asg bo none).run P w = .ok ((w.alloc (.deferred (some []))).heap.size, [{ target := .collected w.heap.size, args := #[] }]) ((w.alloc (.deferred (some []))).alloc (.loop { state := .ready, pending := none, fn, tmps := a.tmps, params := ps, assign := asg, body := bo, defers := w.heap.size })) := by
    rw [run_enterLoop_outer, World.size_alloc]
  have frs : FreshA (updM M s.h.nx (w.heap.size, 0)) hd0.nx := fun id hid => by
    simp only [updM]
    have : id ≠ s.h.nx := by omega
    simp only [this, if_false]
    exact fr id (by omega)
  obtain ⟨q1, q2, q3⟩ := new_ok (κ := 0) (ob := .loop { state := .ready, pending := none, fn, tmps := a.tmps, params := ps, assign := asg, body := bo, defers := w.heap.size }) p1 hn1 (frs hd0.nx (Nat.le_refl _)) ⟨fn, a.tmps, w.heap.size, 0, hD, sr.tm.mono p2.ext, sr.sz, rfl⟩
  have hev := ev_ok sr.tm g
  rw [hgf] at hev
  simp only [AV.R] at hev
  obtain ⟨cvs, rcv, hev⟩ := hev
  have f12 := p2.trans (by omega) (by omega) q2
  have hL : updM (updM M s.h.nx (w.heap.size, 0)) hd0.nx ((w.alloc (.deferred (some []))).heap.size, 0) hd0.nx = some ((w.alloc (.deferred (some []))).heap.size, 0) := by simp [updM]
  have ra : AV.RL (updM (updM M s.h.nx (w.heap.size, 0)) hd0.nx ((w.alloc (.deferred (some []))).heap.size, 0)) (.yl hd0.nx :: caps) (.func (.yield (w.alloc (.deferred (some []))).heap.size) #[] #[] :: cvs) := by
    simp only [AV.RL]
    exact ⟨_, _, by simp only [AV.R]; exact ⟨_, 0, hL, rfl⟩, AV.RL.mono f12.ext _ _ rcv, rfl⟩
  have frs2 : FreshA (updM (updM M s.h.nx (w.heap.size, 0)) hd0.nx ((w.alloc (.deferred (some []))).heap.size, 0)) h1'.nx := fun id hid => by
    have h1 : id ≠ hd0.nx := by omega
    have : (updM (updM M s.h.nx (w.heap.size, 0)) hd0.nx ((w.alloc (.deferred (some []))).heap.size, 0)) id = (updM M s.h.nx (w.heap.size, 0)) id := by simp only [updM, h1, if_false]
    rw [this]; exact frs id (by omega)
  obtain ⟨cf, cc⟩ := hF _ (.func (.yield (w.alloc (.deferred (some []))).heap.size) #[] #[] :: cvs) _ none (rangePost (FW none) 0 P (w.alloc (.deferred (some []))).heap.size Q { a with defers := [{ target := .collected w.heap.size, args := #[] }] ++ a.defers }) ra q1 frs2 (fun v h2 M' u w' hK rv rh2 fr2 f2 k2 => by
    obtain ⟨⟨x1, x2, x3, x4⟩, x', s'', hout, hk⟩ := hK
    have hM2 : M' hd0.nx = some ((w.alloc (.deferred (some []))).heap.size, 0) := by rw [k2 _ (by omega)]; exact hL
    unfold rangeOut at hout
    split at hout
    case h_2 => cases hout
    rename_i st pe tm2 sz2 ps2 asg2 bo2 D2 hg2
    have hfin : ∃ h3, st ≠ .busy ∧ h2.put hd0.nx (some (.loop .exhausted pe tm2 sz2 ps2 asg2 bo2 D2)) = some h3 ∧ outR { s with df := s.h.nx :: s.df, h := h3 } pe = some (x', s'') := by
      split at hout
      · rename_i h3 hp
        cases hnb : busyB st with
        | true => rw [hnb] at hout; cases hout
        | false => rw [hnb] at hout; exact ⟨h3, (fun e => by rw [e] at hnb; cases hnb), hp, hout⟩
      · cases hout
    obtain ⟨h3, hst, hp3, hout⟩ := hfin
    obtain ⟨ob, hb, fn2, tmps2, bD2, cD2, hD2, rt2, hsz2, rfl⟩ := Ob_of rh2 hg2 hM2
    obtain ⟨y1, y2, y3⟩ := put_ok (w' := w'.putObj (w.alloc (.deferred (some []))).heap.size (.loop { state := .exhausted, pending := pe, fn := fn2, tmps := tmps2, params := ps2, assign := asg2, body := bo2, defers := bD2 })) rh2 hg2 hp3 hM2 (upd_setObj (heap_lt hb)) ⟨fn2, tmps2, bD2, cD2, hD2, rt2, hsz2, rfl⟩
    have hle : Le M M' := ⟨fun id p e => by
        have := f12.ext _ _ e
        rw [k2 id (Classical.byContradiction fun hc => by rw [frs2 id (by omega)] at this; cases this)]; exact this, fun b cs e => f2.zm b cs (f12.ext.z b cs e)⟩
    have hleD : M' s.h.nx = some (w.heap.size, 0) := by rw [k2 _ (by omega)]; exact q2.ext _ _ hD
    have hnx3 := (AH.put_nx hp3).1
    have abp := put_ab hg2 hp3
    have frm : ∀ x s2, s2 = { s with df := s.h.nx :: s.df, h := h3 } → K x s2 → K x s2 ∧ Frm (.rangeFunc g ps asg bo) s s2 := fun x s2 e hk => by
      subst e
      refine ⟨hk, fun _ _ _ => rfl, by show s.h.nx ≤ h3.nx; omega, ?_, fun y hy => ?_, fun y y1 y2 y3 => ?_, rfl, rfl⟩
      · show h3.bs = s.h.bs
        rw [abp.bs, x2, ab0.bs]
      · exact abp.wl y (x3 y (ab0.wl y hy))
      · show h3.get y = s.h.get y
        have n2 : y ∉ h2.wl := fun e => y3 (abp.wl y e)
        have n1 : y ∉ h1'.wl := fun e => n2 (x3 y e)
        rw [abp.log y (by rw [x2, ab0.bs]; exact y1) (by omega) y3, x4 y (by rw [ab0.bs]; exact y1) (by omega) n2, ab0.log y y1 y2 n1]
    have hfr : FreshA M' h3.nx := fun id hid => fr2 id (by omega)
    have hfo : FrO (OwnP M s.h) w (OwnP M' h3) (w'.putObj (w.alloc (.deferred (some []))).heap.size (.loop { state := .exhausted, pending := pe, fn := fn2, tmps := tmps2, params := ps2, assign := asg2, body := bo2, defers := bD2 })) := (f12.frO.trans f2).trans y2.frO
    have hids : s.h.nx ≤ h3.nx ∧ ∀ id, id < s.h.nx → M' id = M id := ⟨by omega, fun id hid => by
      rw [k2 id (by omega)]
      have e1 : id ≠ hd0.nx := by omega
      have e2 : id ≠ s.h.nx := by omega
      simp only [updM, e1, e2, if_false]⟩
    have hstr : StR M' { s with df := s.h.nx :: s.df, h := h3 } { a with defers := [{ target := .collected w.heap.size, args := #[] }] ++ a.defers } (w'.putObj (w.alloc (.deferred (some []))).heap.size (.loop { state := .exhausted, pending := pe, fn := fn2, tmps := tmps2, params := ps2, assign := asg2, body := bo2, defers := bD2 })) :=
      ⟨sr.tm.mono hle, sr.sz, ⟨w.heap.size, 0, _, hleD, sr.df.mono hle, rfl⟩, y1⟩
    have fin : ∀ x, K x { s with df := s.h.nx :: s.df, h := h3 } → Q (exitOf x) { a with defers := [{ target := .collected w.heap.size, args := #[] }] ++ a.defers } (w'.putObj (w.alloc (.deferred (some []))).heap.size (.loop { state := .exhausted, pending := pe, fn := fn2, tmps := tmps2, params := ps2, assign := asg2, body := bo2, defers := bD2 })) := fun x hk =>
      q x _ M' _ _ (frm x _ rfl hk) hstr (by rw [show ({ s with df := s.h.nx :: s.df, h := h3 } : St).rd = s.rd from rfl, hrd]; rfl) hfr hfo hids
    refine afterR_post (run_endLoop hb hst) ?_
    unfold outR at hout
    split at hout
    · simp only [Option.some.injEq, Prod.mk.injEq] at hout
      obtain ⟨rfl, rfl⟩ := hout
      exact fin .nm hk
    · simp only [Option.some.injEq, Prod.mk.injEq] at hout
      obtain ⟨rfl, rfl⟩ := hout
      exact wpIn_ret (fin .rt hk)
    · simp only [Option.some.injEq, Prod.mk.injEq] at hout
      obtain ⟨rfl, rfl⟩ := hout
      exact wpIn_exit (fin (.ex _) hk)
    · cases hout)
  refine ⟨(w.alloc (.deferred (some []))).heap.size, [{ target := .collected w.heap.size, args := #[] }], (w.alloc (.deferred (some []))).alloc (.loop { state := .ready, pending := none, fn, tmps := a.tmps, params := ps, assign := asg, body := bo, defers := w.heap.size }), { target := .fn (.func gf') cvs.toArray, args := #[.func (.yield (w.alloc (.deferred (some []))).heap.size) #[] #[]] }, (w.alloc (.deferred (some []))).alloc (.loop { state := .ready, pending := none, fn, tmps := a.tmps, params := ps, assign := asg, body := bo, defers := w.heap.size }), gf', (.func (.yield (w.alloc (.deferred (some []))).heap.size) #[] #[] :: cvs).toArray, (w.alloc (.deferred (some []))).alloc (.loop { state := .ready, pending := none, fn, tmps := a.tmps, params := ps, assign := asg, body := bo, defers := w.heap.size }), erun, ?_, fun _ _ => trivial, ?_, fun e => by simp [FW] at e, cc⟩
  · have hcn : ∀ v, a.eval (.const v) = v := fun _ => rfl
    simp [resolve, hev, hcn, Deferred.ofValue]
  · have e : (#[Value.func (.yield (w.alloc (.deferred (some []))).heap.size) #[] #[]] ++ cvs.toArray) = (.func (.yield (w.alloc (.deferred (some []))).heap.size) #[] #[] :: cvs).toArray := by apply Array.ext'; simp
    simp only [invoke, e]
    exact cf

theorem wx_ok (hm : P.follows .mixedOrders = true) (hs : SmOK P sm) {ann : Nat → Option (St → LoopA)} : ∀ (n : Nat) (c : Code) (b : Nat) (s : St) (K : AX → St → Prop), wx P sm ann n c b s K → TriC P c s fun x s' => K x s' ∧ Frm c s s'
  | 0, c, b, s, K, h => h.elim
  | n + 1, c, b, s, K, h => by
    unfold wx at h
    split at h
    · rename_i x y
      refine tri_seq ((wx_ok hm hs n x b s _ h).mono fun e s' ⟨hk, hf⟩ => ?_)
      cases e with
      | nm => exact (wx_ok hm hs n y _ s' _ hk).mono fun e s2 ⟨hk2, hf2⟩ => ⟨hk2, hf.trans hf2 (fun t ht => by simpa [wrC] using ht)⟩
      | ex id => exact ⟨hk, hf.code fun t ht => by simp [wrC] at ht; exact ht.1⟩
      | rt => exact ⟨hk, hf.code fun t ht => by simp [wrC] at ht; exact ht.1⟩
    · rename_i id x
      refine tri_block ((wx_ok hm hs n x b s _ h).mono fun e s' ⟨hk, hf⟩ => ?_)
      have hf' : Frm (.block id x) s s' := hf.code fun t ht => ht
      cases e with
      | nm => exact ⟨hk, hf'⟩
      | rt => exact ⟨hk, hf'⟩
      | ex j =>
        simp only [Bool.cond_eq_ite] at hk ⊢
        split at hk
        · rename_i hj; rw [if_pos hj]; exact ⟨hk, hf'⟩
        · rename_i hj; rw [if_neg hj]; exact ⟨hk, hf'⟩
    · rename_i x
      exact tri_scope ((wx_ok hm hs n x b s K h).mono fun e s' ⟨hk, hf⟩ => ⟨hk, hf.code fun t ht => ht⟩)
    · rename_i t x y
      have hx : ∀ e s', (K e s' ∧ Frm x s s') → K e s' ∧ Frm (.cond t x y) s s' := fun e s' ⟨hk, hf⟩ => ⟨hk, hf.code fun t ht => by simp [wrC] at ht; exact ht.1⟩
      have hy : ∀ e s', (K e s' ∧ Frm y s s') → K e s' ∧ Frm (.cond t x y) s s' := fun e s' ⟨hk, hf⟩ => ⟨hk, hf.code fun t ht => by simp [wrC] at ht; exact ht.2⟩
      split at h
      · rename_i q hq
        refine tri_cond (.inl hq) (fun e => ?_) (fun e => ?_)
        · subst e; exact (wx_ok hm hs n x b s K h).mono hx
        · subst e; exact (wx_ok hm hs n y _ s K h).mono hy
      · rename_i q hq
        exact tri_cond (.inr hq) (fun e => (wx_ok hm hs n x b s K (h.1 e)).mono hx) (fun e => (wx_ok hm hs n y _ s K (h.2 e)).mono hy)
      · exact h.elim
    · rename_i x
      split at h
      · intro M a w r Q st rd fr q
        exact wpIn_loop_rounds n (loopW_ok (fun s K h => wx_ok hm hs n x (b + 1) s K h) n s ⟨fun _ _ _ => rfl, Nat.le_refl _, rfl, fun _ e => e, fun _ _ _ _ => rfl, rfl, rfl⟩ h M a w r Q st rd fr q)
      · rename_i A0 hA
        obtain ⟨ok, ⟨i0, hp0, hl0, hm0⟩, hbody⟩ := h
        clear hA
        generalize hA : A0 s = A at i0 ok hp0 hl0 hm0 hbody
        intro M a w r Q st rd fr q
        obtain ⟨g0, M1, z1, z2, z3, z4, z5⟩ := found_head ok hm0 (fun _ _ _ => rfl) (fun _ _ _ _ => rfl) rfl rfl rfl st rd fr M a w st fr
        -- a round ends where another one begins, or leaves
        have main := tri_loop (P := P) (c := x) (K := fun e s' => K e (backS s (wrC x) A s') ∧ Frm (.loop x) s (backS s (wrC x) A s')) s.h.nx (fun m s1 => ∃ g i, A.pre i ∧ A.ms i = m ∧ s1 = headS s (wrC x) A g i) (fun m s1 ⟨g, i, hp, hms, he⟩ => by subst he; exact Nat.le_add_right _ _) (fun m s1 ⟨g, i, hp, hms, he⟩ => by
          subst he
          refine (wx_ok hm hs n x (b + 1) _ _ (hbody g i hp)).mono fun e s' ⟨hk, hf⟩ => ?_
          have htm : ∀ t, t ∉ wrC x → t ∉ A.tms → frzM t ∉ s'.h.wl → s'.tm.get (t + 1) = s.tm.get (t + 1) := fun t ht htt hlg => by
            rw [hf.tm t ht hlg]
            rcases head_tm (g := g) (i := i) ok t with ⟨v, hv, _⟩ | ⟨hW, _⟩ | ⟨_, _, e⟩
            · exact absurd (zip_mem (v := v) hv) htt
            · exact absurd hW ht
            · exact e
          have hget : ∀ id, id < s.h.nx → id ∉ A.ids → id ∉ A.del → id ∉ s'.h.wl → s'.h.get id = s.h.get id := fun id h1 h2 h3 h4 => by
            rw [hf.log id h1 (show id < s.h.nx + A.ex by omega) h4]
            rcases head_get (g := g) (i := i) ok id with ⟨c, hc, _⟩ | ⟨_, hd, _⟩ | ⟨_, _, e⟩
            · exact absurd (zip_mem (v := c) hc) h2
            · exact absurd hd h3
            · exact e
          have leave : ∀ e : AX, K e (backS s (wrC x) A s') → K e (backS s (wrC x) A s') ∧ Frm (.loop x) s (backS s (wrC x) A s') := fun e hk => by
            refine ⟨hk, fun t ht hlg => ?_, ?_, rfl, fun y hy => List.mem_append_right _ hy, fun y h1 h2 h3 => ?_, hf.sz, hf.rd⟩
            · have hlg : frzM t ∉ filtLt s.h.bs (A.ids ++ A.del ++ s'.h.wl) ++ (logT (wrC x) A.tms ++ filtGe s'.h.wl) ++ s.h.wl := hlg
              simp only [List.mem_append, not_or] at hlg
              exact htm t ht (fun q => hlg.1.2.1 (logT_mem q ht)) (fun q => hlg.1.2.2 (filtGe_mem q (Nat.le_add_right _ _)))
            · have := hf.nx
              have : s.h.nx + A.ex ≤ s'.h.nx := this
              show s.h.nx ≤ s'.h.nx
              omega
            · have h3 : y ∉ filtLt s.h.bs (A.ids ++ A.del ++ s'.h.wl) ++ (logT (wrC x) A.tms ++ filtGe s'.h.wl) ++ s.h.wl := h3
              have hn : y ∉ A.ids ++ A.del ++ s'.h.wl := fun hy => h3 (List.mem_append_left _ (List.mem_append_left _ (filtLt_mem hy h1)))
              simp only [List.mem_append, not_or] at hn
              exact hget y h2 hn.1.1 hn.1.2 hn.2
          cases e with
          | nm =>
            obtain ⟨hend, i', hp', hlt, hl', hm'⟩ := hk
            simp only [endOk, Bool.and_eq_true, List.all_eq_true, Bool.or_eq_true, memN_iff, nble, decide_eq_true_eq] at hend
            refine ⟨A.ms i', by rw [← hms]; exact hlt, fun M' a' w' st' fr' => ?_⟩
            simp only [lenOk, Bool.and_eq_true] at hl'
            have hl2 : (A.tmU i').length = A.tms.length := beqN hl'.2
            have hl' : (A.hpU i').length = A.ids.length := beqN hl'.1
            obtain ⟨g', M2, y1, y2, y3, y4, y5⟩ := found_head ok hm' (fun t ht hT => by
              have hnt : t ∉ A.tms := fun hi => by
                obtain ⟨v, hv⟩ := zip_full hl2 t hi
                exact hT v hv
              refine htm t ht hnt (fun hw => ?_)
              have h32 : 4294967296 ≤ frzM t := Nat.le_add_right _ _
              have ok2 := ok
              simp only [okA, Bool.and_eq_true] at ok2
              rcases hend.1.1 _ hw with (q | q) | q
              · have := allLt_ok ok2.1.1.1.1.1.2 _ q; omega
              · have := allLt_ok ok2.1.1.1.1.2 _ q; omega
              · have e : Nat.sub (frzM t) 4294967296 = t := Nat.add_sub_cancel_left _ _
                rw [e] at q; exact hnt q.2) (fun id h1 h2 h3 => by
              have hni : id ∉ A.ids := fun hi => by
                obtain ⟨v, hv⟩ := zip_full hl' id hi
                exact h2 v hv
              exact hget id h1 hni h3 (fun hw => by
                rcases hend.1.1 id hw with (q | q) | q
                · exact hni q
                · exact h3 q
                · have h9 := q.1
                  have h10 := hend.2
                  omega)) hf.sz (eqNs_ok hend.1.2) hf.rd st rd fr M' a' w' st' fr'
            exact ⟨_, M2, ⟨g', i', hp', rfl, rfl⟩, y1, y2, y3, y4, y5⟩
          | ex id => exact leave _ hk
          | rt => exact leave _ hk) (A.ms i0) (headS s (wrC x) A g0 i0) ⟨g0, i0, hp0, rfl, rfl⟩
        refine main M1 a w r Q z1 (z3 r rd) z2 fun e s' M' a' w' hk st' rd' fr' f' k' => ?_
        exact q e (backS s (wrC x) A s') M' a' w' hk ⟨st'.tm, st'.sz, st'.df, ⟨st'.h.obj, st'.h.inj, st'.h.wf, st'.h.gw, st'.h.gf, st'.h.fz, st'.h.fo⟩⟩ rd' fr' (f'.more z4) ⟨k'.1, fun id hid => (k'.2 id hid).trans (z5 id hid)⟩
    · rename_i g ps asg bo
      split at h
      · exact leaf_ok hm hs h
      · split at h
        case h_2 => exact h.elim
        rename_i gf args l df h1 hin
        split at h
        case h_2 => exact h.elim
        rename_i fn hf
        cases hok : okFn fn with
        | false => rw [hok] at h; exact h.elim
        | true =>
          rw [hok, cond_true] at h
          split at h
          case h_2 => exact h.elim
          rename_i cb hb
          split at h
          case h_2 => exact h.elim
          rename_i tm htm
          refine range_tri hin (body_call hf hok hb htm (wx_ok hm hs n cb _ _ _ h) fun x s' ⟨hk, hf'⟩ => ?_)
          split at hk
          case h_2 => exact hk.elim
          rename_i v h2 hfin
          have ab := finA_ab hfin
          split at hk
          case h_2 => exact hk.elim
          rename_i x' s'' hout
          refine ⟨v, h2, hfin, ⟨Nat.le_trans hf'.nx ab.nx, ab.bs.trans hf'.bs, fun y hy => ab.wl y (hf'.wl y hy), fun y y1 y2 y3 => ?_⟩, x', s'', hout, hk⟩
          rw [ab.log y (by rw [hf'.bs]; exact y1) (Nat.lt_of_lt_of_le y2 hf'.nx) y3, hf'.log y y1 y2 (fun e => y3 (ab.wl y e))]
    · exact leaf_ok hm hs h
end
end Go.Proofs.YtiikiphkhfmlcaaGreatDoor.Ex
