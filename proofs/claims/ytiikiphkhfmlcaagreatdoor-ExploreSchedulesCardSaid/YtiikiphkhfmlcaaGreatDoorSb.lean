/- Contracts that were walked by hand; closed runs that hand back a text. -/
import Derived.Test.YtiikiphkhfmlcaaGreatDoorExQ
import Derived.Test.YtiikiphkhfmlcaaGreatDoorWh
import Derived.Below
noncomputable section
namespace Go.Proofs.YtiikiphkhfmlcaaGreatDoor.Ex
open Go Go.RowKit

def isY (b : Bool) (o : Option (AV × AH)) : Bool := match o with | some (.b x, _) => x == b | some (.yb x, _) => x == b | _ => false
/-- A closed run that ends at a truth value, maybe by way of a symbol. -/
theorem callY_calls {P : Program} (hm : P.follows .mixedOrders = true) {sm : FuncId → Option Sm} (hs : SmOK P sm) {n f : Nat} {b : Bool} {args : List AV} {us : List Value} (h : isY b (callS P sm n f args) = true) (ra : AV.RL noM args us) (w : World) (hw : GW w) :
    Calls P f us.toArray w fun e w' => e = .returned (.bool b) ∧ Below w.heap.size w w' := by
  unfold callS at h
  cases hc : callA P ⟨exec P sm n, sm⟩ f args ⟨.lf, 0, 0, []⟩ with
  | none => rw [hc] at h; cases h
  | some p =>
    obtain ⟨v, h'⟩ := p
    rw [hc] at h
    obtain ⟨_, c⟩ := callA_ok (exec_good hm hs n) hc
    have hr : Rel noM ⟨.lf, 0, 0, []⟩ w := ⟨fun x o e => by simp [get_lf] at e, fun x y b κ κ' o hx => by simp [get_lf] at hx, fun x hx => absurd (get_lf _ _ _ x) hx, hw, fun x b κ o hx => (by simp [get_lf] at hx), fun b cs e => (by cases e), fun x b κ o hx => (by simp [get_lf] at hx)⟩
    obtain ⟨_, cc⟩ := c noM us w none (fun e w' => e = .returned (.bool b) ∧ Below w.heap.size w w') ra hr (fun _ _ _ => rfl) (fun M' u w' rv rh f _ => by
      cases v <;> simp only [isY, Bool.false_eq_true, beq_iff_eq] at h
      all_goals subst h
      all_goals simp only [AV.R] at rv
      all_goals
      refine ⟨by rw [rv], f.os, f.tape, f.output, f.size, fun k hk => f.keep k hk (fun id κ o hg => by simp [get_lf] at hg)⟩)
    exact CallsIn.calls cc (fun k d hd => by simp [FW] at hd)
def isS (l : List UInt8) (o : Option (AV × AH)) : Bool := match o with | some (.s l', _) => l == l' | _ => false
theorem callS_str {P : Program} (hm : P.follows .mixedOrders = true) {sm : FuncId → Option Sm} (hs : SmOK P sm) {n f : Nat} {l : List UInt8} {args : List AV} {us : List Value} (h : isS l (callS P sm n f args) = true) (ra : AV.RL noM args us) (w : World) (hw : GW w) :
    Calls P f us.toArray w fun e w' => e = .returned (.string ⟨l.toArray⟩) ∧ Below w.heap.size w w' := by
  unfold callS at h
  cases hc : callA P ⟨exec P sm n, sm⟩ f args ⟨.lf, 0, 0, []⟩ with
  | none => rw [hc] at h; cases h
  | some p =>
    obtain ⟨v, h'⟩ := p
    rw [hc] at h
    obtain ⟨_, c⟩ := callA_ok (exec_good hm hs n) hc
    have hr : Rel noM ⟨.lf, 0, 0, []⟩ w := ⟨fun x o e => by simp [get_lf] at e, fun x y b κ κ' o hx => by simp [get_lf] at hx, fun x hx => absurd (get_lf _ _ _ x) hx, hw, fun x b κ o hx => (by simp [get_lf] at hx), fun b cs e => (by cases e), fun x b κ o hx => (by simp [get_lf] at hx)⟩
    obtain ⟨_, cc⟩ := c noM us w none (fun e w' => e = .returned (.string ⟨l.toArray⟩) ∧ Below w.heap.size w w') ra hr (fun _ _ _ => rfl) (fun M' u w' rv rh f _ => by
      cases v <;> simp only [isS, Bool.false_eq_true, beq_iff_eq] at h
      subst h
      simp only [AV.R] at rv
      refine ⟨by rw [rv], f.os, f.tape, f.output, f.size, fun k hk => f.keep k hk (fun id κ o hg => by simp [get_lf] at hg)⟩)
    exact CallsIn.calls cc (fun k d hd => by simp [FW] at hd)
/-- A contract that was walked by hand, where the package variables read as they are laid. -/
theorem ctS_hand {P : Program} {f : FuncId} {fn : Func} {gs : List Ag} {F : List Da → Option (Bool × AV)} (hf : P.funcs[f]? = some fn) (hok : okFn fn = true) (hb : fn.body.isSome = true)
    (hc : ∀ ds a us w, F ds = some (true, a) → DaRs w gs ds us → GW w → Calls P f us.toArray w fun e w' => ∃ u, e = .returned u ∧ (∀ M, a.R M u) ∧ Below w.heap.size w w') :
    SmCall P f (fun args h => (ctS gs F args h).sel) := by
  intro args h v h' hg
  obtain ⟨ds, e1, e⟩ := T.sel_bind_some hg
  split at e
  case h_2 => cases e
  rename_i b a hF
  obtain ⟨rfl, e⟩ := T.sel_must e
  have e := T.sel_ret e
  simp only [Prod.mk.injEq] at e
  obtain ⟨rfl, rfl⟩ := e
  refine ⟨⟨Nat.le_refl _, Ab.refl _⟩, fun M us w r R ra rr fr k => ⟨?_, ?_⟩⟩
  · have hnn : ¬ (fn.name = "runtime.NumGoroutine") := by simpa [okFn] using hok
    cases hbb : fn.body with
    | none => rw [hbb] at hb; cases hb
    | some c => simp [callFunc, hf, hnn, hbb]
  · have hd := rdA_ok e1 ra rr
    exact (callsIn_wide (n := 0)).2 ((hc ds a us w hF hd rr.gw).mono fun e w' ⟨u, he, hr, hbl⟩ => by
      subst he
      exact k M u w' (hr M) (rr.below hbl) ⟨hbl.os, hbl.tape, hbl.output, hbl.size, Le.refl M, fun _ e => absurd rfl e, fun q hq _ => hbl.block q hq, fun id b2 κ o q1 q2 => .inr ⟨id, κ, o, q1, q2, fun e => e⟩, fun b cs e => .inl e⟩ (Ab.refl _))
/-- A contract by walks of cases: each case its own contracts, and its own way to write the same data. -/
theorem ctS_any {P : Program} (hm : P.follows .mixedOrders = true) {f : FuncId} {gs : List Ag} {F : List Da → Option (Bool × AV)} (hc : cntA gs < 4294967296)
    (hw : ∀ ds a, F ds = some (true, a) → ∃ sm ds', SmOK P sm ∧ (∀ w us, DaRs w gs ds us → DaRs w gs ds' us) ∧ ∃ ann n, wxF P sm ann n f (canA gs ds' []).1 (heapOf (canA gs ds' []).2) (fun v _ => cmpC a v)) : SmCall P f (fun args h => (ctS gs F args h).sel) := by
  intro args h v h' hg
  obtain ⟨ds, e1, e⟩ := T.sel_bind_some hg
  split at e
  case h_2 => cases e
  rename_i b a hF
  obtain ⟨rfl, e⟩ := T.sel_must e
  have e := T.sel_ret e
  simp only [Prod.mk.injEq] at e
  obtain ⟨rfl, rfl⟩ := e
  refine ⟨⟨Nat.le_refl _, Ab.refl _⟩, fun M us w r R ra rr fr k => ?_⟩
  obtain ⟨sm, ds', hs, heq, ann, n, hw⟩ := hw ds a hF
  have hd := heq w us (rdA_ok e1 ra rr)
  obtain ⟨ks, q1, q2⟩ := canA_ok (bl := []) (bs := []) hd rfl
  rw [List.nil_append] at q1 q2
  have hlen : (canA gs ds' []).2.length < 4294967296 := by have := canA_len gs ds' []; simp at this; omega
  obtain ⟨q3, q4⟩ := heapOf_rel q1 hlen rr.gw
  refine wxF_ok hm hs hw (Mof ks) us w r R q2 q3 q4 fun v2 h2 M2 u w' hk rv rel2 _ fo _ => ?_
  have hsame : ∀ b, b < w.heap.size → w'.heap[b]? = w.heap[b]? := fun b hb => fo.keep b hb (own_none q1 hlen b)
  refine k M u w' (cmpC_R hk rv) ⟨fun id o e => ?_, rr.inj, rr.wf, fun g c hg => ?_, rr.gf, fz_kept rr (fun b hb _ => hsame b hb), rr.fo⟩ ⟨fo.os, fo.tape, fo.output, fo.size, Le.refl M, fun _ e => absurd rfl e, fun q hq _ => hsame q hq, fun id b2 κ o q1 q2 => .inr ⟨id, κ, o, q1, q2, fun e => e⟩, fun b cs e => .inl e⟩ (Ab.refl _)
  · rcases rr.obj id o e with hv | ⟨b, κ, ob, h1, h2, h3⟩
    · exact .inl hv
    · exact .inr ⟨b, κ, ob, h1, by rw [hsame b (heap_lt h2)]; exact h2, h3⟩
  · obtain ⟨vs, e, fr, h1, h2⟩ := rr.gw g c hg
    exact ⟨vs, e, fr, by rw [hsame g (heap_lt h1)]; exact h1, h2⟩
/-- A block that lies behind all that was there comes in by a new number. -/
theorem adopt_ok {M : Mp} {h h' : AH} {w w' : World} {ao : AO} {ob : Obj} {κ d : Nat} (r : Rel M h w) (hn : h.new ao = some h') (hM : M h.nx = none) (ho : ObR (updM M h.nx (d, κ)) κ ao ob) (hd : w.heap.size ≤ d) (hat : w'.heap[d]? = some ob)
    (hos : w'.os = w.os) (htp : w'.tape = w.tape) (hout : w'.output = w.output) (hsz : w.heap.size ≤ w'.heap.size) (hsame : ∀ b, b < w.heap.size → w'.heap[b]? = w.heap[b]?) :
    Rel (updM M h.nx (d, κ)) h' w' ∧ Fr h h' M (updM M h.nx (d, κ)) w w' ∧ Ab h h' := by
  have hle : Le M (updM M h.nx (d, κ)) := Le_updM hM
  have hg := AH.get_new hn
  obtain ⟨hnx, hbs, hwl⟩ := AH.new_nx hn
  have hother : ∀ id o, id ≠ h.nx → updM M h.nx (d, κ) id = some o → M id = some o := fun id o hne e => by simpa [updM, hne] using e
  refine ⟨⟨fun id o e => ?_, fun i j b κ1 κ2 oi h0 hro h2 e1 e2 => ?_, fun x hx => ?_, fun g c hg => ?_, fun x b κ' o hx hro hM' => ?_, fz_kept (M := M) r (fun b hb _ => hsame b hb), fun i b κ' o e1 hro e2 => ?_⟩, ⟨hos, htp, hout, hsz, hle, fun id e => ?_, fun k hk _ => hsame k hk, fun id b κ' o' e1 e2 => ?_, fun _ _ e => .inl e⟩, ⟨by omega, hbs, fun x hx => by rw [hwl]; exact hx, fun x hx hy hn => ?_, fun x hx => ?_⟩⟩
  · rw [hg] at e
    split at e
    · rename_i hid
      simp only [Option.some.injEq] at e; subst e
      exact .inr ⟨d, κ, ob, by simp [updM, hid], hat, ho⟩
    · rename_i hid
      rcases r.obj id o e with ⟨hv, h1⟩ | ⟨b, κ', ob', h1, h2, h3⟩
      · exact .inl ⟨hv, by simpa [updM, hid] using h1⟩
      · exact .inr ⟨b, κ', ob', hle _ _ h1, by rw [hsame b (heap_lt h2)]; exact h2, ObR.mono hle _ _ h3⟩
  · have h1 : h'.get i ≠ none := by simp [h0]
    rw [hg] at h0 h1 h2
    by_cases hi : i = h.nx <;> by_cases hj : j = h.nx
    · omega
    · have e2' := hother j _ hj e2
      have hjg : h.get j ≠ none := by simpa [hj] using h2
      have := r.lt hjg e2'
      simp [updM, hi] at e1; omega
    · have e1' := hother i _ hi e1
      have hig : h.get i ≠ none := by simpa [hi] using h1
      have := r.lt hig e1'
      simp [updM, hj] at e2; omega
    · exact r.inj i j b κ1 κ2 oi (by simpa [hi] using h0) hro (by simpa [hj] using h2) (hother i _ hi e1) (hother j _ hj e2)
  · rw [hg] at hx
    by_cases hid : x = h.nx
    · omega
    · have := r.wf x (by simpa [hid] using hx); omega
  · obtain ⟨vs, e, fr, h1, h2⟩ := r.gw g c hg
    exact ⟨vs, e, fr, by rw [hsame g (heap_lt h1)]; exact h1, h2⟩
  · rw [hg] at hx
    by_cases hid : x = h.nx
    · simp [updM, hid] at hM'
      cases hgl : GL b with
      | none => rfl
      | some c =>
        obtain ⟨vs, e, fr, h1, _⟩ := r.gw b c hgl
        have := heap_lt h1; omega
    · exact r.gf x b κ' o (by simpa [hid] using hx) hro (hother x _ hid hM')
  · by_cases hid : i = h.nx
    · simp [updM, hid] at e2
      exact r.fz_none (by omega)
    · exact r.fo i b κ' o (by rw [hg] at e1; simpa [hid] using e1) hro (hother i _ hid e2)
  · by_cases hid : id = h.nx
    · omega
    · exact absurd (by simp [updM, hid]) e
  · by_cases hid : id = h.nx
    · left; simp [updM, hid] at e2; omega
    · right; exact ⟨id, κ', o', by rw [hg] at e1; simpa [hid] using e1, hother id _ hid e2, fun e => e⟩
  · rw [hg]
    by_cases hid : x = h.nx
    · omega
    · simp [hid]
  · rw [hg] at hx
    by_cases hid : x = h.nx
    · right; omega
    · left; simpa [hid] using hx
/-- The same contract, said otherwise, or of less. -/
theorem ctS_weak {P : Program} {f : FuncId} {gs : List Ag} {F F' : List Da → Option (Bool × AV)} (h : SmCall P f (fun args h => (ctS gs F args h).sel))
    (hw : ∀ ds a, F' ds = some (true, a) → ∃ a', F ds = some (true, a') ∧ ∀ (M : Mp) u, a'.R M u → a.R M u) : SmCall P f (fun args h => (ctS gs F' args h).sel) := by
  intro args h0 v h' hg
  obtain ⟨ds, e1, e⟩ := T.sel_bind_some hg
  split at e
  case h_2 => cases e
  rename_i b a hF
  obtain ⟨rfl, e⟩ := T.sel_must e
  have e := T.sel_ret e
  simp only [Prod.mk.injEq] at e
  obtain ⟨rfl, rfl⟩ := e
  obtain ⟨a', e2, e3⟩ := hw ds _ hF
  have hg2 : (ctS gs F args h0).sel = some (a', h0) := by
    unfold ctS
    rw [T.sel_bind, e1]
    simp only [e2]
    rfl
  obtain ⟨k1, k2⟩ := h args h0 a' h0 hg2
  exact ⟨k1, fun M us w r R ra rr fr k => k2 M us w r R ra rr fr fun M' u w' rv rel f ab => k M' u w' (e3 M' u rv) rel f ab⟩
/-! A closed call that hands back a new slice of scalars. -/
def scA : AV → Bool
  | .b _ | .i _ _ | .s _ => true
  | _ => false
theorem scA_R {M M' : Mp} : ∀ {c : List AV} {vs : List Value}, c.all scA = true → AV.RL M c vs → AV.RL M' c vs
  | [], _, _, r => r
  | a :: c, vs, h, r => by
    simp only [List.all_cons, Bool.and_eq_true] at h
    obtain ⟨u, us, r1, r2, rfl⟩ := r
    refine ⟨u, us, ?_, scA_R h.2 r2, rfl⟩
    cases a <;> simp only [scA, Bool.false_eq_true] at h <;> first | exact r1 | (obtain ⟨h, _⟩ := h; cases h)
def closG (l : List UInt8) (off len cap : Nat) (u : Bool) (ao : AO) (args : List AV) (h : AH) : Option (AV × AH) :=
  match args with
  | [.s l'] => bif eqS l' l then newA h ao (fun id => .sl id off len cap u) else none
  | _ => none
def isSl (off len cap : Nat) (u : Bool) (c : List AV) (e : TypeId) (g : Option Nat) : Option (AV × AH) → Prop
  | some (.sl id off' len' cap' u', h) => off' = off ∧ len' = len ∧ cap' = cap ∧ u' = u ∧ h.get id = some (.cells c e g)
  | _ => False
theorem sm_closed {P : Program} (hm : P.follows .mixedOrders = true) {sm : FuncId → Option Sm} (hs : SmOK P sm) {n f : Nat} {l : List UInt8} {off len cap : Nat} {u : Bool} {c : List AV} {e : TypeId} {g : Option Nat}
    (hcall : isSl off len cap u c e g (callS P sm n f [.s l])) (hc : c.all scA = true) : SmCall P f (closG l off len cap u (.cells c e g)) := by
  intro args h v h' hg
  unfold closG at hg
  split at hg
  case h_2 => cases hg
  rename_i l'
  simp only [Bool.cond_eq_ite] at hg
  split at hg
  case isFalse => cases hg
  rename_i hl
  obtain rfl : l' = l := by rw [eqS_eq] at hl; simpa using hl
  unfold newA at hg
  split at hg
  case h_2 => cases hg
  rename_i h2 hn
  simp only [Option.some.injEq, Prod.mk.injEq] at hg
  obtain ⟨rfl, rfl⟩ := hg
  obtain ⟨hnx, hbs, hwl⟩ := AH.new_nx hn
  have hgt := AH.get_new hn
  refine ⟨⟨by omega, ⟨by omega, hbs, fun x hx => by rw [hwl]; exact hx, fun x hx hy hn2 => ?_, fun x hx => ?_⟩⟩, fun M us w r R ra rr fr k => ?_⟩
  · rw [hgt, if_neg (by omega)]
  · rw [hgt] at hx
    by_cases hid : x = h.nx
    · right; omega
    · left; simpa [hid] using hx
  unfold isSl at hcall
  split at hcall
  case h_2 => exact hcall.elim
  rename_i id off' len' cap' u' h1 hcs
  obtain ⟨rfl, rfl, rfl, rfl, hob⟩ := hcall
  unfold callS at hcs
  obtain ⟨_, cc⟩ := callA_ok (exec_good hm hs n) hcs
  have hr : Rel noM ⟨.lf, 0, 0, []⟩ w := ⟨fun x o e => by simp [get_lf] at e, fun x y b κ κ' o hx => by simp [get_lf] at hx, fun x hx => absurd (get_lf _ _ _ x) hx, rr.gw, fun x b κ o hx => (by simp [get_lf] at hx), fun b cs e => (by cases e), fun x b κ o hx => (by simp [get_lf] at hx)⟩
  have ra0 : AV.RL noM [.s l'] us := scA_R rfl ra
  refine cc noM us w r R ra0 hr (fun _ _ _ => rfl) (fun M' u0 w' rv rel' f' _ => ?_)
  simp only [AV.R] at rv
  obtain ⟨b, κ, hMb, rfl⟩ := rv
  obtain ⟨ob, hat, ho⟩ := Ob_of rel' hob hMb
  have hd : w.heap.size ≤ b := by
    rcases f'.range id b κ _ hob hMb with h5 | ⟨i, κ', o, h5, _⟩
    · exact h5
    · simp [get_lf] at h5
  have ho2 : ObR (updM M h.nx (b, κ)) κ (.cells c e g) ob := by
    obtain ⟨vs, rest, q1, q2, q3⟩ := ho
    exact ⟨vs, rest, scA_R hc q1, q2, q3⟩
  obtain ⟨q1, q2, q3⟩ := adopt_ok rr hn (fr h.nx (Nat.le_refl _) (by omega)) ho2 hd hat f'.os f'.tape f'.output f'.size (fun k hk => f'.keep k hk (fun id κ o hg => by simp [get_lf] at hg))
  exact k _ _ w' (by simp only [AV.R]; exact ⟨b, κ, by simp [updM], rfl⟩) q1 q2 q3
/-- A contract, as the kit's. -/
theorem ctS_calls {P : Program} {f : FuncId} {gs : List Ag} {F : List Da → Option (Bool × AV)} (h : SmCall P f (fun args h => (ctS gs F args h).sel)) {args : List AV} {us : List Value} {a : AV} {w : World} (gw : GW w)
    (hg : (ctS gs F args ⟨.lf, 0, 0, []⟩).sel = some (a, ⟨.lf, 0, 0, []⟩)) (ra : AV.RL noM args us) : Calls P f us.toArray w fun e w' => ∃ M u, e = .returned u ∧ a.R M u ∧ Below w.heap.size w w' := by
  obtain ⟨_, c⟩ := h args ⟨.lf, 0, 0, []⟩ a _ hg
  have hr : Rel noM ⟨.lf, 0, 0, []⟩ w := ⟨fun x o e => by simp [get_lf] at e, fun x y b κ κ' o hx => by simp [get_lf] at hx, fun x hx => absurd (get_lf _ _ _ x) hx, gw, fun x b κ o hx => (by simp [get_lf] at hx), fun b cs e => (by cases e), fun x b κ o hx => (by simp [get_lf] at hx)⟩
  obtain ⟨_, cc⟩ := c noM us w none (fun e w' => ∃ M u, e = .returned u ∧ a.R M u ∧ Below w.heap.size w w') ra hr (fun _ _ _ => rfl) (fun M' u w' rv rh f _ =>
    ⟨M', u, rfl, rv, f.os, f.tape, f.output, f.size, fun k hk => f.keep k hk (fun id κ o hg => by simp [get_lf] at hg)⟩)
  exact CallsIn.calls cc (fun k d hd => by simp [FW] at hd)
end Go.Proofs.YtiikiphkhfmlcaaGreatDoor.Ex
