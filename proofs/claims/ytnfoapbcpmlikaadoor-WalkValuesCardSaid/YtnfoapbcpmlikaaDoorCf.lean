/- Contracts of functions without loops, where what is handed back is named by the run itself and not spelt out: enough where only its being a function counts. -/
import Derived.Test.YtnfoapbcpmlikaaDoorExT
import Derived.Test.YtnfoapbcpmlikaaDoorWh
import Derived.Test.YtnfoapbcpmlikaaDoorSl
namespace Go.Proofs.YtnfoapbcpmlikaaDoor.Ex
open Go

-- OPEN cI cB runC
def T.isNo {α : Type} : T α → Bool
  | .no => true
  | _ => false
/-- All ends are well, whatever the symbols; a way that does not go must be barred by what is known. -/
def T.allB {α : Type} (p : α → Bool) : T α → Bool
  | .ret a => p a
  | .br b t e => bif e.isNo then b && t.allB p else bif t.isNo then !b && e.allB p else t.allB p && e.allB p
  | .no => false
theorem T.allB_all {α : Type} {p : α → Bool} : ∀ {t : T α}, t.allB p = true → t.all fun a => p a = true
  | .ret _, h => h
  | .br b t e, h => by
    unfold T.allB at h
    cases h1 : e.isNo with
    | true =>
      rw [h1, cond_true, Bool.and_eq_true] at h
      exact ⟨fun _ => T.allB_all h.2, fun hb => by rw [h.1] at hb; cases hb⟩
    | false =>
      rw [h1, cond_false] at h
      cases h2 : t.isNo with
      | true =>
        rw [h2, cond_true, Bool.and_eq_true] at h
        exact ⟨fun hb => by rw [hb] at h; exact absurd h.1 (by decide), fun _ => T.allB_all h.2⟩
      | false =>
        rw [h2, cond_false, Bool.and_eq_true] at h
        exact ⟨fun _ => T.allB_all h.1, fun _ => T.allB_all h.2⟩
  | .no, h => by cases h
inductive KA where
  | i (k : IntKind)
  | b
abbrev Outc := Option (AV × AH)
def rL (o : Outc) : List AV := match o with | some (.agg l, _) => l | some (.tup l, _) => l | some (a, _) => [a] | none => []
/-- Cell j of what a run hands back. -/
def cI (o : Outc) (j : Nat) : Int := match nthA (rL o) j with | some a => toI a | none => 0
def cB (o : Outc) (j : Nat) : Bool := match nthA (rL o) j with | some a => toB a | none => false
def cellK (k : KA) (ci : Nat → Int) (cb : Nat → Bool) (j : Nat) : AV := match k with | .i k => .y k (ci j) | .b => .yb (cb j)
def cellsK : List KA → (Nat → Int) → (Nat → Bool) → Nat → List AV
  | [], _, _, _ => []
  | k :: ks, ci, cb, j => cellK k ci cb j :: cellsK ks ci cb (Nat.succ j)
def kaOk (k : KA) (a : AV) : Bool :=
  match k with
  | .i k => match yI a with | some (k', _) => eqK k k' | none => false
  | .b => match yB a with | some _ => true | none => false
def kasOk : List KA → List AV → Bool
  | [], [] => true
  | k :: ks, a :: l => kaOk k a && kasOk ks l
  | _, _ => false
inductive Rs where
  | one (k : KA)
  | agg (ks : List KA)
  | tup (ks : List KA)
def resR (rs : Rs) (o : Outc) : AV :=
  match rs with
  | .one k => cellK k (cI o) (cB o) 0
  | .agg ks => .agg (cellsK ks (cI o) (cB o) 0)
  | .tup ks => .tup (cellsK ks (cI o) (cB o) 0)
def okRs (rs : Rs) (v : AV) : Bool :=
  match rs with
  | .one k => kaOk k v
  | .agg ks => match v with | .agg l => kasOk ks l | _ => false
  | .tup ks => match v with | .tup l => kasOk ks l | _ => false
theorem kaOk_R {k : KA} {a : AV} (h : kaOk k a = true) {M M' : Mp} {u : Value} (r : a.R M u) {ci : Nat → Int} {cb : Nat → Bool} {j : Nat} (h1 : ci j = toI a) (h2 : cb j = toB a) : (cellK k ci cb j).R M' u := by
  cases k with
  | i k =>
    unfold kaOk at h
    simp only at h
    split at h
    · rename_i k' n hy
      have e := yI_ok hy r
      have hk : k = k' := eqK_eq h
      subst hk
      show u = .int k (ci j)
      rw [h1, e]
      unfold toI
      rw [hy]
    · cases h
  | b =>
    unfold kaOk at h
    simp only at h
    split at h
    · rename_i x hy
      have e := yB_ok hy r
      show u = .bool (cb j)
      rw [h2, e]
      unfold toB
      rw [hy]
    · cases h
theorem kasOk_R {M M' : Mp} {ci : Nat → Int} {cb : Nat → Bool} : ∀ {ks : List KA} {l : List AV} {vs : List Value} {j : Nat}, kasOk ks l = true → AV.RL M l vs → (∀ q a, nthA l q = some a → ci (j + q) = toI a ∧ cb (j + q) = toB a) → AV.RL M' (cellsK ks ci cb j) vs
  | [], [], _, _, _, r, _ => r
  | k :: ks, a :: l, vs, j, h, ⟨v, vs', r1, r2, e⟩, hc => by
    simp only [kasOk, Bool.and_eq_true] at h
    obtain ⟨c1, c2⟩ := hc 0 a rfl
    refine ⟨v, vs', kaOk_R h.1 r1 c1 c2, kasOk_R h.2 r2 (fun q b hq => ?_), e⟩
    have := hc (q + 1) b hq
    rw [show j + (q + 1) = Nat.succ j + q by omega] at this
    exact this
  | [], _ :: _, _, _, h, _, _ => by cases h
  | _ :: _, [], _, _, h, _, _ => by cases h
theorem okRs_R {rs : Rs} {v : AV} {h : AH} (ok : okRs rs v = true) {M M' : Mp} {u : Value} (r : v.R M u) : (resR rs (some (v, h))).R M' u := by
  cases rs with
  | one k =>
    refine kaOk_R ok r ?_ ?_
    · cases v <;> first | rfl | (cases k <;> cases ok)
    · cases v <;> first | rfl | (cases k <;> cases ok)
  | agg ks =>
    cases v with
    | agg l =>
      obtain ⟨vs, r, e⟩ := r
      exact ⟨vs, kasOk_R ok r (fun q a hq => by rw [Nat.zero_add]; simp only [cI, cB, rL, hq, and_self]), e⟩
    | _ => cases ok
  | tup ks =>
    cases v with
    | tup l =>
      obtain ⟨vs, r, e⟩ := r
      exact ⟨vs, kasOk_R ok r (fun q a hq => by rw [Nat.zero_add]; simp only [cI, cB, rL, hq, and_self]), e⟩
    | _ => cases ok

/-! Arguments: numbers and truth values, and structs of these. -/
inductive Ar where
  | one (k : KA)
  | agg (ks : List KA)
def gsOf : List Ar → List Ag
  | [] => []
  | .one _ :: l => .cell none :: gsOf l
  | .agg ks :: l => .agg (ks.map fun _ => none) :: gsOf l
def dcsK : List KA → (Nat → Int) → (Nat → Bool) → Nat → List Dc
  | [], _, _, _ => []
  | k :: ks, ci, cb, j => .v (cellK k ci cb j) :: dcsK ks ci cb (Nat.succ j)
def dsOf : List Ar → (Nat → Int) → (Nat → Bool) → Nat → List Da
  | [], _, _, _ => []
  | .one k :: l, ci, cb, j => .cell (.v (cellK k ci cb j)) :: dsOf l ci cb (Nat.succ j)
  | .agg ks :: l, ci, cb, j => .agg (dcsK ks ci cb j) :: dsOf l ci cb (Nat.add j ks.length)
def kaY (k : KA) (a : AV) : Bool :=
  match k with
  | .i k => match a with | .y k' _ => eqK k k' | _ => false
  | .b => match a with | .yb _ => true | _ => false
def kasY : List KA → List Dc → Bool
  | [], [] => true
  | k :: ks, .v a :: l => kaY k a && kasY ks l
  | _, _ => false
def dsOk : List Ar → List Da → Bool
  | [], [] => true
  | .one k :: l, .cell (.v a) :: ds => kaY k a && dsOk l ds
  | .agg ks :: l, .agg dl :: ds => kasY ks dl && dsOk l ds
  | _, _ => false
theorem cellK_ext {k : KA} {ci ci' : Nat → Int} {cb cb' : Nat → Bool} {j : Nat} (h1 : ci j = ci' j) (h2 : cb j = cb' j) : cellK k ci cb j = cellK k ci' cb' j := by
  cases k <;> simp only [cellK, h1, h2]
theorem dcsK_ext {ci ci' : Nat → Int} {cb cb' : Nat → Bool} : ∀ {ks : List KA} {j : Nat}, (∀ i, j ≤ i → ci i = ci' i ∧ cb i = cb' i) → dcsK ks ci cb j = dcsK ks ci' cb' j
  | [], _, _ => rfl
  | k :: ks, j, h => by
    simp only [dcsK]
    rw [cellK_ext (h j (Nat.le_refl _)).1 (h j (Nat.le_refl _)).2, dcsK_ext (fun i hi => h i (by omega))]
theorem dsOf_ext {ci ci' : Nat → Int} {cb cb' : Nat → Bool} : ∀ {as : List Ar} {j : Nat}, (∀ i, j ≤ i → ci i = ci' i ∧ cb i = cb' i) → dsOf as ci cb j = dsOf as ci' cb' j
  | [], _, _ => rfl
  | .one k :: l, j, h => by
    simp only [dsOf]
    rw [cellK_ext (h j (Nat.le_refl _)).1 (h j (Nat.le_refl _)).2, dsOf_ext (fun i hi => h i (by omega))]
  | .agg ks :: l, j, h => by
    simp only [dsOf]
    rw [dcsK_ext h, dsOf_ext (j := Nat.add j ks.length) (fun i hi => h i (Nat.le_trans (Nat.le_add_right _ _) hi))]
theorem kaY_cell {k : KA} {a : AV} (h : kaY k a = true) (ci : Nat → Int) (cb : Nat → Bool) (j : Nat) : a = cellK k (fun i => if i = j then toI a else ci i) (fun i => if i = j then toB a else cb i) j := by
  cases k with
  | i k =>
    cases a <;> first | cases h | skip
    rename_i k' n
    have hk : k = k' := eqK_eq h
    subst hk
    show AV.y k n = .y k (if j = j then n else _)
    rw [if_pos rfl]
  | b =>
    cases a <;> first | cases h | skip
    rename_i x
    show AV.yb x = .yb (if j = j then x else _)
    rw [if_pos rfl]
/-- The data of some cells ahead, and of others from there on. -/
theorem kasY_dcs : ∀ {ks : List KA} {dl : List Dc} (j : Nat) (ci : Nat → Int) (cb : Nat → Bool), kasY ks dl = true → ∃ ci' cb', dl = dcsK ks ci' cb' j ∧ ∀ i, j + ks.length ≤ i → ci' i = ci i ∧ cb' i = cb i
  | [], [], _, ci, cb, _ => ⟨ci, cb, rfl, fun _ _ => ⟨rfl, rfl⟩⟩
  | k :: ks, .v a :: l, j, ci, cb, h => by
    simp only [kasY, Bool.and_eq_true] at h
    obtain ⟨ci', cb', e, hx⟩ := kasY_dcs (Nat.succ j) ci cb h.2
    refine ⟨fun i => if i = j then toI a else ci' i, fun i => if i = j then toB a else cb' i, ?_, fun i hi => ?_⟩
    · simp only [dcsK]
      rw [← kaY_cell h.1 ci' cb' j, e]
      congr 1
      exact dcsK_ext fun i hi => ⟨(if_neg (by omega)).symm, (if_neg (by omega)).symm⟩
    · rw [List.length_cons] at hi
      show (if i = j then _ else ci' i) = _ ∧ (if i = j then _ else cb' i) = _
      rw [if_neg (by omega), if_neg (by omega)]
      exact hx i (by omega)
  | [], _ :: _, _, _, _, h => by cases h
  | _ :: _, [], _, _, _, h => by cases h
  | _ :: _, .rows _ _ _ :: _, _, _, _, h => by cases h
theorem dsOk_of : ∀ {as : List Ar} {ds : List Da} (j : Nat), dsOk as ds = true → ∃ ci cb, ds = dsOf as ci cb j
  | [], [], _, _ => ⟨fun _ => 0, fun _ => false, rfl⟩
  | .one k :: l, .cell (.v a) :: ds, j, h => by
    simp only [dsOk, Bool.and_eq_true] at h
    obtain ⟨ci', cb', e⟩ := dsOk_of (Nat.succ j) h.2
    refine ⟨fun i => if i = j then toI a else ci' i, fun i => if i = j then toB a else cb' i, ?_⟩
    simp only [dsOf]
    rw [← kaY_cell h.1 ci' cb' j, e]
    congr 1
    exact dsOf_ext fun i hi => ⟨(if_neg (by omega)).symm, (if_neg (by omega)).symm⟩
  | .agg ks :: l, .agg dl :: ds, j, h => by
    simp only [dsOk, Bool.and_eq_true] at h
    obtain ⟨ci', cb', e⟩ := dsOk_of (Nat.add j ks.length) h.2
    obtain ⟨c2, b2, e2, hx⟩ := kasY_dcs j ci' cb' h.1
    refine ⟨c2, b2, ?_⟩
    simp only [dsOf]
    rw [e2, e]
    congr 1
    exact dsOf_ext fun i hi => ⟨(hx i hi).1.symm, (hx i hi).2.symm⟩
  | [], _ :: _, _, h => by cases h
  | .one _ :: _, [], _, h => by cases h
  | .agg _ :: _, [], _, h => by cases h
  | .one _ :: _, .agg _ :: _, _, h => by cases h
  | .one _ :: _, .cell (.rows _ _ _) :: _, _, h => by cases h
  | .agg _ :: _, .cell _ :: _, _, h => by cases h
/-- The run itself, as a function of the data. -/
def runC (P : Program) (sm : FuncId → Option Sm) (f : FuncId) (gs : List Ag) (ds : List Da) : Outc :=
  (callT P ⟨execT P sm 1000, sm⟩ f (canA gs ds []).1 (heapOf (canA gs ds []).2)).sel
def fCf (as : List Ar) (rs : Rs) (run : List Da → Outc) (ds : List Da) : Option (Bool × AV) := bif dsOk as ds then some (true, resR rs (run ds)) else none
theorem cf_ok {P : Program} (hm : P.follows .mixedOrders = true) {sm : FuncId → Option Sm} (hs : SmOK P sm) {f : FuncId} {as : List Ar} {rs : Rs} {run : List Da → Outc} (hc : cntA (gsOf as) < 4294967296) (hrun : ∀ ds, run ds = runC P sm f (gsOf as) ds)
    (h : ∀ ci cb, (callT P ⟨execT P sm 1000, sm⟩ f (canA (gsOf as) (dsOf as ci cb 0) []).1 (heapOf (canA (gsOf as) (dsOf as ci cb 0) []).2)).allB (fun p => okRs rs p.1) = true) :
    SmCall P f (fun args h => (ctS (gsOf as) (fCf as rs run) args h).sel) := by
  intro args h0 v h' hg
  obtain ⟨ds, e1, e⟩ := T.sel_bind_some hg
  unfold fCf at e
  cases hok : dsOk as ds with
  | false => rw [hok] at e; cases e
  | true =>
  rw [hok] at e
  obtain ⟨_, e⟩ := T.sel_must e
  have e := T.sel_ret e
  simp only [Prod.mk.injEq] at e
  obtain ⟨rfl, rfl⟩ := e
  obtain ⟨ci, cb, hds⟩ := dsOk_of 0 hok
  have hall := T.allB_all (h ci cb)
  rw [← hds] at hall
  obtain ⟨⟨v2, h2⟩, hsel, hok2⟩ := T.all_sel hall
  have hrv : run ds = some (v2, h2) := (hrun ds).trans hsel
  have hrc : RcT.rc ⟨execT P sm 1000, sm⟩ = ⟨exec P sm 1000, sm⟩ := by
    unfold RcT.rc
    congr 1
    funext c s
    exact execT_sel
  rw [callT_sel, hrc] at hsel
  obtain ⟨_, c⟩ := callA_ok (exec_good hm hs 1000) hsel
  refine ⟨⟨Nat.le_refl _, Ab.refl _⟩, fun M us w r R ra rr fr k => ?_⟩
  have hd := rdA_ok e1 ra rr
  obtain ⟨ks, q1, q2⟩ := canA_ok (bl := []) (bs := []) hd rfl
  rw [List.nil_append] at q1 q2
  have hlen : (canA (gsOf as) ds []).2.length < 4294967296 := by have := canA_len (gsOf as) ds []; simp at this; omega
  obtain ⟨q3, q4⟩ := heapOf_rel q1 hlen rr.gw
  refine c (Mof ks) us w r R q2 q3 q4.fresh fun M2 u w' rv rel2 f2 _ => ?_
  have fo := f2.frO
  have hsame : ∀ b, b < w.heap.size → w'.heap[b]? = w.heap[b]? := fun b hb => fo.keep b hb (own_none q1 hlen b)
  refine k M u w' (by rw [hrv]; exact okRs_R hok2 rv) ⟨fun id o e => ?_, rr.inj, rr.wf, fun g c hg => ?_, rr.gf, fz_kept rr (fun b hb _ => hsame b hb), rr.fo⟩ ⟨fo.os, fo.tape, fo.output, fo.size, Le.refl M, fun _ e => absurd rfl e, fun q hq _ => hsame q hq, fun id b2 κ o q1 q2 => .inr ⟨id, κ, o, q1, q2, fun e => e⟩, fun b cs e => .inl e⟩ (Ab.refl _)
  · rcases rr.obj id o e with hv | ⟨b, κ, ob, h1, h2, h3⟩
    · exact .inl hv
    · exact .inr ⟨b, κ, ob, h1, by rw [hsame b (heap_lt h2)]; exact h2, h3⟩
  · obtain ⟨vs, e, fr, h1, h2⟩ := rr.gw g c hg
    exact ⟨vs, e, fr, by rw [hsame g (heap_lt h1)]; exact h1, h2⟩
end Go.Proofs.YtnfoapbcpmlikaaDoor.Ex
