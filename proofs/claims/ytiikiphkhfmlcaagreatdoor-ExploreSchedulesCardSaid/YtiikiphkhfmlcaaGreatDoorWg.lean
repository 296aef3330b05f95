/- Walks by symbols: functions, and contracts of functions that only read what they are handed. -/
import Derived.Test.YtiikiphkhfmlcaaGreatDoorWf
noncomputable section
namespace Go.Proofs.YtiikiphkhfmlcaaGreatDoor.Ex
open Go

/-! A function. -/
def wxF (P : Program) (sm : FuncId → Option Sm) (ann : Nat → Option (St → LoopA)) (n : Nat) (f : FuncId) (args : List AV) (h : AH) (K : AV → AH → Prop) : Prop :=
  match P.funcs[f]? with
  | some fn => bif okFn fn then match fn.body with
    | some c => match initT .lf 0 args with
      | some tm => wx P sm ann n c 0 ⟨tm, max fn.ntmps args.length, [], none, h⟩ (fun x s => match finA P fn x s with | some (v, h') => K v h' | none => False)
      | none => False
    | none => False
    else False
  | none => False
section
variable {P : Program} {sm : FuncId → Option Sm}
theorem wxF_ok (hm : P.follows .mixedOrders = true) (hs : SmOK P sm) {ann : Nat → Option (St → LoopA)} {n : Nat} {f : FuncId} {args : List AV} {h : AH} {K : AV → AH → Prop} (hw : wxF P sm ann n f args h K) : TriF P f args h K := by
  unfold wxF at hw
  split at hw
  case h_2 => exact hw.elim
  rename_i fn hf
  cases hok : okFn fn with
  | false => rw [hok] at hw; exact hw.elim
  | true =>
    rw [hok, cond_true] at hw
    split at hw
    case h_2 => exact hw.elim
    rename_i c hb
    split at hw
    case h_2 => exact hw.elim
    rename_i tm htm
    intro M us w r R ra rr fr k
    refine ⟨?_, ?_⟩
    · have hnn : ¬ (fn.name = "runtime.NumGoroutine") := by simpa [okFn] using hok
      simp [callFunc, hf, hnn, hb]
    · show CallsIn (FW none) 0 P f us.toArray w R
      refine callsIn_of_wp_marks hf hb trivial ?_
      have hl := RL_length ra
      refine wx_ok hm hs n c 0 _ _ hw M _ w none _ ⟨?_, ?_, rfl, rr⟩ rfl fr ?_
      · simp only
        exact initT_TR htm ra
      · simp only [Array.size_append, List.size_toArray, Array.size_replicate, hl]; omega
      · intro x s' M' a' w' ⟨hk, _⟩ st _ fr' f' k'
        split at hk
        case h_2 => exact hk.elim
        rename_i v h' hfin
        have main : ∀ {h2 : AH}, takeAll s'.h s'.df = some h2 → (match resA P s'.tm h2 fn.results.toList with | some v => some (v, h2) | none => none) = some (v, h') → LeavesInM (FW none) 0 P fn a'.tmps R a'.defers .returning w' := fun {h2} htk hres => by
          split at hres
          · rename_i v2 hv2
            simp only [Option.some.injEq, Prod.mk.injEq] at hres
            obtain ⟨rfl, rfl⟩ := hres
            have tk := takeAll_ok (M := M') (fn := fn) (tmps := a'.tmps) (R := R) (r := none) (P := P) htk st.df st.h
            exact tk.2 (fun w2 t1 t2 t3 => by
              obtain ⟨u, e1, e2⟩ := resA_ok (a := a') hv2 st.tm t1
              exact ⟨u, e1, k v2 h2 M' u w2 hk e2 t1 (fun id hi => fr' id (by rw [tk.1]; exact hi)) (f'.trans t2.frO) k'.2⟩)
          · cases hres
        unfold finA at hfin
        split at hfin
        · cases hfin
        · rename_i hne
          split at hfin
          · rename_i h2 htk
            have := main htk hfin
            cases x with
            | nm => exact this
            | rt => exact this
            | ex id => exact absurd rfl (hne id)
          · cases hfin
end

/-! Arguments: scalars, slices of elements of scalars, structs of these. -/
def scalB : AV → Bool
  | .i _ _ | .y _ _ | .b _ | .yb _ | .s _ | .ys _ => true
  | _ => false
theorem scalB_R {a : AV} (h : scalB a = true) {M M' : Mp} {u : Value} (r : a.R M u) : a.R M' u ∧ u.oneCell' = true := by
  cases a <;> simp only [scalB, Bool.false_eq_true] at h <;> (simp only [AV.R] at r ⊢; subst r; exact ⟨rfl, rfl⟩)
/-- The kind of a cell; a row of cells of one kind, through all elements. A cell may be a list of cells. -/
inductive K1 where
  | int (k : IntKind)
  | bool
  | str
inductive CK where
  | int (k : IntKind)
  | bool
  | str
  | ls (ks : List K1)
inductive Cl2 where
  | int (k : IntKind) (x : Nat → Nat → Int)
  | bool (x : Nat → Nat → Bool)
  | str (x : Nat → Nat → List UInt8)
inductive Col where
  | int (k : IntKind) (x : Nat → Int)
  | bool (x : Nat → Bool)
  | str (x : Nat → List UInt8)
  | ls (nil : Nat → Bool) (n : Nat → Nat) (l : List Cl2)
def Cl2.at (c : Cl2) (i p : Nat) : AV :=
  match c with
  | .int k x => .y k (x i p)
  | .bool x => .yb (x i p)
  | .str x => .ys (x i p)
def cl2F : List Cl2 → Nat → Nat → Nat → AV
  | [], _, _, _ => .np
  | c :: l, i, p, j => match j with | 0 => c.at i p | Nat.succ j => cl2F l i p j
def Col.at (c : Col) (i : Nat) : AV :=
  match c with
  | .int k x => .y k (x i)
  | .bool x => .yb (x i)
  | .str x => .ys (x i)
  | .ls nil n l => .lst false (nil i) l.length (n i) (cl2F l i)
def colF : List Col → Nat → Nat → AV
  | [], _, _ => .np
  | c :: l, i, j => match j with | 0 => c.at i | Nat.succ j => colF l i j
inductive Dc where
  | v (a : AV)
  | rows (nil : Bool) (n : Nat) (cols : List Col)
abbrev Cs := Option (TypeId × List CK)
inductive Ag where
  | cell (c : Cs)
  | agg (l : List Cs)
inductive Da where
  | cell (d : Dc)
  | agg (l : List Dc)
def canC (c : Cs) (d : Dc) (bl : List AO) : AV × List AO :=
  match c, d with
  | none, .v a => (a, bl)
  | some (e, ks), .rows nil n cols => (.ysl true nil bl.length ks.length 0 n, bl ++ [.arr true e ks.length n (colF cols)])
  | _, _ => (.np, bl)
def canL : List Cs → List Dc → List AO → List AV × List AO
  | c :: cs, d :: ds, bl => match canC c d bl with | (a, bl1) => match canL cs ds bl1 with | (l, bl2) => (a :: l, bl2)
  | _, _, bl => ([], bl)
def canG (g : Ag) (d : Da) (bl : List AO) : AV × List AO :=
  match g, d with
  | .cell c, .cell d => canC c d bl
  | .agg cs, .agg ds => match canL cs ds bl with | (l, bl1) => (.agg l, bl1)
  | _, _ => (.np, bl)
def canA : List Ag → List Da → List AO → List AV × List AO
  | g :: gs, d :: ds, bl => match canG g d bl with | (a, bl1) => match canA gs ds bl1 with | (l, bl2) => (a :: l, bl2)
  | _, _, bl => ([], bl)
def numL {α : Type} : Nat → List α → List (Nat × Option α)
  | _, [] => []
  | k, a :: l => (k, some a) :: numL (Nat.succ k) l
def heapOf (bl : List AO) : AH := ⟨setQs .lf (numL 0 bl), bl.length, 0, []⟩

/-! What such data are in a world. -/
theorem Le_noM (M : Mp) : Le noM M := ⟨fun _ _ e => (by cases e), fun _ _ e => (by cases e)⟩
def BlkR (w : World) (ao : AO) (base : Option (Nat × Nat)) : Prop := ∃ e z n f, ao = .arr true e z n f ∧ ((n = 0 ∧ base = none) ∨ ∃ b off cs e' fr, base = some (b, off) ∧ w.heap[b]? = some (.cells cs e' fr) ∧ ∀ i, i < n → ∀ j, j < z → ∃ v, cs[off + i * z + j]? = some v ∧ v.oneCell' = true ∧ (f i j).R noM v)
def BlR (w : World) : List AO → List (Option (Nat × Nat)) → Prop
  | [], bs => bs = []
  | a :: l, bs => ∃ b bs', bs = b :: bs' ∧ BlkR w a b ∧ BlR w l bs'
def Mof (bs : List (Option (Nat × Nat))) : Mp := ⟨fun id => match bs[id]? with | some (some p) => some p | _ => none, fun _ => none⟩
theorem BlR.len {w : World} : ∀ {l : List AO} {bs : List (Option (Nat × Nat))}, BlR w l bs → bs.length = l.length
  | [], bs, h => by simp only [BlR] at h; subst h; rfl
  | a :: l, bs, h => by obtain ⟨b, bs', rfl, _, h2⟩ := h; simp [h2.len]
theorem BlR.app {w : World} : ∀ {l k : List AO} {bs cs : List (Option (Nat × Nat))}, BlR w l bs → BlR w k cs → BlR w (l ++ k) (bs ++ cs)
  | [], k, bs, cs, h, h2 => by simp only [BlR] at h; subst h; exact h2
  | a :: l, k, bs, cs, h, h2 => by obtain ⟨b, bs', rfl, h3, h4⟩ := h; exact ⟨b, bs' ++ cs, rfl, h3, h4.app h2⟩
theorem BlR.get {w : World} : ∀ {l : List AO} {bs : List (Option (Nat × Nat))} {id : Nat} {a : AO}, BlR w l bs → l[id]? = some a → ∃ b, bs[id]? = some b ∧ BlkR w a b
  | [], bs, id, a, _, e => by simp at e
  | x :: l, bs, 0, a, h, e => by obtain ⟨b, bs', rfl, h3, _⟩ := h; simp at e; subst e; exact ⟨b, rfl, h3⟩
  | x :: l, bs, id + 1, a, h, e => by obtain ⟨b, bs', rfl, _, h4⟩ := h; simpa using h4.get (by simpa using e)
theorem Mof_le (bs cs : List (Option (Nat × Nat))) : Le (Mof bs) (Mof (bs ++ cs)) := ⟨fun id p e => by
  unfold Mof at e ⊢
  simp only at e ⊢
  cases h : bs[id]? with
  | none => rw [h] at e; cases e
  | some o =>
    have hlt := (List.getElem?_eq_some_iff.1 h).1
    rw [List.getElem?_append_left hlt, h]
    rw [h] at e; exact e, fun b cs e => by cases e⟩
theorem numL_get {α : Type} : ∀ {l : List α} {k : Nat} (q : Nat), k + l.length < 4294967296 → ∀ t : Tr α, (setQs t (numL k l)).get (q + 1) = if k ≤ q ∧ q < k + l.length then l[q - k]? else t.get (q + 1)
  | [], k, q, _, t => by rw [if_neg (by simp only [List.length_nil]; omega)]; rfl
  | a :: l, k, q, h, t => by
    simp only [List.length_cons] at h
    simp only [numL, setQs]
    rw [numL_get q (by omega), setQ_get (by omega)]
    by_cases e : q = k
    · subst e; rw [if_neg (by omega), if_pos rfl, if_pos (by simp)]; simp
    · rw [if_neg e]
      by_cases h2 : k ≤ q ∧ q < k + (a :: l).length
      · rw [if_pos h2, if_pos (by simp at h2; omega), show q - k = (q - Nat.succ k) + 1 by omega]; simp
      · rw [if_neg h2, if_neg (by simp at h2; omega)]
theorem heapOf_get {bl : List AO} (h : bl.length < 4294967296) (id : Nat) : (heapOf bl).get id = bl[id]? := by
  have := numL_get (l := bl) (k := 0) id (by omega) .lf
  show (setQs .lf (numL 0 bl)).get (id + 1) = _
  rw [this]
  by_cases hlt : id < bl.length
  · rw [if_pos (by omega)]; simp
  · rw [if_neg (by omega)]; simp [Tr.get_lf]; omega
theorem heapOf_rel {w : World} {bl : List AO} {bs : List (Option (Nat × Nat))} (h : BlR w bl bs) (hl : bl.length < 4294967296) (gw : GW w) : Rel (Mof bs) (heapOf bl) w ∧ FreshA (Mof bs) (heapOf bl).nx := by
  have key : ∀ id o, (heapOf bl).get id = some o → ∃ b, bs[id]? = some b ∧ BlkR w o b := fun id o e => by
    rw [heapOf_get hl] at e; exact h.get e
  refine ⟨⟨fun id o e => ?_, fun i j b κ κ' o hi hr _ _ _ => ?_, fun x hx => ?_, gw, fun x b κ o hx hro hM => ?_, fun b cs e => (by cases e), fun i b κ o _ _ _ => rfl⟩, fun id hid => ?_⟩
  · obtain ⟨b, h1, et, z, n, f, rfl, h2⟩ := key id o e
    rcases h2 with ⟨h0, h3⟩ | ⟨bk, off, cs, e', fr, h3, h4, h6⟩
    · exact .inl ⟨h0, by unfold Mof; simp only [h1, h3]⟩
    · refine .inr ⟨bk, off, _, by unfold Mof; simp only [h1, h3], h4, cs, e', fr, rfl, fun i hi j hj => ?_⟩
      obtain ⟨v, q1, q2, q3⟩ := h6 i hi j hj
      exact ⟨v, q1, q2, AV.R.mono (Le_noM _) _ _ q3⟩
  · obtain ⟨_, _, et, z, n, f, rfl, _⟩ := key i o hi
    cases hr
  · rw [heapOf_get hl] at hx
    have : x < bl.length := by
      cases hh : bl[x]? with
      | none => exact absurd hh hx
      | some _ => exact (List.getElem?_eq_some_iff.1 hh).1
    exact this
  · obtain ⟨_, _, et, z, n, f, rfl, _⟩ := key x o hx
    cases hro
  · have hid : bl.length ≤ id := hid
    unfold Mof
    simp only
    rw [List.getElem?_eq_none (by rw [h.len]; exact hid)]

def DcR (w : World) (c : Cs) (d : Dc) (u : Value) : Prop :=
  match c, d with
  | none, .v a => a.R noM u
  | some (_, ks), .rows nil n cols => (nil = true ∧ n = 0 ∧ u = .slice none 0 0) ∨ (nil = false ∧ ∃ p k, u = .slice (some p) n k ∧ n ≤ k ∧
      (n = 0 ∨ ∃ b off, p = ⟨b, off, none⟩ ∧ (∃ cs e fr, w.heap[b]? = some (.cells cs e fr) ∧ ∀ i, i < n → ∀ j, j < ks.length → ∃ v, cs[off + i * ks.length + j]? = some v ∧ v.oneCell' = true ∧ (colF cols i j).R noM v)))
  | _, _ => False
def DcRs (w : World) : List Cs → List Dc → List Value → Prop
  | [], ds, us => ds = [] ∧ us = []
  | c :: cs, ds, us => ∃ d ds' u us', ds = d :: ds' ∧ us = u :: us' ∧ DcR w c d u ∧ DcRs w cs ds' us'
def DaR (w : World) (g : Ag) (d : Da) (u : Value) : Prop :=
  match g, d with
  | .cell c, .cell d => DcR w c d u
  | .agg cs, .agg ds => ∃ us, u = .agg us.toArray ∧ DcRs w cs ds us
  | _, _ => False
def DaRs (w : World) : List Ag → List Da → List Value → Prop
  | [], ds, us => ds = [] ∧ us = []
  | g :: gs, ds, us => ∃ d ds' u us', ds = d :: ds' ∧ us = u :: us' ∧ DaR w g d u ∧ DaRs w gs ds' us'
theorem canC_ok {w : World} {c : Cs} {d : Dc} {u : Value} {bl : List AO} {bs : List (Option (Nat × Nat))} (h : DcR w c d u) (hb : BlR w bl bs) : ∃ cs, BlR w (canC c d bl).2 (bs ++ cs) ∧ (canC c d bl).1.R (Mof (bs ++ cs)) u := by
  unfold DcR at h
  split at h
  · rename_i a
    exact ⟨[], by simpa [canC] using hb, AV.R.mono (Le_noM _) _ _ h⟩
  · rename_i e ks nil n cols
    have hat : ∀ o, (Mof (bs ++ [o])) bl.length = o := fun o => by
      unfold Mof
      simp only
      rw [List.getElem?_append_right (by rw [hb.len]; exact Nat.le_refl _), hb.len]
      cases o <;> simp
    rcases h with ⟨rfl, rfl, rfl⟩ | ⟨rfl, p, k, rfl, hnk, h⟩
    · refine ⟨[none], hb.app ⟨none, [], rfl, ⟨e, ks.length, 0, colF cols, rfl, .inl ⟨rfl, rfl⟩⟩, rfl⟩, ?_⟩
      simp only [canC, AV.R]
      exact .inl ⟨trivial, trivial, trivial⟩
    · by_cases hn : n = 0
      · subst hn
        refine ⟨[none], hb.app ⟨none, [], rfl, ⟨e, ks.length, 0, colF cols, rfl, .inl ⟨rfl, rfl⟩⟩, rfl⟩, ?_⟩
        simp only [canC, AV.R]
        exact .inr (.inl ⟨trivial, trivial, _, _, rfl, fun e => by simp at e⟩)
      · rcases h with h | ⟨b, off, rfl, cs, e', fr, h1, h2⟩
        · exact absurd h hn
        · refine ⟨[some (b, off)], hb.app ⟨_, [], rfl, ⟨e, ks.length, n, colF cols, rfl, .inr ⟨b, off, cs, e', fr, rfl, h1, h2⟩⟩, rfl⟩, ?_⟩
          simp only [canC, AV.R]
          exact .inr (.inr ⟨trivial, b, off, k, hat _, by simp, hnk, by omega, fun e => by simp at e⟩)
  · exact h.elim
theorem canL_ok {w : World} : ∀ {cs : List Cs} {ds : List Dc} {us : List Value} {bl : List AO} {bs : List (Option (Nat × Nat))}, DcRs w cs ds us → BlR w bl bs → ∃ ks, BlR w (canL cs ds bl).2 (bs ++ ks) ∧ AV.RL (Mof (bs ++ ks)) (canL cs ds bl).1 us
  | [], ds, us, bl, bs, h, hb => by
    obtain ⟨rfl, rfl⟩ := h
    exact ⟨[], by simpa [canL] using hb, rfl⟩
  | c :: cs, ds, us, bl, bs, h, hb => by
    obtain ⟨d, ds', u, us', rfl, rfl, h1, h2⟩ := h
    obtain ⟨k1, q1, q2⟩ := canC_ok h1 hb
    obtain ⟨k2, q3, q4⟩ := canL_ok h2 q1
    refine ⟨k1 ++ k2, ?_, ?_⟩
    · simp only [canL]; rw [← List.append_assoc]; exact q3
    · simp only [canL, AV.RL]
      rw [← List.append_assoc]
      exact ⟨u, us', AV.R.mono (Mof_le _ _) _ _ q2, q4, rfl⟩
theorem canG_ok {w : World} {g : Ag} {d : Da} {u : Value} {bl : List AO} {bs : List (Option (Nat × Nat))} (h : DaR w g d u) (hb : BlR w bl bs) : ∃ cs, BlR w (canG g d bl).2 (bs ++ cs) ∧ (canG g d bl).1.R (Mof (bs ++ cs)) u := by
  unfold DaR at h
  split at h
  · exact canC_ok h hb
  · obtain ⟨us, rfl, h⟩ := h
    obtain ⟨k, q1, q2⟩ := canL_ok h hb
    exact ⟨k, q1, by simp only [canG, AV.R]; exact ⟨us, q2, rfl⟩⟩
  · exact h.elim
theorem canA_ok {w : World} : ∀ {gs : List Ag} {ds : List Da} {us : List Value} {bl : List AO} {bs : List (Option (Nat × Nat))}, DaRs w gs ds us → BlR w bl bs → ∃ ks, BlR w (canA gs ds bl).2 (bs ++ ks) ∧ AV.RL (Mof (bs ++ ks)) (canA gs ds bl).1 us
  | [], ds, us, bl, bs, h, hb => by
    obtain ⟨rfl, rfl⟩ := h
    exact ⟨[], by simpa [canA] using hb, rfl⟩
  | g :: gs, ds, us, bl, bs, h, hb => by
    obtain ⟨d, ds', u, us', rfl, rfl, h1, h2⟩ := h
    obtain ⟨k1, q1, q2⟩ := canG_ok h1 hb
    obtain ⟨k2, q3, q4⟩ := canA_ok h2 q1
    refine ⟨k1 ++ k2, ?_, ?_⟩
    · simp only [canA]; rw [← List.append_assoc]; exact q3
    · simp only [canA, AV.RL]
      rw [← List.append_assoc]
      exact ⟨u, us', AV.R.mono (Mof_le _ _) _ _ q2, q4, rfl⟩
end Go.Proofs.YtiikiphkhfmlcaaGreatDoor.Ex
