/- Laws: what came in, as symbols. -/
import Derived.Test.YtiikiphkhfmlcaaGreatDoorWi
import Derived.Test.YtiikiphkhfmlcaaGreatDoorLaw
import Derived.Deep.Slices
import Derived.Below
noncomputable section
namespace Go.Proofs.YtiikiphkhfmlcaaGreatDoor.Ex
open Go Go.RowKit Go.ChangeShapes Go.WideShapes

def kV : CK → Value → Prop
  | .int k, v => ∃ n, v = .int k n ∧ (Lit.int k n).wf = true
  | .bool, v => ∃ b, v = .bool b
  | .str, v => ∃ s : ByteArray, v = .string s ∧ s.size ≤ maxLen
  | .ls _, _ => False
def intOf : Value → Int | .int _ n => n | _ => 0
def boolOf : Value → Bool | .bool b => b | _ => false
def strOf : Value → List UInt8 | .string s => s.data.toList | _ => []
def colsV (V : Nat → Nat → Value) : List CK → Nat → List Col
  | [], _ => []
  | k :: ks, j => (match k with | .int k => .int k (fun i => intOf (V i j)) | .bool => .bool (fun i => boolOf (V i j)) | .str => .str (fun i => strOf (V i j)) | .ls _ => .bool fun _ => false) :: colsV V ks (Nat.succ j)
def scalV (k : CK) (v : Value) : AV := match k with | .int k => .y k (intOf v) | .bool => .yb (boolOf v) | .str => .ys (strOf v) | .ls _ => .yb false
theorem kV_R {k : CK} {v : Value} (h : kV k v) : (scalV k v).R noM v ∧ v.oneCell' = true := by
  cases k with
  | int k => obtain ⟨n, rfl, _⟩ := h; exact ⟨rfl, rfl⟩
  | bool => obtain ⟨n, rfl⟩ := h; exact ⟨rfl, rfl⟩
  | str => obtain ⟨s, rfl, _⟩ := h; exact ⟨by simp [scalV, AV.R, strOf], rfl⟩
  | ls => exact h.elim
theorem colsV_at {V : Nat → Nat → Value} {i : Nat} : ∀ {ks : List CK} {j0 j : Nat} {k : CK}, ks[j]? = some k → colF (colsV V ks j0) i j = scalV k (V i (j0 + j))
  | [], j0, j, k, h => by simp at h
  | c :: ks, j0, 0, k, h => by
    simp at h; subst h
    cases c <;> rfl
  | c :: ks, j0, j + 1, k, h => by
    have := colsV_at (V := V) (i := i) (ks := ks) (j0 := j0 + 1) (j := j) (by simpa using h)
    simp only [colsV, colF]
    rw [show j0 + (j + 1) = j0 + 1 + j by omega]
    exact this
/-- What lies in the laid package variables is not of this kind. -/
def GLK (k : CK) : Prop := ∀ g c, GL g = some c → ∀ (j : Nat) (a : AV), c[j]? = some a → ∀ v, a.R noM v → ¬ kV k v
theorem gw_none (gl : ∀ b, GL b = none) {w : World} : GW w := fun g c h => by rw [gl] at h; cases h
def ckOk (P : Program) (t : TypeId) (k : CK) : Bool :=
  match P.underlying t, k with
  | some (.int k'), .int k => eqK k' k
  | some .bool, .bool => true
  | some .string, .str => true
  | _, _ => false
section
variable {H : Type} {enc : TypeId × Value → H} {P : Program} {w : World} {base : Nat} {spare : Nat → Bool} {held : Bool}
theorem trod_ck {t : TypeId} {k : CK} {v : Value} {fuel : Nat} {x : DataW H × List MemPlace} (hk : ckOk P t k = true) (h : DataW.trod enc P w base spare held fuel t [v] = some x) : kV k v := by
  cases fuel with
  | zero => simp [DataW.trod] at h
  | succ n =>
    unfold ckOk at hk
    unfold DataW.trod at h
    split at hk
    · rename_i k' k hu
      obtain rfl := eqK_eq hk
      rw [hu] at h
      cases v <;> simp at h
      obtain ⟨⟨rfl, h2⟩, _⟩ := h
      exact ⟨_, rfl, h2⟩
    · rename_i hu
      rw [hu] at h
      cases v <;> simp at h
      exact ⟨_, rfl⟩
    · rename_i hu
      rw [hu] at h
      cases v <;> simp at h
      exact ⟨_, rfl, h.1⟩
    · cases hk
end

/-! All plain data, flattened: scalars, slices of rows of scalars, structs of these. -/
inductive CT where
  | sc (k : CK)
  | rw (e : TypeId) (ks : List CK)
def CT.cs : CT → Cs
  | .sc _ => none
  | .rw e ks => some (e, ks)
def scsOf : List CT → Option (List CK)
  | [] => some []
  | .sc k :: l => match scsOf l with | some ks => some (k :: ks) | none => none
  | .rw _ _ :: _ => none
def GLs (cts : List CT) : Prop := ∀ e ks, CT.rw e ks ∈ cts → ∀ k, ks[0]? = some k → GLK k
theorem GLs_none (gl : ∀ b, GL b = none) {cts : List CT} : GLs cts := fun _ _ _ _ _ g c h => by rw [gl] at h; cases h
def ctsFs (g : TypeId → Option (List CT)) (P : Program) : List Field → Nat → Option (List CT)
  | [], _ => some []
  | f :: fs, j => match g f.type with
    | some l => bif Nat.beq f.offset j && Nat.beq (P.cellsOf f.type) l.length then match ctsFs g P fs (j + l.length) with | some r => some (l ++ r) | none => none else none
    | none => none
def ctsOf (P : Program) : Nat → TypeId → Option (List CT)
  | 0, _ => none
  | n + 1, t => match P.underlying t with
    | some (.int k) => some [.sc (.int k)]
    | some .bool => some [.sc .bool]
    | some .string => some [.sc .str]
    | some (.slice e) => match ctsOf P n e with
      | some l => match scsOf l with
        | some ks => bif Nat.beq (P.cellsOf e) ks.length && Nat.blt 0 ks.length then some [.rw e ks] else none
        | none => none
      | none => none
    | some (.struct fs) => match ctsFs (ctsOf P n) P fs.toList 0 with
      | some l => bif Nat.beq (P.cellsOf t) l.length then some l else none
      | none => none
    | _ => none
def DcK (c : CT) (d : Dc) : Prop :=
  match c with
  | .sc k => ∃ v, kV k v ∧ d = .v (scalV k v)
  | .rw _ ks => ∃ nil n V, n ≤ maxLen ∧ (nil = true → n = 0) ∧ (∀ i, i < n → ∀ (j : Nat) (k : CK), ks[j]? = some k → kV k (V i j)) ∧ d = .rows nil n (colsV V ks 0)
def DcKs : List CT → List Dc → Prop
  | [], ds => ds = []
  | c :: cs, ds => ∃ d ds', ds = d :: ds' ∧ DcK c d ∧ DcKs cs ds'
theorem DcRs_app {w : World} : ∀ {a b : List Cs} {ds es : List Dc} {us vs : List Value}, DcRs w a ds us → DcRs w b es vs → DcRs w (a ++ b) (ds ++ es) (us ++ vs)
  | [], b, ds, es, us, vs, h, h2 => by obtain ⟨rfl, rfl⟩ := h; exact h2
  | c :: a, b, ds, es, us, vs, h, h2 => by
    obtain ⟨d, ds', u, us', rfl, rfl, h3, h4⟩ := h
    exact ⟨d, ds' ++ es, u, us' ++ vs, rfl, rfl, h3, DcRs_app h4 h2⟩
theorem DcKs_app : ∀ {a b : List CT} {ds es : List Dc}, DcKs a ds → DcKs b es → DcKs (a ++ b) (ds ++ es)
  | [], b, ds, es, h, h2 => by simp only [DcKs] at h; subst h; exact h2
  | c :: a, b, ds, es, h, h2 => by
    obtain ⟨d, ds', rfl, h3, h4⟩ := h
    exact ⟨d, ds' ++ es, rfl, h3, DcKs_app h4 h2⟩
theorem kV_inj {k : CK} {v u : Value} (h : kV k v) (r : (scalV k v).R noM u) : u = v := by
  cases k with
  | int k => obtain ⟨n, rfl, _⟩ := h; exact r
  | bool => obtain ⟨n, rfl⟩ := h; exact r
  | str => obtain ⟨s, rfl, _⟩ := h; simpa [scalV, AV.R, strOf] using r
  | ls => exact h.elim
theorem scs_len : ∀ {cts : List CT} {ks : List CK}, scsOf cts = some ks → cts.length = ks.length
  | [], ks, h => by simp [scsOf] at h; subst h; rfl
  | .sc k :: l, ks, h => by
    simp only [scsOf] at h
    split at h
    · rename_i ks' hl
      simp only [Option.some.injEq] at h; subst h; simp [scs_len hl]
    · cases h
  | .rw _ _ :: _, ks, h => by cases h
theorem scs_at {w : World} : ∀ {cts : List CT} {ks : List CK} {ds : List Dc} {us : List Value}, scsOf cts = some ks → DcRs w (cts.map CT.cs) ds us → DcKs cts ds → us.length = ks.length ∧ ∀ (j : Nat) (k : CK), ks[j]? = some k → ∃ v, us[j]? = some v ∧ kV k v
  | [], ks, ds, us, h, h2, _ => by
    simp [scsOf] at h; subst h
    obtain ⟨_, rfl⟩ := h2
    exact ⟨rfl, fun j k hj => by simp at hj⟩
  | .sc k :: l, ks, ds, us, h, h2, h3 => by
    simp only [scsOf] at h
    split at h
    · rename_i ks' hl
      simp only [Option.some.injEq] at h; subst h
      obtain ⟨d, ds', u, us', rfl, rfl, h4, h5⟩ := h2
      obtain ⟨d2, ds2, e, h6, h7⟩ := h3
      simp only [List.cons.injEq] at e
      obtain ⟨rfl, rfl⟩ := e
      obtain ⟨v, q1, rfl⟩ := h6
      have := kV_inj q1 h4
      subst this
      obtain ⟨r1, r2⟩ := scs_at hl h5 h7
      refine ⟨by simp [r1], fun j k' hj => ?_⟩
      cases j with
      | zero => simp at hj; subst hj; exact ⟨_, rfl, q1⟩
      | succ j => simpa using r2 j k' (by simpa using hj)
    · cases h
  | .rw _ _ :: _, ks, ds, us, h, _, _ => by cases h
section
variable {H : Type} {enc : TypeId × Value → H} {P : Program} {w : World} {base : Nat} {spare : Nat → Bool} {held : Bool}
theorem trod_slc {t e : TypeId} {ks : List CK} {v : Value} {fuel : Nat} {x : DataW H × List MemPlace} (hu : P.underlying t = some (.slice e)) (hz : P.cellsOf e = ks.length) (hp : 0 < ks.length)
    (he : ∀ (n : Nat) (cs : List Value) (y : DataW H × List MemPlace), cs.length = P.cellsOf e → DataW.trod enc P w base spare held n e cs = some y → ∀ (j : Nat) (k : CK), ks[j]? = some k → ∃ v, cs[j]? = some v ∧ kV k v)
    (h : DataW.trod enc P w base spare held fuel t [v] = some x) :
    ∃ (nil : Bool) (n : Nat) (V : Nat → Nat → Value), n ≤ maxLen ∧ (nil = true → n = 0) ∧ (∀ i, i < n → ∀ (j : Nat) (k : CK), ks[j]? = some k → kV k (V i j)) ∧ DcR w (some (e, ks)) (.rows nil n (colsV V ks 0)) v := by
  rcases Go.Deep.open_slice hu h with ⟨e1, _⟩ | ⟨a, len, cap, m, n, D, Pl, e1, _, hlc, hcm, hm, _, hx⟩
  · simp at e1; subst e1
    exact ⟨true, 0, fun _ _ => .nilFunc, Nat.zero_le _, fun _ => rfl, fun i hi => by omega, .inl ⟨rfl, rfl, rfl⟩⟩
  · simp at e1; subst e1
    have hlm : len ≤ m := by rw [hm]; split <;> omega
    have key : ∀ i, i < len → ∃ f : Nat → Value, ∀ (j : Nat) (k : CK), ks[j]? = some k → kV k (f j) ∧ w.cell? (a.add (i * ks.length + j)) = some (f j) := fun i hi => by
      obtain ⟨cs', h1, h2⟩ := hx i (by omega)
      obtain ⟨_, hlen, hcell⟩ := World.cells?_some h1
      have q2 := he _ _ _ hlen h2
      refine ⟨fun j => cs'.getD j .nilFunc, fun j k hj => ?_⟩
      obtain ⟨v, e1, e2⟩ := q2 j k hj
      have hjl : j < P.cellsOf e := by rw [hz]; exact (List.getElem?_eq_some_iff.1 hj).1
      have := hcell j hjl
      rw [e1, hz, Go.Deep.add_add] at this
      have e3 : cs'.getD j .nilFunc = v := by rw [List.getD_eq_getElem?_getD, e1]; rfl
      simp only [e3]
      exact ⟨e2, this⟩
    obtain ⟨V, hV⟩ := Go.Deep.choose_lt key
    refine ⟨false, len, V, by omega, (fun e => by cases e), fun i hi j k hj => (hV i hi j k hj).1, .inr ⟨rfl, a, cap, rfl, hlc, ?_⟩⟩
    by_cases h0 : len = 0
    · exact .inl h0
    · right
      obtain ⟨k0, hk0⟩ : ∃ k, ks[0]? = some k := ⟨ks[0], by simp [hp]⟩
      have hc0 := (hV 0 (by omega) 0 k0 hk0).2
      have hsp := World.cell?_spot hc0
      have ha : a = ⟨a.block, a.off, none⟩ := by
        cases a with | mk b o s => simp [Addr.add] at hsp; subst hsp; rfl
      have cell : ∀ k v, w.cell? (a.add k) = some v → ∃ cs e fr, w.heap[a.block]? = some (.cells cs e fr) ∧ cs[a.off + k]? = some v := fun k v hc => by
        rw [ha, addr_add] at hc
        simp only [World.cell?] at hc
        split at hc
        · rename_i cs e fr hb
          exact ⟨cs, e, fr, hb, by simpa using hc⟩
        · cases hc
      obtain ⟨cs, e', fr, hb, _⟩ := cell _ _ hc0
      refine ⟨a.block, a.off, ha, cs, e', fr, hb, fun i hi j hj => ?_⟩
      obtain ⟨kj, hkj⟩ : ∃ k, ks[j]? = some k := ⟨ks[j], by simp [hj]⟩
      obtain ⟨q1, q2⟩ := hV i hi j kj hkj
      obtain ⟨cs2, e2, fr2, hb2, hv⟩ := cell _ _ q2
      rw [hb] at hb2
      simp only [Option.some.injEq, Obj.cells.injEq] at hb2
      obtain ⟨rfl, rfl, rfl⟩ := hb2
      obtain ⟨r1, r2⟩ := kV_R q1
      refine ⟨V i j, by rw [← hv]; congr 1; omega, r2, ?_⟩
      rw [colsV_at hkj, Nat.zero_add]; exact r1
/-- What such a type's cells are. -/
theorem trod_cts : ∀ {n : Nat} {t : TypeId} {cts : List CT} {cs : List Value} {fuel : Nat} {x : DataW H × List MemPlace}, ctsOf P n t = some cts → cs.length = cts.length → DataW.trod enc P w base spare held fuel t cs = some x →
    ∃ ds, DcRs w (cts.map CT.cs) ds cs ∧ DcKs cts ds
  | 0, t, cts, cs, fuel, x, h, _, _ => by cases h
  | n + 1, t, cts, cs, fuel, x, h, hl, ht => by
    have scal : ∀ k, cts = [.sc k] → ckOk P t k = true → ∃ ds, DcRs w (cts.map CT.cs) ds cs ∧ DcKs cts ds := fun k e hk => by
      subst e
      match cs, hl with
      | [v], _ =>
        have := trod_ck hk ht
        exact ⟨[.v (scalV k v)], ⟨_, _, _, _, rfl, rfl, (kV_R this).1, rfl, rfl⟩, ⟨_, _, rfl, ⟨v, this, rfl⟩, rfl⟩⟩
    unfold ctsOf at h
    split at h
    · rename_i k hu
      simp only [Option.some.injEq] at h; exact scal _ h.symm (by simp only [ckOk, hu]; cases k <;> rfl)
    · rename_i hu
      simp only [Option.some.injEq] at h; exact scal _ h.symm (by simp [ckOk, hu])
    · rename_i hu
      simp only [Option.some.injEq] at h; exact scal _ h.symm (by simp [ckOk, hu])
    · rename_i e hu
      split at h
      case h_2 => cases h
      rename_i l hle
      split at h
      case h_2 => cases h
      rename_i ks hks
      simp only [Bool.cond_eq_ite] at h
      split at h
      case isFalse => cases h
      rename_i hc
      simp only [Option.some.injEq] at h; subst h
      simp only [Bool.and_eq_true, nbeq, nblt, decide_eq_true_eq] at hc
      match cs, hl with
      | [v], _ =>
        have hll := scs_len hks
        obtain ⟨nil, m, V, q1, q2, q3, q4⟩ := trod_slc hu hc.1 hc.2 (fun n' cs' y h1 h2 => by
          obtain ⟨ds, r1, r2⟩ := trod_cts hle (by rw [h1, hc.1, hll]) h2
          exact (scs_at hks r1 r2).2) ht
        exact ⟨[_], ⟨_, _, _, _, rfl, rfl, q4, rfl, rfl⟩, ⟨_, _, rfl, ⟨nil, m, V, q1, q2, q3, rfl⟩, rfl⟩⟩
    · rename_i fs hu
      split at h
      case h_2 => cases h
      rename_i l hl2
      simp only [Bool.cond_eq_ite] at h
      split at h
      case isFalse => cases h
      simp only [Option.some.injEq] at h; subst h
      obtain ⟨xs, n', _, _, h3, h4, h5⟩ := DataW.trod_struct hu ht
      have key : ∀ (fl : List Field) (j : Nat) (l : List CT), (∀ f ∈ fl, f ∈ fs.toList) → ctsFs (ctsOf P n) P fl j = some l → (cs.drop j).length = l.length → ∃ ds, DcRs w (l.map CT.cs) ds (cs.drop j) ∧ DcKs l ds := by
        intro fl
        induction fl with
        | nil =>
          intro j l _ e hlen
          simp [ctsFs] at e; subst e
          have : cs.drop j = [] := List.length_eq_zero_iff.1 hlen
          rw [this]
          exact ⟨[], ⟨rfl, rfl⟩, rfl⟩
        | cons f fl ih =>
          intro j l hmem e hlen
          simp only [ctsFs] at e
          split at e
          case h_2 => cases e
          rename_i lf hlf
          simp only [Bool.cond_eq_ite] at e
          split at e
          case isFalse => cases e
          rename_i hc
          simp only [Bool.and_eq_true, nbeq, decide_eq_true_eq] at hc
          obtain ⟨rfl, hc2⟩ := hc
          split at e
          case h_2 => cases e
          rename_i r hr
          simp only [Option.some.injEq] at e; subst e
          simp only [List.length_append] at hlen
          obtain ⟨i, hi⟩ := List.mem_iff_getElem?.1 (hmem f (by simp))
          have hx := h5 i f (by simpa using hi)
          have hxl : i < xs.length := by rw [h4, ← Array.length_toList]; exact (List.getElem?_eq_some_iff.1 hi).1
          rw [List.getElem?_eq_getElem hxl] at hx
          obtain ⟨ds1, r1, r2⟩ := trod_cts hlf (by rw [List.length_take, hc2]; omega) hx
          obtain ⟨ds2, r3, r4⟩ := ih (f.offset + lf.length) r (fun g hg => hmem g (by simp [hg])) hr (by rw [List.length_drop] at hlen ⊢; omega)
          refine ⟨ds1 ++ ds2, ?_, DcKs_app r2 r4⟩
          rw [List.map_append]
          have e2 : cs.drop f.offset = (cs.drop f.offset).take (P.cellsOf f.type) ++ cs.drop (f.offset + lf.length) := by
            rw [hc2, ← List.drop_drop]; exact (List.take_append_drop _ _).symm
          rw [e2]
          exact DcRs_app r1 r3
      exact key fs.toList 0 l (fun _ h => h) hl2 (by simpa using hl)
    · cases h
/-- A struct that came in. -/
theorem par_aggN {n : Nat} {t : TypeId} {cts : List CT} {fs : Array Field} {r : Reach} {b0 : Nat} {v : Value} {d : DataW H} {ps : List MemPlace} (hc : ctsOf P n t = some cts) (hu : P.underlying t = some (.struct fs)) (hz : P.cellsOf t = cts.length)
    (hk : Value.okWide P w r b0 t v) (h : DataW.Trod enc P w base spare held t v d ps) : ∃ ds, DaR w (.agg (cts.map CT.cs)) (.agg ds) v ∧ DcKs cts ds := by
  unfold Value.okWide at hk
  rw [hu] at hk
  obtain ⟨cs, rfl, hsz, _⟩ := hk
  obtain ⟨fuel, h⟩ := h
  obtain ⟨ds, q1, q2⟩ := trod_cts hc (by simp [Value.cells, hsz, hz]) h
  exact ⟨ds, ⟨_, rfl, q1⟩, q2⟩
/-- One cell that came in. -/
theorem par_cellN {n : Nat} {t : TypeId} {c : CT} {v : Value} {d : DataW H} {ps : List MemPlace} (hc : ctsOf P n t = some [c]) (hv : v.cells = #[v])
    (h : DataW.Trod enc P w base spare held t v d ps) : ∃ d, DaR w (.cell c.cs) (.cell d) v ∧ DcK c d := by
  obtain ⟨fuel, h⟩ := h
  rw [hv] at h
  obtain ⟨ds, q1, q2⟩ := trod_cts hc rfl h
  obtain ⟨d, ds', rfl, q3, q4⟩ := q2
  obtain ⟨d', ds'', u, us', e1, e2, q5, _⟩ := q1
  simp only [List.cons.injEq] at e1 e2
  obtain ⟨rfl, _⟩ := e1
  obtain ⟨rfl, _⟩ := e2
  exact ⟨d, q5, q3⟩
theorem par_aggG (_ : GW w) {n : Nat} {t : TypeId} {cts : List CT} {fs : Array Field} {r : Reach} {b0 : Nat} {v : Value} {d : DataW H} {ps : List MemPlace} (_ : GLs cts) (hc : ctsOf P n t = some cts) (hu : P.underlying t = some (.struct fs)) (hz : P.cellsOf t = cts.length)
    (hk : Value.okWide P w r b0 t v) (h : DataW.Trod enc P w base spare held t v d ps) : ∃ ds, DaR w (.agg (cts.map CT.cs)) (.agg ds) v ∧ DcKs cts ds := par_aggN hc hu hz hk h
theorem par_cellG (_ : GW w) {n : Nat} {t : TypeId} {c : CT} {v : Value} {d : DataW H} {ps : List MemPlace} (_ : GLs [c]) (hc : ctsOf P n t = some [c]) (hv : v.cells = #[v])
    (h : DataW.Trod enc P w base spare held t v d ps) : ∃ d, DaR w (.cell c.cs) (.cell d) v ∧ DcK c d := par_cellN hc hv h
/-- A struct that came in. -/
theorem par_agg (gl : ∀ b, GL b = none) {n : Nat} {t : TypeId} {cts : List CT} {fs : Array Field} {r : Reach} {b0 : Nat} {v : Value} {d : DataW H} {ps : List MemPlace} (hc : ctsOf P n t = some cts) (hu : P.underlying t = some (.struct fs)) (hz : P.cellsOf t = cts.length)
    (hk : Value.okWide P w r b0 t v) (h : DataW.Trod enc P w base spare held t v d ps) : ∃ ds, DaR w (.agg (cts.map CT.cs)) (.agg ds) v ∧ DcKs cts ds := by
  exact par_aggG (gw_none gl) (GLs_none gl) hc hu hz hk h
/-- One cell that came in. -/
theorem par_cell (gl : ∀ b, GL b = none) {n : Nat} {t : TypeId} {c : CT} {v : Value} {d : DataW H} {ps : List MemPlace} (hc : ctsOf P n t = some [c]) (hv : v.cells = #[v])
    (h : DataW.Trod enc P w base spare held t v d ps) : ∃ d, DaR w (.cell c.cs) (.cell d) v ∧ DcK c d := by
  exact par_cellG (gw_none gl) (GLs_none gl) hc hv h
end

/-- **A law's walk, at its end**: it answers the bool, and what lay in memory lies as it lay. -/
theorem law_callsG {P : Program} {sm : FuncId → Option Sm} (hm : P.follows .mixedOrders = true) (hs : SmOK P sm) {gs : List Ag} {ds : List Da} {us : List Value} {ann : Nat → Option (St → LoopA)} {n : Nat} {f : FuncId} {w : World} (gw : GW w)
    (hd : DaRs w gs ds us) (hl : (canA gs ds []).2.length < 4294967296) (h : wxF P sm ann n f (canA gs ds []).1 (heapOf (canA gs ds []).2) (fun r _ => cmpC (.yb true) r)) :
    Calls P f us.toArray w fun e w' => e = .returned (.bool true) ∧ Below w.heap.size w w' := by
  obtain ⟨ks, hb, hr⟩ := canA_ok (bl := []) (bs := []) hd rfl
  simp only [List.nil_append] at hb hr
  obtain ⟨rel, fr⟩ := heapOf_rel hb hl gw
  obtain ⟨_, cc⟩ := wxF_ok hm hs h (Mof ks) us w none (fun e w' => e = .returned (.bool true) ∧ Below w.heap.size w w') hr rel fr (fun v _ M' u w' hk rv _ _ f _ => by
    refine ⟨?_, f.os, f.tape, f.output, f.size, fun k hk2 => f.keep k hk2 (own_none hb hl k)⟩
    have := cmpC_R hk rv (M' := noM)
    rw [this])
  exact CallsIn.calls cc (fun k d hd => by simp [FW] at hd)
theorem law_calls {P : Program} {sm : FuncId → Option Sm} (hm : P.follows .mixedOrders = true) (hs : SmOK P sm) (gl : ∀ b, GL b = none) {gs : List Ag} {ds : List Da} {us : List Value} {ann : Nat → Option (St → LoopA)} {n : Nat} {f : FuncId} {w : World}
    (hd : DaRs w gs ds us) (hl : (canA gs ds []).2.length < 4294967296) (h : wxF P sm ann n f (canA gs ds []).1 (heapOf (canA gs ds []).2) (fun r _ => cmpC (.yb true) r)) :
    Calls P f us.toArray w fun e w' => e = .returned (.bool true) ∧ Below w.heap.size w w' :=
  law_callsG hm hs (gw_none gl) hd hl h
end Go.Proofs.YtiikiphkhfmlcaaGreatDoor.Ex
