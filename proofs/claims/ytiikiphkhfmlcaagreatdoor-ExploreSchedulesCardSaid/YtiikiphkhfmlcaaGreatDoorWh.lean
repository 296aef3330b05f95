/- Walks by symbols: contracts of functions that hand back a scalar and change nothing. -/
import Derived.Test.YtiikiphkhfmlcaaGreatDoorWg
noncomputable section
namespace Go.Proofs.YtiikiphkhfmlcaaGreatDoor.Ex
open Go

def toY : AV → AV
  | .i k n => .y k n
  | .b x => .yb x
  | .s l => .ys l
  | a => a
def kOk1 (k : K1) (a : AV) : Bool :=
  match k with
  | .int k => match yI a with | some (k', _) => eqK k k' | none => false
  | .bool => match yB a with | some _ => true | none => false
  | .str => match yS a with | some _ => true | none => false
def row1 (f : Nat → AV) : List K1 → Nat → Bool
  | [], _ => true
  | k :: ks, j => kOk1 k (f j) && row1 f ks (Nat.succ j)
/-- A value that is a list of its own. -/
def lsOf (z : Nat) (a : AV) : Option (Bool × Nat × (Nat → Nat → AV)) :=
  match a with
  | .lst _ nil z' n f => bif Nat.beq z z' then some (nil, n, f) else none
  | .ns => some (true, 0, fun _ _ => .np)
  | .es => some (false, 0, fun _ _ => .np)
  | .ye nil => some (nil, 0, fun _ _ => .np)
  | _ => none
def flatK (k : CK) : Bool := match k with | .ls _ => false | _ => true
def flatKs : List CK → Bool
  | [] => true
  | k :: ks => flatK k && flatKs ks
def ZLe (M M' : Mp) : Prop := ∀ b cs, M.z b = some cs → M'.z b = some cs
def kOk (k : CK) (a : AV) : Bool :=
  match k with
  | .int k => match yI a with | some (k', _) => eqK k k' | none => false
  | .bool => match yB a with | some _ => true | none => false
  | .str => match yS a with | some _ => true | none => false
  | .ls ks => match lsOf ks.length a with
    | some (_, n, f) => (List.range n).all fun p => row1 (f p) ks 0
    | none => false
def rowOk (f : Nat → AV) : List CK → Nat → Bool
  | [], _ => true
  | k :: ks, j => kOk k (f j) && rowOk f ks (Nat.succ j)
/-- All elements have such a cell there. -/
def yCol (k : CK) (n : Nat) (c : Nat → AV) : Bool := (List.range n).all fun i => kOk k (c i)
theorem yCol_ok {k : CK} {n : Nat} {c : Nat → AV} : yCol k n c = true ↔ ∀ i, i < n → kOk k (c i) = true := by
  simp [yCol, List.all_eq_true]
def mustCols {α : Type} (n : Nat) (f : Nat → Nat → AV) : List CK → Nat → T α → T α
  | [], _, t => t
  | k :: ks, j, t => .must (yCol k n (fun i => f i j)) (mustCols n f ks (Nat.succ j) t)
theorem mustCols_ok {α : Type} {n : Nat} {f : Nat → Nat → AV} {t : T α} {x : α} : ∀ {ks : List CK} {j : Nat}, (mustCols n f ks j t).sel = some x → (∀ i, i < n → rowOk (f i) ks j = true) ∧ t.sel = some x
  | [], j, h => ⟨fun _ _ => rfl, h⟩
  | k :: ks, j, h => by
    obtain ⟨h1, h2⟩ := T.sel_must h
    obtain ⟨h3, h4⟩ := mustCols_ok h2
    exact ⟨fun i hi => by simp only [rowOk, Bool.and_eq_true]; exact ⟨yCol_ok.1 h1 i hi, h3 i hi⟩, h4⟩
def toI (a : AV) : Int := match yI a with | some (_, n) => n | none => 0
def toB (a : AV) : Bool := match yB a with | some b => b | none => false
def toS (a : AV) : List UInt8 := match yS a with | some l => l | none => []
def cl2Of (f : Nat → Nat → Nat → AV) : List K1 → Nat → List Cl2
  | [], _ => []
  | k :: ks, j => (match k with | .int k => .int k (fun i p => toI (f i p j)) | .bool => .bool (fun i p => toB (f i p j)) | .str => .str (fun i p => toS (f i p j))) :: cl2Of f ks (Nat.succ j)
def lsNil (z : Nat) (a : AV) : Bool := match lsOf z a with | some (nil, _, _) => nil | none => false
def lsN (z : Nat) (a : AV) : Nat := match lsOf z a with | some (_, n, _) => n | none => 0
def lsF (z : Nat) (a : AV) : Nat → Nat → AV := match lsOf z a with | some (_, _, f) => f | none => fun _ _ => .np
def colOf (f : Nat → Nat → AV) (k : CK) (j : Nat) : Col :=
  match k with
  | .int k => .int k (fun i => toI (f i j))
  | .bool => .bool (fun i => toB (f i j))
  | .str => .str (fun i => toS (f i j))
  | .ls ks => .ls (fun i => lsNil ks.length (f i j)) (fun i => lsN ks.length (f i j)) (cl2Of (fun i => lsF ks.length (f i j)) ks 0)
def colsOf (f : Nat → Nat → AV) : List CK → Nat → List Col
  | [], _ => []
  | k :: ks, j => colOf f k j :: colsOf f ks (Nat.succ j)
theorem cl2Of_len {f : Nat → Nat → Nat → AV} : ∀ {ks : List K1} {j : Nat}, (cl2Of f ks j).length = ks.length
  | [], _ => rfl
  | _ :: ks, j => by simp [cl2Of, cl2Of_len]
theorem kOk1_R {k : K1} {f : Nat → Nat → Nat → AV} {i p j : Nat} {M M' : Mp} {v : Value} (h : kOk1 k (f i p j) = true) (r : (f i p j).R M v) :
    ((match k with | .int k => Cl2.int k (fun i p => toI (f i p j)) | .bool => .bool (fun i p => toB (f i p j)) | .str => .str (fun i p => toS (f i p j))).at i p).R M' v ∧ v.oneCell' = true := by
  cases k with
  | int k =>
    simp only [kOk1] at h
    split at h
    · rename_i k' n hy
      obtain rfl := eqK_eq h
      obtain rfl := yI_ok hy r
      exact ⟨by simp only [Cl2.at, toI, hy, AV.R], rfl⟩
    · cases h
  | bool =>
    simp only [kOk1] at h
    split at h
    · rename_i b hy
      obtain rfl := yB_ok hy r
      exact ⟨by simp only [Cl2.at, toB, hy, AV.R], rfl⟩
    · cases h
  | str =>
    simp only [kOk1] at h
    split at h
    · rename_i b hy
      obtain rfl := yS_ok hy r
      exact ⟨by simp only [Cl2.at, toS, hy, AV.R], rfl⟩
    · cases h
theorem cl2Of_R {f : Nat → Nat → Nat → AV} {i p : Nat} {M M' : Mp} {v : Value} : ∀ {ks : List K1} {j0 j : Nat}, row1 (f i p) ks j0 = true → j < ks.length → (f i p (j0 + j)).R M v → (cl2F (cl2Of f ks j0) i p j).R M' v ∧ v.oneCell' = true
  | [], j0, j, _, hj, _ => by simp at hj
  | k :: ks, j0, j, h, hj, r => by
    simp only [row1, Bool.and_eq_true] at h
    cases j with
    | zero => exact kOk1_R h.1 r
    | succ j => exact cl2Of_R (j0 := j0 + 1) h.2 (by simpa using hj) (by rwa [show j0 + 1 + j = j0 + (j + 1) by omega])
theorem lsOf_R {z : Nat} {a : AV} {nil : Bool} {n : Nat} {f : Nat → Nat → AV} (h : lsOf z a = some (nil, n, f)) {M : Mp} {v : Value} (r : a.R M v) : (AV.lst false nil z n f).R M v := by
  cases a <;> simp only [lsOf, reduceCtorEq, Option.some.injEq, Prod.mk.injEq] at h
  case lst x nil' z' n' f' =>
    obtain ⟨h1, h2⟩ : z = z' ∧ some (nil', n', f') = some (nil, n, f) := by
      cases hb : Nat.beq z z' with
      | false => rw [hb] at h; cases h
      | true => rw [hb] at h; exact ⟨beqN hb, h⟩
    subst h1
    simp only [Option.some.injEq, Prod.mk.injEq] at h2
    obtain ⟨rfl, rfl, rfl⟩ := h2
    simp only [AV.R] at r ⊢
    rcases r with r | ⟨r1, r2, a, c, r3, _⟩ | ⟨r1, r2, b, off, c, cs, r3, r4, _, r5⟩
    · exact .inl r
    · exact .inr (.inl ⟨r1, r2, a, c, r3, fun e => by cases e⟩)
    · exact .inr (.inr ⟨r1, r2, b, off, c, cs, r3, r4, (fun e => by cases e), r5⟩)
  case ns =>
    obtain ⟨rfl, rfl, _⟩ := h
    simp only [AV.R] at r ⊢
    exact .inl ⟨trivial, trivial, r⟩
  case es =>
    obtain ⟨rfl, rfl, _⟩ := h
    simp only [AV.R] at r ⊢
    obtain ⟨a, c, r⟩ := r
    exact .inr (.inl ⟨trivial, trivial, a, c, r, fun e => by cases e⟩)
  case ye nil' =>
    obtain ⟨rfl, rfl, _⟩ := h
    simp only [AV.R] at r ⊢
    rcases r with ⟨r1, r2⟩ | ⟨r1, a, r2⟩
    · exact .inl ⟨r1, trivial, r2⟩
    · exact .inr (.inl ⟨r1, trivial, a, 0, r2, fun _ => rfl⟩)
/-- The same list, as columns. -/
theorem lst_can {x nil : Bool} {z n : Nat} {f f' : Nat → Nat → AV} {M M' : Mp} {v : Value} (hz : ZLe M M') (hf : ∀ i, i < n → ∀ j, j < z → ∀ u, (f i j).R M u → (f' i j).R M' u) (r : (AV.lst x nil z n f).R M v) : (AV.lst false nil z n f').R M' v ∧ v.oneCell' = true := by
  simp only [AV.R] at r ⊢
  rcases r with ⟨r1, r2, rfl⟩ | ⟨r1, r2, a, c, rfl, _⟩ | ⟨r1, r2, b, off, c, cs, rfl, r4, _, r5, r6⟩
  · exact ⟨.inl ⟨r1, r2, rfl⟩, rfl⟩
  · exact ⟨.inr (.inl ⟨r1, r2, a, c, rfl, fun e => by cases e⟩), rfl⟩
  · refine ⟨.inr (.inr ⟨r1, r2, b, off, c, cs, rfl, r4, (fun e => by cases e), hz _ _ r5, fun i hi j hj => ?_⟩), rfl⟩
    obtain ⟨u, q1, q2, q3⟩ := r6 i hi j hj
    exact ⟨u, q1, q2, hf i hi j hj u q3⟩
theorem kOk_R {k : CK} {f : Nat → Nat → AV} {i j : Nat} {M M' : Mp} {v : Value} (hz : flatK k = true ∨ ZLe M M') (h : kOk k (f i j) = true) (r : (f i j).R M v) :
    ((colOf f k j).at i).R M' v ∧ v.oneCell' = true := by
  unfold colOf
  cases k with
  | ls ks =>
    rcases hz with hz | hz
    · cases hz
    simp only [kOk] at h
    split at h
    · rename_i nil n g hg
      have r := lsOf_R hg r
      have hx := lst_can (f' := cl2F (cl2Of (fun i => lsF ks.length (f i j)) ks 0) i) hz (fun p hp q hq u ru => by
        simp only [List.all_eq_true, List.mem_range] at h
        have h1 := h p hp
        have e : lsF ks.length (f i j) = g := by unfold lsF; rw [hg]
        refine (cl2Of_R (M := M) (M' := M') (j0 := 0) ?_ hq ?_).1
        · show row1 (lsF ks.length (f i j) p) ks 0 = true; rw [e]; exact h1
        · rw [Nat.zero_add]; show (lsF ks.length (f i j) p q).R M u; rw [e]; exact ru) r
      refine ⟨?_, hx.2⟩
      have e1 : lsNil ks.length (f i j) = nil := by unfold lsNil; rw [hg]
      have e2 : lsN ks.length (f i j) = n := by unfold lsN; rw [hg]
      simp only [Col.at, e1, e2, cl2Of_len]
      exact hx.1
    · cases h
  | int k =>
    simp only [kOk] at h
    split at h
    · rename_i k' n hy
      obtain rfl := eqK_eq h
      obtain rfl := yI_ok hy r
      exact ⟨by simp only [Col.at, toI, hy, AV.R], rfl⟩
    · cases h
  | bool =>
    simp only [kOk] at h
    split at h
    · rename_i b hy
      obtain rfl := yB_ok hy r
      exact ⟨by simp only [Col.at, toB, hy, AV.R], rfl⟩
    · cases h
  | str =>
    simp only [kOk] at h
    split at h
    · rename_i b hy
      obtain rfl := yS_ok hy r
      exact ⟨by simp only [Col.at, toS, hy, AV.R], rfl⟩
    · cases h
theorem colsOf_R {f : Nat → Nat → AV} {i : Nat} {M M' : Mp} {v : Value} : ∀ {ks : List CK} {j0 j : Nat}, (flatKs ks = true ∨ ZLe M M') → rowOk (f i) ks j0 = true → j < ks.length → (f i (j0 + j)).R M v → (colF (colsOf f ks j0) i j).R M' v ∧ v.oneCell' = true
  | [], j0, j, _, _, hj, _ => by simp at hj
  | k :: ks, j0, j, hz, h, hj, r => by
    simp only [rowOk, Bool.and_eq_true] at h
    have hz1 : flatK k = true ∨ ZLe M M' := hz.imp (fun e => by simp only [flatKs, Bool.and_eq_true] at e; exact e.1) id
    have hz2 : flatKs ks = true ∨ ZLe M M' := hz.imp (fun e => by simp only [flatKs, Bool.and_eq_true] at e; exact e.2) id
    cases j with
    | zero => exact kOk_R hz1 h.1 r
    | succ j => exact colsOf_R (j0 := j0 + 1) hz2 h.2 (by simpa using hj) (by rwa [show j0 + 1 + j = j0 + (j + 1) by omega])
def shiftF (o : Nat) (f : Nat → Nat → AV) : Nat → Nat → AV :=
  match o with
  | 0 => f
  | Nat.succ o => fun i j => f (yNadd (Nat.succ o) i) j
theorem shiftF_eq (o : Nat) (f : Nat → Nat → AV) (i j : Nat) : shiftF o f i j = f (o + i) j := by
  cases o <;> simp [shiftF, yNadd]
def litF (z : Nat) (l : List AV) (i j : Nat) : AV := match nthA l (i * z + j) with | some v => v | none => .np
/-- The columns of a list that is spelt out, by names that need not be computed. -/
def litI (z : Nat) (l : List AV) (j i : Nat) : Int := toI (litF z l i j)
def litB (z : Nat) (l : List AV) (j i : Nat) : Bool := toB (litF z l i j)
def litS (z : Nat) (l : List AV) (j i : Nat) : List UInt8 := toS (litF z l i j)
def colL (z : Nat) (l : List AV) (k : CK) (j : Nat) : Col :=
  match k with
  | .int k => .int k (litI z l j)
  | .bool => .bool (litB z l j)
  | .str => .str (litS z l j)
  | .ls ks => colOf (litF z l) (.ls ks) j
def colsL (z : Nat) (l : List AV) : List CK → Nat → List Col
  | [], _ => []
  | k :: ks, j => colL z l k j :: colsL z l ks (Nat.succ j)
theorem colsL_eq {z : Nat} {l : List AV} : ∀ {ks : List CK} {j : Nat}, colsL z l ks j = colsOf (litF z l) ks j
  | [], _ => rfl
  | k :: ks, j => by simp only [colsL, colsOf]; rw [colsL_eq]; cases k <;> rfl
def litOk (ks : List CK) : Nat → List AV → Bool
  | 0, _ => true
  | n + 1, l => rowOk (fun j => match nthA l j with | some v => v | none => .np) ks 0 && litOk ks n (l.drop ks.length)
def emptyCols (ks : List CK) : List Col := colsOf (fun _ _ => .np) ks 0
def rdC (h : AH) (c : Cs) (a : AV) : T Dc :=
  match c with
  | none => bif scalB a then .ret (.v (toY a)) else .no
  | some (_, ks) => bif !flatKs ks then .no else match a with
    | .ysl ro nil id z' o n => match h.get id with
      | some (.arr ro' _ z2 n2 f) => bif (ro == ro') && Nat.beq ks.length z' && Nat.beq ks.length z2 then .must (yNle (yNadd o n) n2) (mustCols n (shiftF o f) ks 0 (.ret (.rows nil n (colsOf (shiftF o f) ks 0)))) else .no
      | _ => .no
    | .lst _ nil z' n f => bif Nat.beq ks.length z' then mustCols n f ks 0 (.ret (.rows nil n (colsOf f ks 0))) else .no
    | .ns => .ret (.rows true 0 (emptyCols ks))
    | .ye nil => .ret (.rows nil 0 (emptyCols ks))
    | .es => .ret (.rows false 0 (emptyCols ks))
    | .sl id off len cap u => match h.get id with
      | some (.cells c _ g) => match sliceA c off (len * ks.length) with
        | some l => bif litOk ks len l && roomOk u g ks.length cap len c.length then .ret (.rows false len (colsL ks.length l ks 0)) else .no
        | none => .no
      | _ => .no
    | _ => .no
def rdL (h : AH) : List Cs → List AV → T (List Dc)
  | [], [] => .ret []
  | c :: cs, a :: l => (rdC h c a).bind fun d => (rdL h cs l).bind fun ds => .ret (d :: ds)
  | _, _ => .no
def rdG (h : AH) (g : Ag) (a : AV) : T Da :=
  match g with
  | .cell c => (rdC h c a).bind fun d => .ret (.cell d)
  | .agg cs => match a with
    | .agg l => (rdL h cs l).bind fun ds => .ret (.agg ds)
    | _ => .no
def rdA (h : AH) : List Ag → List AV → T (List Da)
  | [], [] => .ret []
  | g :: gs, a :: l => (rdG h g a).bind fun d => (rdA h gs l).bind fun ds => .ret (d :: ds)
  | _, _ => .no
section
variable {P : Program} {M : Mp} {h : AH} {w : World}
theorem toY_R {a : AV} {M' : Mp} {u : Value} (hs : scalB a = true) (r : a.R M u) : (toY a).R M' u ∧ u.oneCell' = true := by
  cases a <;> simp only [scalB, Bool.false_eq_true] at hs <;> (simp only [AV.R] at r; subst r; exact ⟨rfl, rfl⟩)
theorem litOk_row {ks : List CK} : ∀ {n : Nat} {l : List AV}, litOk ks n l = true → ∀ i, i < n → rowOk (fun j => litF ks.length l i j) ks 0 = true
  | 0, l, _, i, hi => by omega
  | n + 1, l, h, i, hi => by
    simp only [litOk, Bool.and_eq_true] at h
    cases i with
    | zero => simpa only [litF, Nat.zero_mul, Nat.zero_add] using h.1
    | succ i =>
      have := litOk_row h.2 i (by omega)
      have e : ∀ (l : List AV) (a b : Nat), nthA (l.drop a) b = nthA l (a + b) := by
        intro l
        induction l with
        | nil => intro a b; simp [nthA_nil]
        | cons x l ih =>
          intro a b
          cases a with
          | zero => simp
          | succ a => rw [List.drop_succ_cons, ih, Nat.add_right_comm]; rfl
      have e2 : (fun j => litF ks.length (l.drop ks.length) i j) = fun j => litF ks.length l (i + 1) j := by
        funext j
        simp only [litF, e]
        rw [show ks.length + (i * ks.length + j) = (i + 1) * ks.length + j by rw [Nat.add_mul]; omega]
      rwa [e2] at this
theorem rdC_ok {c : Cs} {a : AV} {d : Dc} {u : Value} (e : (rdC h c a).sel = some d) (ra : a.R M u) (r : Rel M h w) : DcR w c d u := by
  unfold rdC at e
  simp only [colsL_eq] at e
  split at e
  · simp only [Bool.cond_eq_ite] at e
    split at e
    · rename_i hs
      obtain rfl := (T.sel_ret e).symm
      exact (toY_R hs ra).1
    · cases e
  · rename_i et ks
    cases hfl : flatKs ks with
    | false => rw [hfl] at e; cases e
    | true =>
    rw [hfl] at e
    simp only [Bool.not_true, cond_false] at e
    have hfl : flatKs ks = true ∨ ZLe M noM := .inl hfl
    split at e
    · rename_i ro nil id z' o n
      split at e
      · rename_i ro' e' z2 n2 f hg
        simp only [Bool.cond_eq_ite] at e
        split at e
        · rename_i hc
          simp only [Bool.and_eq_true, beq_iff_eq, nbeq, decide_eq_true_eq] at hc
          obtain ⟨⟨rfl, hz1⟩, hz2⟩ := hc
          subst hz1 hz2
          obtain ⟨h1, e⟩ := T.sel_must e
          obtain ⟨h2, e⟩ := mustCols_ok e
          obtain rfl := (T.sel_ret e).symm
          have h1 : o + n ≤ n2 := of_decide_eq_true h1
          simp only [AV.R] at ra
          rcases ra with ⟨rfl, rfl, rfl⟩ | ⟨rfl, rfl, p, k, rfl, _⟩ | ⟨rfl, b, κ, k, hM, rfl, hnk, h0, _⟩
          · exact .inl ⟨rfl, rfl, rfl⟩
          · exact .inr ⟨rfl, p, k, rfl, Nat.zero_le _, .inl rfl⟩
          · refine .inr ⟨rfl, _, k, rfl, hnk, .inr ⟨b, _, rfl, ?_⟩⟩
            obtain ⟨ob, hb, ho⟩ := Ob_of r hg hM
            cases ro with
            | true =>
              obtain ⟨cs, e', fr, rfl, q⟩ := ho
              refine ⟨cs, e', fr, hb, fun i hi j hj => ?_⟩
              obtain ⟨v, q1, q2, q3⟩ := q (o + i) (by omega) j hj
              refine ⟨v, ?_, q2, ?_⟩
              · rw [← q1]; congr 1; simp only [if_true, Nat.add_mul]; omega
              · exact (colsOf_R (M := M) hfl (h2 i hi) hj (by rw [shiftF_eq, Nat.zero_add]; exact q3)).1
            | false =>
              obtain ⟨cs, rfl, _, _, q⟩ := ho
              refine ⟨cs, e', _, hb, fun i hi j hj => ?_⟩
              obtain ⟨v, q1, q2, q3⟩ := q (o + i) (by omega) j hj
              refine ⟨v, ?_, q2, ?_⟩
              · rw [← q1]; congr 1; simp only [Bool.false_eq_true, if_false, Nat.add_mul]; omega
              · exact (colsOf_R (M := M) hfl (h2 i hi) hj (by rw [shiftF_eq, Nat.zero_add]; exact q3)).1
        · cases e
      · cases e
    · rename_i x nil z' n f
      simp only [Bool.cond_eq_ite] at e
      split at e
      · rename_i hc
        simp only [nbeq, decide_eq_true_eq] at hc
        subst hc
        obtain ⟨h2, e⟩ := mustCols_ok e
        obtain rfl := (T.sel_ret e).symm
        simp only [AV.R] at ra
        rcases ra with ⟨rfl, rfl, rfl⟩ | ⟨rfl, rfl, p, k, rfl, _⟩ | ⟨rfl, h0, b, off, k, cs, rfl, hnk, _, hz, q⟩
        · exact .inl ⟨rfl, rfl, rfl⟩
        · exact .inr ⟨rfl, p, k, rfl, Nat.zero_le _, .inl rfl⟩
        · obtain ⟨e', fr, hb⟩ := r.fz b cs hz
          refine .inr ⟨rfl, _, k, rfl, hnk, .inr ⟨b, off, rfl, cs, e', fr, hb, fun i hi j hj => ?_⟩⟩
          obtain ⟨v, q1, q2, q3⟩ := q i hi j hj
          exact ⟨v, q1, q2, (colsOf_R (M := M) hfl (h2 i hi) hj (by rw [Nat.zero_add]; exact q3)).1⟩
      · cases e
    · obtain rfl := (T.sel_ret e).symm
      simp only [AV.R] at ra; subst ra
      exact .inl ⟨rfl, rfl, rfl⟩
    · obtain rfl := (T.sel_ret e).symm
      simp only [AV.R] at ra
      rcases ra with ⟨rfl, rfl⟩ | ⟨rfl, a, rfl⟩
      · exact .inl ⟨rfl, rfl, rfl⟩
      · exact .inr ⟨rfl, a, 0, rfl, Nat.le_refl _, .inl rfl⟩
    · obtain rfl := (T.sel_ret e).symm
      simp only [AV.R] at ra
      obtain ⟨a, c, rfl⟩ := ra
      exact .inr ⟨rfl, a, c, rfl, Nat.zero_le _, .inl rfl⟩
    · rename_i id off len cap un
      split at e
      · rename_i c et2 g hg
        split at e
        · rename_i l hl
          simp only [Bool.cond_eq_ite] at e
          split at e
          · rename_i hc
            simp only [Bool.and_eq_true] at hc
            obtain rfl := (T.sel_ret e).symm
            simp only [AV.R] at ra
            obtain ⟨b, κ, hM, rfl⟩ := ra
            obtain ⟨ob, hb, vs, rest, rl, rfl, hκ⟩ := Ob_of r hg hM
            have hvl := RL_length rl
            have hroom : len ≤ (if un = true then κ - cap else cap) := by
              have h2 := hc.2
              unfold roomOk at h2
              cases un with
              | false => simpa [nble] using h2
              | true =>
                simp only at h2
                cases g with
                | none => cases h2
                | some z' =>
                  simp only [Bool.and_eq_true, nbeq, nblt, nble, decide_eq_true_eq] at h2
                  obtain ⟨⟨hz1, hz⟩, hle⟩ := h2
                  subst hz1
                  simp only at hκ
                  have : (cap + len) * ks.length ≤ κ * ks.length := by
                    rw [← hκ]; refine Nat.le_trans hle ?_; rw [← hvl]; simp
                  have := Nat.le_of_mul_le_mul_right this hz
                  simp only [if_true]; omega
            refine .inr ⟨rfl, _, _, rfl, hroom, .inr ⟨b, off, rfl, (vs ++ rest).toArray, et2, _, hb, fun i hi j hj => ?_⟩⟩
            obtain ⟨e1, e2⟩ := sliceA_eq hl
            have hp := place_lt hi hj
            have hln : i * ks.length + j < l.length := by rw [e1]; simp; omega
            obtain ⟨a, ha⟩ := nthA_lt hln
            have rl2 : AV.RL M l ((vs.drop off).take (len * ks.length)) := by rw [e1]; exact RL_take _ (RL_drop _ rl)
            obtain ⟨v, q1, q2⟩ := nthA_get ha rl2
            obtain ⟨q3, q4⟩ := colsOf_R (M' := noM) (j0 := 0) (f := litF ks.length l) hfl (litOk_row hc.1 i hi) hj (show (litF ks.length l i (0 + j)).R M v by rw [Nat.zero_add]; simp only [litF, ha]; exact q2)
            refine ⟨v, ?_, q4, q3⟩
            rw [List.getElem?_take, if_pos hp, List.getElem?_drop] at q1
            have hlt := (List.getElem?_eq_some_iff.1 q1).1
            rw [List.getElem?_toArray, Nat.add_assoc, List.getElem?_append_left hlt]; exact q1
          · cases e
        · cases e
      · cases e
    · cases e
theorem rdL_ok : ∀ {cs : List Cs} {l : List AV} {ds : List Dc} {us : List Value}, (rdL h cs l).sel = some ds → AV.RL M l us → Rel M h w → DcRs w cs ds us
  | [], [], ds, us, e, ra, r => by
    obtain rfl := (T.sel_ret e).symm
    simp only [AV.RL] at ra
    exact ⟨rfl, ra⟩
  | c :: cs, a :: l, ds, us, e, ra, r => by
    obtain ⟨d, e1, e⟩ := T.sel_bind_some e
    obtain ⟨ds', e2, e⟩ := T.sel_bind_some e
    obtain rfl := (T.sel_ret e).symm
    simp only [AV.RL] at ra
    obtain ⟨u, us', r1, r2, rfl⟩ := ra
    exact ⟨d, ds', u, us', rfl, rfl, rdC_ok e1 r1 r, rdL_ok e2 r2 r⟩
  | [], _ :: _, _, _, e, _, _ => by cases e
  | _ :: _, [], _, _, e, _, _ => by cases e
theorem rdG_ok {g : Ag} {a : AV} {d : Da} {u : Value} (e : (rdG h g a).sel = some d) (ra : a.R M u) (r : Rel M h w) : DaR w g d u := by
  unfold rdG at e
  split at e
  · obtain ⟨d', e1, e⟩ := T.sel_bind_some e
    obtain rfl := (T.sel_ret e).symm
    exact rdC_ok e1 ra r
  · split at e
    · obtain ⟨ds, e1, e⟩ := T.sel_bind_some e
      obtain rfl := (T.sel_ret e).symm
      simp only [AV.R] at ra
      obtain ⟨us, r1, rfl⟩ := ra
      exact ⟨us, rfl, rdL_ok e1 r1 r⟩
    · cases e
theorem rdA_ok : ∀ {gs : List Ag} {l : List AV} {ds : List Da} {us : List Value}, (rdA h gs l).sel = some ds → AV.RL M l us → Rel M h w → DaRs w gs ds us
  | [], [], ds, us, e, ra, r => by
    obtain rfl := (T.sel_ret e).symm
    simp only [AV.RL] at ra
    exact ⟨rfl, ra⟩
  | c :: cs, a :: l, ds, us, e, ra, r => by
    obtain ⟨d, e1, e⟩ := T.sel_bind_some e
    obtain ⟨ds', e2, e⟩ := T.sel_bind_some e
    obtain rfl := (T.sel_ret e).symm
    simp only [AV.RL] at ra
    obtain ⟨u, us', r1, r2, rfl⟩ := ra
    exact ⟨d, ds', u, us', rfl, rfl, rdG_ok e1 r1 r, rdA_ok e2 r2 r⟩
  | [], _ :: _, _, _, e, _, _ => by cases e
  | _ :: _, [], _, _, e, _, _ => by cases e
end

/-! The blocks of arguments are few, and only read. -/
def cntC : Cs → Nat
  | none => 0
  | some _ => 1
def cntL : List Cs → Nat
  | [] => 0
  | c :: l => cntC c + cntL l
def cntA : List Ag → Nat
  | [] => 0
  | .cell c :: l => cntC c + cntA l
  | .agg cs :: l => cntL cs + cntA l
theorem canC_len (c : Cs) (d : Dc) (bl : List AO) : (canC c d bl).2.length ≤ bl.length + cntC c := by
  unfold canC
  split <;> simp [cntC]
theorem canL_len : ∀ (cs : List Cs) (ds : List Dc) (bl : List AO), (canL cs ds bl).2.length ≤ bl.length + cntL cs
  | [], ds, bl => by simp [canL, cntL]
  | c :: cs, [], bl => by simp [canL]
  | c :: cs, d :: ds, bl => by
    have h1 := canC_len c d bl
    have h2 := canL_len cs ds (canC c d bl).2
    simp only [canL, cntL]; omega
theorem canA_len : ∀ (gs : List Ag) (ds : List Da) (bl : List AO), (canA gs ds bl).2.length ≤ bl.length + cntA gs
  | [], ds, bl => by simp [canA, cntA]
  | g :: gs, [], bl => by simp [canA]
  | g :: gs, d :: ds, bl => by
    have h2 := canA_len gs ds (canG g d bl).2
    have h1 : (canG g d bl).2.length ≤ bl.length + (match g with | .cell c => cntC c | .agg cs => cntL cs) := by
      unfold canG
      split
      · exact canC_len _ _ _
      · exact canL_len _ _ _
      · simp
    cases g <;> (simp only [canA, cntA] at *; omega)
section
variable {P : Program} {sm : FuncId → Option Sm}
theorem own_none {w : World} {bl : List AO} {bs : List (Option (Nat × Nat))} (h : BlR w bl bs) (hl : bl.length < 4294967296) (b : Nat) : ¬ OwnP (Mof bs) (heapOf bl) b := fun ⟨i, κ, o, h1, h2, _⟩ => by
  rw [heapOf_get hl] at h1
  obtain ⟨_, _, e, z, n, f, rfl, _⟩ := h.get h1
  cases h2
theorem cmpC_R {a v : AV} (h : cmpC a v) {M M' : Mp} {u : Value} (r : v.R M u) : a.R M' u := (cmpC_ok h r).1

/-- A contract: what the function hands back, by what it was handed; and what is asked of that. -/
def ctS (gs : List Ag) (F : List Da → Option (Bool × AV)) (args : List AV) (h : AH) : T (AV × AH) :=
  (rdA h gs args).bind fun ds => match F ds with
    | some (b, a) => .must b (.ret (a, h))
    | none => .no
theorem ctS_ok (hm : P.follows .mixedOrders = true) (hs : SmOK P sm) {f : FuncId} {gs : List Ag} {F : List Da → Option (Bool × AV)} (hc : cntA gs < 4294967296)
    (hw : ∀ ds a, F ds = some (true, a) → ∃ ann n, wxF P sm ann n f (canA gs ds []).1 (heapOf (canA gs ds []).2) (fun v _ => cmpC a v)) : SmCall P f (fun args h => (ctS gs F args h).sel) := by
  intro args h v h' hg
  obtain ⟨ds, e1, e⟩ := T.sel_bind_some hg
  split at e
  case h_2 => cases e
  rename_i b a hF
  obtain ⟨rfl, e⟩ := T.sel_must e
  have e := T.sel_ret e
  simp only [Prod.mk.injEq] at e
  obtain ⟨rfl, rfl⟩ := e
  refine ⟨⟨Nat.le_refl _, Ab.refl _⟩, fun M us w r R ra rr fr k => ?_⟩
  have hd := rdA_ok e1 ra rr
  obtain ⟨ks, q1, q2⟩ := canA_ok (bl := []) (bs := []) hd rfl
  rw [List.nil_append] at q1 q2
  have hlen : (canA gs ds []).2.length < 4294967296 := by have := canA_len gs ds []; simp at this; omega
  obtain ⟨q3, q4⟩ := heapOf_rel q1 hlen rr.gw
  obtain ⟨ann, n, hw⟩ := hw ds a hF
  refine wxF_ok hm hs hw (Mof ks) us w r R q2 q3 q4 fun v2 h2 M2 u w' hk rv rel2 _ fo _ => ?_
  have hsame : ∀ b, b < w.heap.size → w'.heap[b]? = w.heap[b]? := fun b hb => fo.keep b hb (own_none q1 hlen b)
  refine k M u w' (cmpC_R hk rv) ⟨fun id o e => ?_, rr.inj, rr.wf, fun g c hg => ?_, rr.gf, fz_kept rr (fun b hb _ => hsame b hb), rr.fo⟩ ⟨fo.os, fo.tape, fo.output, fo.size, Le.refl M, fun _ e => absurd rfl e, fun q hq _ => hsame q hq, fun id b2 κ o q1 q2 => .inr ⟨id, κ, o, q1, q2, fun e => e⟩, fun b cs e => .inl e⟩ (Ab.refl _)
  · rcases rr.obj id o e with hv | ⟨b, κ, ob, h1, h2, h3⟩
    · exact .inl hv
    · exact .inr ⟨b, κ, ob, h1, by rw [hsame b (heap_lt h2)]; exact h2, h3⟩
  · obtain ⟨vs, e, fr, h1, h2⟩ := rr.gw g c hg
    exact ⟨vs, e, fr, by rw [hsame g (heap_lt h1)]; exact h1, h2⟩
end
end Go.Proofs.YtiikiphkhfmlcaaGreatDoor.Ex
