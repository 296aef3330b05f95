/- Walks by symbols: data that is handed in and back, with blocks of its own. -/
import Derived.Test.YtlfehgagnelbhaaGreatDoorWh
namespace Go.Proofs.YtlfehgagnelbhaaGreatDoor.Ex
open Go

/-- The shape of a datum: a scalar; rows that are only read; rows of its own; a struct of its own, behind a pointer; a struct; results. -/
inductive Sx where
  | sc
  | ro (e : TypeId) (ks : List CK)
  | own (e : TypeId) (ks : List CK)
  | ptr (t : TypeId) (l : List Sx)
  | agg (l : List Sx)
  | tup (l : List Sx)
  | fn (f : FuncId) (l : List Sx)
  | pl (ks : List CK)
inductive Dx where
  | v (a : AV)
  | rows (nil : Bool) (n : Nat) (cols : List Col)
  | l (l : List Dx)
  | np
def nmI (n : Nat) : Nat := n
mutual
/-- As values and blocks: block i goes by the number 'nm i'. -/
def canX (nm : Nat → Nat) : Sx → Dx → List AO → AV × List AO
  | .sc, d, bl => match d with | .v a => (bif scalB a then a else .np, bl) | _ => (.np, bl)
  | .ro e ks, d, bl => match d with | .rows nil n cols => (.ysl true nil (nm bl.length) ks.length 0 n, bl ++ [.arr true e ks.length n (colF cols)]) | _ => (.np, bl)
  | .own e ks, d, bl => match d with | .rows nil n cols => (.ysl false nil (nm bl.length) ks.length 0 n, bl ++ [.arr false e ks.length n (colF cols)]) | _ => (.np, bl)
  | .ptr t l, d, bl => match d with | .l ds => (match canXs nm l ds bl with | (vs, bl1) => (.ptr (nm bl1.length) 0, bl1 ++ [.cells vs t none])) | _ => (.np, bl)
  | .agg l, d, bl => match d with | .l ds => (match canXs nm l ds bl with | (vs, bl1) => (.agg vs, bl1)) | _ => (.np, bl)
  | .tup l, d, bl => match d with | .l ds => (match canXs nm l ds bl with | (vs, bl1) => (.tup vs, bl1)) | _ => (.np, bl)
  | .fn f l, d, bl => match d with | .l ds => (match canXs nm l ds bl with | (vs, bl1) => (.fn f vs, bl1)) | _ => (.np, bl)
  | .pl ks, d, bl => match d with | .rows nil n cols => (.lst false nil ks.length n (colF cols), bl) | _ => (.np, bl)
def canXs (nm : Nat → Nat) : List Sx → List Dx → List AO → List AV × List AO
  | [], _, bl => ([], bl)
  | s :: ss, ds, bl => match ds with | d :: ds' => (match canX nm s d bl with | (a, bl1) => match canXs nm ss ds' bl1 with | (l, bl2) => (a :: l, bl2)) | [] => ([], bl)
end
def idOf (h : AH) (a : AV) : Option Nat :=
  match a with
  | .ysl _ _ id _ _ _ => match h.get id with | some _ => some id | none => none
  | .sl id _ _ _ _ => match h.get id with | some _ => some id | none => none
  | _ => none
mutual
/-- Reads such a datum from a state; the numbers by which its blocks go there. -/
def rdX (h : AH) : Sx → AV → T (Dx × List (Option Nat))
  | .sc, a => bif scalB a then .ret (.v (toY a), []) else .no
  | .ro e ks, a => (rdC h (some (e, ks)) a).bind fun d => match d with
    | .rows nil n cols => .ret (.rows nil n cols, [idOf h a])
    | _ => .no
  | .own e ks, a => match a with
    | .ysl false nil id z q n => match h.get id with
      | some (.arr false e' z2 n2 f) => bif Nat.beq e e' && Nat.beq z ks.length && Nat.beq z2 ks.length then .must (yNeq q 0) (.must (yNeq n n2) (mustCols n f ks 0 (.ret (.rows nil n (colsOf f ks 0), [some id])))) else .no
      | _ => .no
    | .ns => .ret (.rows true 0 (emptyCols ks), [none])
    | .ye nil => .ret (.rows nil 0 (emptyCols ks), [none])
    | .sl id 0 len 0 true => match h.get id with
      | some (.cells c e' (some z)) => bif Nat.beq e e' && Nat.beq z ks.length && Nat.blt 0 z && Nat.beq c.length (len * z) && Nat.blt 0 len && litOk ks len c then .ret (.rows false len (colsL ks.length c ks 0), [some id]) else .no
      | _ => .no
    | _ => .no
  | .ptr t l, a => match a with
    | .np => .ret (.np, [])
    | .ptr id off => match h.get id with
      | some (.cells cs t' none) => bif Nat.beq off 0 && Nat.beq t t' then (rdXs h l cs).bind fun p => .ret (.l p.1, p.2 ++ [some id]) else .no
      | _ => .no
    | _ => .no
  | .agg l, a => match a with
    | .agg vs => (rdXs h l vs).bind fun p => .ret (.l p.1, p.2)
    | _ => .no
  | .tup _, _ => .no
  | .fn f l, a => match a with
    | .fn f' vs => bif Nat.beq f f' then (rdXs h l vs).bind fun p => .ret (.l p.1, p.2) else .no
    | _ => .no
  | .pl ks, a => match a with
    | .ysl false nil id z o n => match h.get id with
      | some (.arr false _ z2 n2 f) => bif Nat.beq ks.length z && Nat.beq ks.length z2 then .must (yNle (yNadd o n) n2) (mustCols n (shiftF o f) ks 0 (.ret (.rows nil n (colsOf (shiftF o f) ks 0), []))) else .no
      | _ => .no
    | .sl id off len cap u => match h.get id with
      | some (.cells c _ g) => match sliceA c off (len * ks.length) with
        | some l => bif litOk ks len l && Nat.blt 0 len && roomOk u g ks.length cap len c.length then .ret (.rows false len (colsL ks.length l ks 0), []) else .no
        | none => .no
      | _ => .no
    | a => match lsOf ks.length a with
      | some (nil, n, f) => mustCols n f ks 0 (.ret (.rows nil n (colsOf f ks 0), []))
      | none => .no
def rdXs (h : AH) : List Sx → List AV → T (List Dx × List (Option Nat))
  | [], vs => match vs with | [] => .ret ([], []) | _ => .no
  | s :: ss, vs => match vs with
    | a :: l => (rdX h s a).bind fun p => (rdXs h ss l).bind fun q => .ret (p.1 :: q.1, p.2 ++ q.2)
    | [] => .no
end

mutual
/-- Blocks of one's own that a function may read, as lists. -/
def lendX (h : AH) : Sx → AV → List Nat
  | .pl _, a => match a with
    | .ysl false _ id _ _ _ => [id]
    | .sl id _ _ _ _ => [id]
    | _ => []
  | .ptr _ l, a => match a with
    | .ptr id _ => match h.get id with
      | some (.cells cs _ _) => lendXs h l cs
      | _ => []
    | _ => []
  | .agg l, a => match a with | .agg vs => lendXs h l vs | _ => []
  | .fn _ l, a => match a with | .fn _ vs => lendXs h l vs | _ => []
  | _, _ => []
def lendXs (h : AH) : List Sx → List AV → List Nat
  | [], _ => []
  | s :: ss, vs => match vs with
    | a :: l => lendX h s a ++ lendXs h ss l
    | [] => []
end
/-- What is frozen while they are lent. -/
def zL (M : Mp) (w : World) (L : List Nat) (b : Nat) : Option (Array Value) :=
  match M.z b with
  | some cs => some cs
  | none => bif L.any (fun id => match M id with | some (b', _) => Nat.beq b b' | none => false) then cellsW w b else none
theorem zL_le {M : Mp} {w : World} {L : List Nat} {b : Nat} {cs : Array Value} (h : M.z b = some cs) : zL M w L b = some cs := by unfold zL; rw [h]
theorem zL_at {M : Mp} {h : AH} {w : World} {L : List Nat} {id b κ : Nat} {o : AO} {cs : Array Value} {e : TypeId} {fr : Nat × Nat} (r : Rel M h w) (hL : id ∈ L) (hg : h.get id = some o) (hr : o.ro = false) (hM : M id = some (b, κ)) (hb : w.heap[b]? = some (.cells cs e fr)) : zL M w L b = some cs := by
  unfold zL
  rw [r.fo id b κ o hg hr hM]
  have : L.any (fun id => match M id with | some (b', _) => Nat.beq b b' | none => false) = true := List.any_eq_true.2 ⟨id, hL, by rw [hM]; simp⟩
  simp only [this, cond_true, cellsW, hb]
theorem zL_inv {M : Mp} {w : World} {L : List Nat} {b : Nat} {cs : Array Value} (h : zL M w L b = some cs) : M.z b = some cs ∨ ∃ id κ e fr, id ∈ L ∧ M id = some (b, κ) ∧ w.heap[b]? = some (.cells cs e fr) := by
  unfold zL at h
  split at h
  · rename_i cs' hz
    simp only [Option.some.injEq] at h; subst h
    exact .inl hz
  · simp only [Bool.cond_eq_ite] at h
    split at h
    · rename_i ha
      obtain ⟨id, h1, h2⟩ := List.any_eq_true.1 ha
      split at h2
      · rename_i b' κ hM
        obtain rfl := beqN h2
        unfold cellsW at h
        split at h
        · rename_i cs' e fr hb
          simp only [Option.some.injEq] at h; subst h
          exact .inr ⟨id, κ, e, fr, h1, hM, hb⟩
        · cases h
      · cases h2
    · cases h
def MofZ (Z : Nat → Option (Array Value)) (bs : List (Option (Nat × Nat))) : Mp := ⟨(Mof bs).f, Z⟩
theorem MofZ_le {Z : Nat → Option (Array Value)} (bs cs : List (Option (Nat × Nat))) : Le (MofZ Z bs) (MofZ Z (bs ++ cs)) := ⟨(Mof_le bs cs).1, fun _ _ e => e⟩
theorem zle_of {Z : Nat → Option (Array Value)} {M : Mp} {w : World} {L : List Nat} (hZ : Z = zL M w L) (bs : List (Option (Nat × Nat))) : ZLe M (MofZ Z bs) := fun b cs e => by subst hZ; exact zL_le e
theorem zlat_of {Z : Nat → Option (Array Value)} {M : Mp} {h : AH} {w : World} {L : List Nat} {id b κ : Nat} {o : AO} {cs : Array Value} {e : TypeId} {fr : Nat × Nat} {bs : List (Option (Nat × Nat))} (hZ : Z = zL M w L) (r : Rel M h w) (hL : id ∈ L) (hg : h.get id = some o) (hr : o.ro = false) (hM : M id = some (b, κ)) (hb : w.heap[b]? = some (.cells cs e fr)) : (MofZ Z bs).z b = some cs := by
  subst hZ; exact zL_at r hL hg hr hM hb

/-- A block of the data, in a world. -/
def BlkX (M : Mp) (h : AH) (w : World) (N : Mp) (ao : AO) (base : Option (Nat × Nat)) (idl : Option Nat) : Prop :=
  (base = none ∧ ao.Vac ∧ (ao.ro = false → ∀ id, idl = some id → M id = none)) ∨ (∃ b κ ob id o κ', base = some (b, κ) ∧ w.heap[b]? = some ob ∧ ObR N κ ao ob ∧ idl = some id ∧ h.get id = some o ∧ M id = some (b, κ') ∧ (ao.ro = false → o.ro = false ∧ κ' = κ)) ∨
    ∃ b κ ob, base = some (b, κ) ∧ w.heap[b]? = some ob ∧ ObR N κ ao ob ∧ idl = none ∧ ao.ro = true ∧ ∃ cs, M.z b = some cs
def BX (M : Mp) (h : AH) (w : World) (N : Mp) : List AO → List (Option (Nat × Nat)) → List (Option Nat) → Prop
  | [], bs, is => bs = [] ∧ is = []
  | a :: l, bs, is => ∃ b bs' i is', bs = b :: bs' ∧ is = i :: is' ∧ BlkX M h w N a b i ∧ BX M h w N l bs' is'
section
variable {P : Program} {M : Mp} {h : AH} {w : World} {Z : Nat → Option (Array Value)} {L : List Nat}
theorem BlkX.mono {N N' : Mp} {a : AO} {b : Option (Nat × Nat)} {i : Option Nat} (hl : Le N N') (k : BlkX M h w N a b i) : BlkX M h w N' a b i := by
  rcases k with k | ⟨b, κ, ob, id, o, κ', h1, h2, h3, h4⟩ | ⟨b, κ, ob, h1, h2, h3, h4⟩
  · exact .inl k
  · exact .inr (.inl ⟨b, κ, ob, id, o, κ', h1, h2, ObR.mono hl _ _ h3, h4⟩)
  · exact .inr (.inr ⟨b, κ, ob, h1, h2, ObR.mono hl _ _ h3, h4⟩)
theorem BX.mono {N N' : Mp} (hl : Le N N') : ∀ {l : List AO} {bs : List (Option (Nat × Nat))} {is : List (Option Nat)}, BX M h w N l bs is → BX M h w N' l bs is
  | [], _, _, k => k
  | _ :: _, _, _, ⟨b, bs', i, is', h1, h2, h3, h4⟩ => ⟨b, bs', i, is', h1, h2, h3.mono hl, h4.mono hl⟩
theorem BX.app {N : Mp} : ∀ {l l2 : List AO} {bs bs2 : List (Option (Nat × Nat))} {is is2 : List (Option Nat)}, BX M h w N l bs is → BX M h w N l2 bs2 is2 → BX M h w N (l ++ l2) (bs ++ bs2) (is ++ is2)
  | [], l2, bs, bs2, is, is2, k, k2 => by obtain ⟨rfl, rfl⟩ := k; exact k2
  | a :: l, l2, _, _, _, _, ⟨b, bs', i, is', rfl, rfl, h3, h4⟩, k2 => ⟨b, _, i, _, rfl, rfl, h3, h4.app k2⟩
theorem BX.len {N : Mp} : ∀ {l : List AO} {bs : List (Option (Nat × Nat))} {is : List (Option Nat)}, BX M h w N l bs is → bs.length = l.length ∧ is.length = l.length
  | [], _, _, ⟨rfl, rfl⟩ => ⟨rfl, rfl⟩
  | a :: l, _, _, ⟨b, bs', i, is', rfl, rfl, _, h4⟩ => by obtain ⟨h1, h2⟩ := h4.len; exact ⟨by simp [h1], by simp [h2]⟩
theorem BX.get {N : Mp} : ∀ {l : List AO} {bs : List (Option (Nat × Nat))} {is : List (Option Nat)} {j : Nat} {a : AO}, BX M h w N l bs is → l[j]? = some a → ∃ b i, bs[j]? = some b ∧ is[j]? = some i ∧ BlkX M h w N a b i
  | [], _, _, j, a, _, e => by simp at e
  | x :: l, _, _, 0, a, ⟨b, bs', i, is', rfl, rfl, h3, _⟩, e => by simp at e; subst e; exact ⟨b, i, rfl, rfl, h3⟩
  | x :: l, _, _, j + 1, a, ⟨b, bs', i, is', rfl, rfl, _, h4⟩, e => by simpa using h4.get (by simpa using e)
theorem Mof_at {bs : List (Option (Nat × Nat))} {o : Option (Nat × Nat)} {n : Nat} (hn : bs.length = n) : (MofZ Z (bs ++ [o])) n = o := by
  subst hn
  unfold MofZ Mof
  simp only
  rw [List.getElem?_append_right (Nat.le_refl _)]
  cases o <;> simp
theorem nthA_none : ∀ {l : List AV} {n : Nat}, nthA l n = none → l.length ≤ n
  | [], n, _ => Nat.zero_le _
  | _ :: l, 0, h => by simp [nthA] at h
  | _ :: l, n + 1, h => Nat.succ_le_succ (nthA_none (l := l) (by simpa [nthA] using h))
theorem idOf_ok {e : TypeId} {ks : List CK} {a : AV} {d : Dc} {p : Addr} {n k : Nat} (e1 : (rdC h (some (e, ks)) a).sel = some d) (hn : n ≠ 0) (ra : a.R M (.slice (some p) n k)) : (∃ id o κ, idOf h a = some id ∧ h.get id = some o ∧ M id = some (p.block, κ)) ∨ (idOf h a = none ∧ ∃ cs, M.z p.block = some cs) := by
  have fz : (∃ b off c cs, Value.slice (some p) n k = Value.slice (some ⟨b, off, none⟩) n c ∧ M.z b = some cs) → ∃ cs, M.z p.block = some cs := fun ⟨b, off, c, cs, h1, h2⟩ => by
    simp only [Value.slice.injEq, Option.some.injEq] at h1
    obtain ⟨rfl, _⟩ := h1; exact ⟨cs, h2⟩
  cases a <;> simp only [AV.R, reduceCtorEq, and_false, exists_false] at ra
  case sl id off len cap u =>
    obtain ⟨b, c, hM, hv⟩ := ra
    simp only [Value.slice.injEq, Option.some.injEq] at hv
    obtain ⟨rfl, _⟩ := hv
    cases hg : h.get id with
    | none => simp [rdC, hg, T.sel] at e1
    | some o => exact .inl ⟨id, o, c, by simp [idOf, hg], hg, hM⟩
  case es =>
    obtain ⟨a, c, hv⟩ := ra
    simp only [Value.slice.injEq] at hv
    exact absurd hv.2.1 hn
  case ysl ro nil id z q m =>
    rcases ra with ⟨_, _, hv⟩ | ⟨_, rfl, a, c, hv, _⟩ | ⟨_, b, κ, c, hM, hv, _⟩
    · cases hv
    · simp only [Value.slice.injEq] at hv; exact absurd hv.2.1 hn
    · simp only [Value.slice.injEq, Option.some.injEq] at hv
      obtain ⟨rfl, _⟩ := hv
      cases hg : h.get id with
      | none => simp [rdC, hg, T.sel] at e1
      | some o => exact .inl ⟨id, o, κ, by simp [idOf, hg], hg, hM⟩
  case ye nil =>
    rcases ra with ⟨_, hv⟩ | ⟨_, a, hv⟩
    · cases hv
    · simp only [Value.slice.injEq] at hv; exact absurd hv.2.1 hn
  case lst x nil z m f =>
    rcases ra with ⟨_, _, hv⟩ | ⟨_, rfl, a, c, hv, _⟩ | ⟨_, _, b, off, c, cs, hv, _, _, hz, _⟩
    · cases hv
    · simp only [Value.slice.injEq] at hv; exact absurd hv.2.1 hn
    · refine .inr ⟨rfl, ?_⟩
      simp only [Value.slice.injEq, Option.some.injEq] at hv
      obtain ⟨rfl, _⟩ := hv
      exact ⟨cs, hz⟩
  case lp => obtain ⟨_, _, _, h, _⟩ := ra; exact h.elim
  case ns => cases ra
  case o u => simp [rdC, T.sel] at e1
theorem scalB_toY {a : AV} (h : scalB a = true) : scalB (toY a) = true := by
  cases a <;> simp only [scalB, Bool.false_eq_true] at h <;> rfl
/-- One block more. -/
theorem canX_one {a : AV} {ao : AO} {bs : List (Option (Nat × Nat))} {u : Value} {idl : Option Nat} {bl : List AO} (base : Option (Nat × Nat)) (hb : BlkX M h w (MofZ Z (bs ++ [base])) ao base idl) (ra : a.R (MofZ Z (bs ++ [base])) u) :
    ∃ nb bs', bl ++ [ao] = bl ++ nb ∧ BX M h w (MofZ Z (bs ++ bs')) nb bs' [idl] ∧ a.R (MofZ Z (bs ++ bs')) u :=
  ⟨[ao], [base], rfl, ⟨base, [], idl, [], rfl, rfl, hb, rfl, rfl⟩, ra⟩
mutual
theorem rdX_ok (rr : Rel M h w) (hZ : Z = zL M w L) : ∀ (s : Sx) (a : AV) (d : Dx) (is : List (Option Nat)) (u : Value) (bl : List AO) (bs : List (Option (Nat × Nat))), (rdX h s a).sel = some (d, is) → (∀ id ∈ lendX h s a, id ∈ L) → a.R M u → bs.length = bl.length →
    ∃ nb bs', (canX nmI s d bl).2 = bl ++ nb ∧ BX M h w (MofZ Z (bs ++ bs')) nb bs' is ∧ (canX nmI s d bl).1.R (MofZ Z (bs ++ bs')) u
  | .sc, a, d, is, u, bl, bs, e, hd9, ra, hl => by
    simp only [rdX, Bool.cond_eq_ite] at e
    split at e
    · rename_i hs
      have e := T.sel_ret e
      simp only [Prod.mk.injEq] at e
      obtain ⟨rfl, rfl⟩ := e
      exact ⟨[], [], by simp [canX], ⟨rfl, rfl⟩, by simp only [canX, scalB_toY hs, cond_true]; exact (toY_R hs ra).1⟩
    · cases e
  | .ro et ks, a, d, is, u, bl, bs, e, hd9, ra, hl => by
    simp only [rdX] at e
    obtain ⟨d0, e1, e⟩ := T.sel_bind_some e
    split at e
    case h_2 => cases e
    rename_i nil n cols
    have e := T.sel_ret e
    simp only [Prod.mk.injEq] at e
    obtain ⟨rfl, rfl⟩ := e
    have hd := rdC_ok e1 ra rr
    simp only [canX, nmI]
    rcases hd with ⟨rfl, rfl, rfl⟩ | ⟨rfl, p, k, rfl, hnk, hd⟩
    · exact canX_one none (.inl ⟨rfl, rfl, fun e => by cases e⟩) (by simp only [AV.R]; exact .inl ⟨trivial, trivial, trivial⟩)
    · by_cases hn : n = 0
      · subst hn
        exact canX_one none (.inl ⟨rfl, rfl, fun e => by cases e⟩) (by simp only [AV.R]; exact .inr (.inl ⟨trivial, trivial, _, _, rfl, fun e => by simp at e⟩))
      · rcases hd with hd | ⟨b, off, rfl, cs, e', fr, h1, h2⟩
        · exact absurd hd hn
        · have hbk : BlkX M h w (MofZ Z (bs ++ [some (b, off)])) (.arr true et ks.length n (colF cols)) (some (b, off)) (idOf h a) := by
            have ho : ObR (MofZ Z (bs ++ [some (b, off)])) off (.arr true et ks.length n (colF cols)) (.cells cs e' fr) := ⟨cs, e', fr, rfl, fun i hi j hj => by
              obtain ⟨v, r1, r2, r3⟩ := h2 i hi j hj
              exact ⟨v, r1, r2, AV.R.mono (Le_noM _) _ _ r3⟩⟩
            rcases idOf_ok e1 hn ra with ⟨id, o, κ, q1, q2, q3⟩ | ⟨q1, cs2, q2⟩
            · rw [q1]
              exact .inr (.inl ⟨b, off, _, id, o, κ, rfl, h1, ho, rfl, q2, q3, fun e => by cases e⟩)
            · rw [q1]
              exact .inr (.inr ⟨b, off, _, rfl, h1, ho, rfl, rfl, cs2, q2⟩)
          refine canX_one (some (b, off)) hbk ?_
          · simp only [AV.R]
            exact .inr (.inr ⟨trivial, b, off, k, Mof_at hl, by simp, hnk, by omega, fun e => by simp at e⟩)
  | .own et ks, a, d, is, u, bl, bs, e, hd9, ra, hl => by
    simp only [rdX, colsL_eq] at e
    split at e
    · rename_i nil id z q n
      split at e
      · rename_i e' z2 n2 f hg
        simp only [Bool.cond_eq_ite] at e
        split at e
        · rename_i hc
          simp only [Bool.and_eq_true, nbeq, decide_eq_true_eq] at hc
          obtain ⟨⟨rfl, rfl⟩, rfl⟩ := hc
          obtain ⟨h1, e⟩ := T.sel_must e
          obtain ⟨h2, e⟩ := T.sel_must e
          obtain ⟨h3, e⟩ := mustCols_ok e
          have e := T.sel_ret e
          simp only [Prod.mk.injEq] at e
          obtain ⟨rfl, rfl⟩ := e
          simp only [yNeq, decide_eq_true_eq] at h1 h2
          subst h1 h2
          simp only [canX, nmI]
          rcases rr.obj id _ hg with ⟨hv, hM⟩ | ⟨b, κ, ob, hM, hb, hob⟩
          · have hv : n = 0 := hv
            subst hv
            refine canX_one none (.inl ⟨rfl, rfl, fun _ x e => by cases e; exact hM⟩) ?_
            simp only [AV.R] at ra ⊢
            rcases ra with ra | ra | ⟨_, b, κ, c, hM2, _⟩
            · exact .inl ra
            · exact .inr (.inl ra)
            · rw [hM] at hM2; cases hM2
          · refine canX_one (some (b, κ)) (.inr (.inl ⟨b, κ, ob, id, _, κ, rfl, hb, ?_, rfl, hg, hM, fun _ => ⟨rfl, rfl⟩⟩)) ?_
            · obtain ⟨cs, r1, r2, r3, r4⟩ := hob
              refine ⟨cs, r1, r2, r3, fun i hi j hj => ?_⟩
              obtain ⟨v, t1, t2, t3⟩ := r4 i hi j hj
              have := colsOf_R (M' := MofZ Z (bs ++ [some (b, κ)])) (j0 := 0) (.inr (zle_of (M := M) hZ _)) (h3 i hi) hj (by rw [Nat.zero_add]; exact t3)
              exact ⟨v, t1, t2, this.1⟩
            · simp only [AV.R] at ra ⊢
              rcases ra with ra | ra | ⟨r0, b2, κ2, c, hM2, r1⟩
              · exact .inl ra
              · exact .inr (.inl ra)
              · rw [hM] at hM2
                simp only [Option.some.injEq, Prod.mk.injEq] at hM2
                obtain ⟨rfl, rfl⟩ := hM2
                exact .inr (.inr ⟨r0, b, κ, c, Mof_at hl, r1⟩)
        · cases e
      · cases e
    · have e := T.sel_ret e
      simp only [Prod.mk.injEq] at e
      obtain ⟨rfl, rfl⟩ := e
      simp only [canX, nmI]
      exact canX_one none (.inl ⟨rfl, rfl, fun _ x e => by cases e⟩) (by simp only [AV.R] at ra ⊢; exact .inl ⟨trivial, trivial, ra⟩)
    · rename_i nil
      have e := T.sel_ret e
      simp only [Prod.mk.injEq] at e
      obtain ⟨rfl, rfl⟩ := e
      simp only [canX, nmI]
      refine canX_one none (.inl ⟨rfl, rfl, fun _ x e => by cases e⟩) ?_
      simp only [AV.R] at ra ⊢
      rcases ra with ⟨h1, h2⟩ | ⟨h1, a, h2⟩
      · exact .inl ⟨h1, trivial, h2⟩
      · exact .inr (.inl ⟨h1, trivial, a, 0, h2, fun _ => rfl⟩)
    · rename_i id len
      split at e
      · rename_i c e' z hg
        simp only [Bool.cond_eq_ite] at e
        split at e
        · rename_i hc
          simp only [Bool.and_eq_true, nbeq, nblt, decide_eq_true_eq] at hc
          obtain ⟨⟨⟨⟨⟨rfl, rfl⟩, hz⟩, hlen⟩, h0⟩, hlit⟩ := hc
          have e := T.sel_ret e
          simp only [Prod.mk.injEq] at e
          obtain ⟨rfl, rfl⟩ := e
          simp only [canX, nmI]
          simp only [AV.R] at ra
          obtain ⟨b, κ, hM, rfl⟩ := ra
          obtain ⟨ob, hb, vs, rest, rl, rfl, hκ⟩ := Ob_of rr hg hM
          simp only at hκ
          have hvl := RL_length rl
          have hle : len ≤ κ := by
            have : len * ks.length ≤ κ * ks.length := by rw [← hκ, ← hlen, ← hvl]; simp
            exact Nat.le_of_mul_le_mul_right this hz
          refine canX_one (some (b, κ)) (.inr (.inl ⟨b, κ, _, id, _, κ, rfl, hb, ?_, rfl, hg, hM, fun _ => ⟨rfl, rfl⟩⟩)) ?_
          · refine ⟨(vs ++ rest).toArray, rfl, by simpa using hκ, hle, fun i hi j hj => ?_⟩
            have hrow := litOk_row hlit i hi
            have hat : i * ks.length + j < vs.length := by
              rw [hvl, hlen]
              have : (i + 1) * ks.length ≤ len * ks.length := Nat.mul_le_mul_right _ hi
              rw [Nat.add_mul] at this; omega
            obtain ⟨v, t1, t2⟩ : ∃ v, vs[i * ks.length + j]? = some v ∧ (litF ks.length c i j).R M v := by
              cases hn : nthA c (i * ks.length + j) with
              | none => have := nthA_none hn; omega
              | some x =>
                obtain ⟨v, t1, t2⟩ := nthA_get hn rl
                exact ⟨v, t1, by simp only [litF, hn]; exact t2⟩
            have := colsOf_R (M' := MofZ Z (bs ++ [some (b, κ)])) (j0 := 0) (f := litF ks.length c) (.inr (zle_of (M := M) hZ _)) hrow hj (by rw [Nat.zero_add]; exact t2)
            exact ⟨v, by simp [List.getElem?_append_left hat, t1], this.2, this.1⟩
          · simp only [AV.R]
            exact .inr (.inr ⟨trivial, b, κ, κ, Mof_at hl, by simp, hle, h0, fun _ => ⟨by simp, by omega⟩⟩)
        · cases e
      · cases e
    · cases e
  | .ptr t l, a, d, is, u, bl, bs, e, hd9, ra, hl => by
    simp only [rdX] at e
    split at e
    · have e := T.sel_ret e
      simp only [Prod.mk.injEq] at e
      obtain ⟨rfl, rfl⟩ := e
      exact ⟨[], [], by simp [canX], ⟨rfl, rfl⟩, by simpa only [canX, AV.R] using ra⟩
    · rename_i id off
      split at e
      · rename_i cs t' hg
        simp only [Bool.cond_eq_ite] at e
        split at e
        · rename_i hc
          simp only [Bool.and_eq_true, nbeq, decide_eq_true_eq] at hc
          obtain ⟨rfl, rfl⟩ := hc
          obtain ⟨⟨ds, is1⟩, e1, e⟩ := T.sel_bind_some e
          have e := T.sel_ret e
          simp only [Prod.mk.injEq] at e
          obtain ⟨rfl, rfl⟩ := e
          simp only [AV.R] at ra
          obtain ⟨b, κ, hM, rfl⟩ := ra
          obtain ⟨ob, hb, vs, rest, rl, rfl, rfl⟩ := Ob_of rr hg hM
          obtain ⟨nb, bs', q1, q2, q3⟩ := rdXs_ok rr hZ l cs ds is1 vs bl bs e1 (by simpa only [lendX, hg] using hd9) rl hl
          have hlen := q2.len
          have hl2 : (bs ++ bs').length = (bl ++ nb).length := by simp [hl, hlen.1]
          refine ⟨nb ++ [.cells (canXs nmI l ds bl).1 t none], bs' ++ [some (b, κ)], ?_, ?_, ?_⟩
          · simp only [canX]; rw [q1]; simp
          · rw [← List.append_assoc]
            refine (q2.mono (MofZ_le _ _)).app ⟨_, _, _, _, rfl, rfl, .inr (.inl ⟨b, κ, _, id, _, κ, rfl, hb, ?_, rfl, hg, hM, fun _ => ⟨rfl, rfl⟩⟩), rfl, rfl⟩
            exact ⟨vs, [], AV.RL.mono (MofZ_le _ _) _ _ q3, rfl, rfl⟩
          · rw [← List.append_assoc]
            simp only [canX, AV.R]
            rw [q1]
            exact ⟨b, κ, Mof_at hl2, rfl⟩
        · cases e
      · cases e
    · cases e
  | .agg l, a, d, is, u, bl, bs, e, hd9, ra, hl => by
    simp only [rdX] at e
    split at e
    · rename_i vs
      obtain ⟨⟨ds, is1⟩, e1, e⟩ := T.sel_bind_some e
      have e := T.sel_ret e
      simp only [Prod.mk.injEq] at e
      obtain ⟨rfl, rfl⟩ := e
      simp only [AV.R] at ra
      obtain ⟨us, rl, rfl⟩ := ra
      obtain ⟨nb, bs', q1, q2, q3⟩ := rdXs_ok rr hZ l vs ds is1 us bl bs e1 (by simpa only [lendX] using hd9) rl hl
      exact ⟨nb, bs', by simpa only [canX] using q1, q2, by simp only [canX, AV.R]; exact ⟨us, q3, rfl⟩⟩
    · cases e
  | .tup l, a, d, is, u, bl, bs, e, hd9, ra, hl => by simp only [rdX] at e; cases e
  | .fn f l, a, d, is, u, bl, bs, e, hd9, ra, hl => by
    simp only [rdX] at e
    split at e
    · rename_i f' vs
      simp only [Bool.cond_eq_ite, nbeq, decide_eq_true_eq] at e
      split at e
      case isFalse => cases e
      rename_i hf
      subst hf
      obtain ⟨⟨ds, is1⟩, e1, e⟩ := T.sel_bind_some e
      have e := T.sel_ret e
      simp only [Prod.mk.injEq] at e
      obtain ⟨rfl, rfl⟩ := e
      simp only [AV.R] at ra
      obtain ⟨us, rl, rfl⟩ := ra
      obtain ⟨nb, bs', q1, q2, q3⟩ := rdXs_ok rr hZ l vs ds is1 us bl bs e1 (by simpa only [lendX] using hd9) rl hl
      exact ⟨nb, bs', by simpa only [canX] using q1, q2, by simp only [canX, AV.R]; exact ⟨us, q3, rfl⟩⟩
    · cases e
  | .pl ks, a, d, is, u, bl, bs, e, hd9, ra, hl => by
    have hzl : ZLe M (MofZ Z (bs ++ [])) := zle_of hZ _
    have fin : ∀ {nil : Bool} {n : Nat} {f : Nat → Nat → AV}, (∀ i, i < n → rowOk (f i) ks 0 = true) → (d, is) = (Dx.rows nil n (colsOf f ks 0), []) → (AV.lst false nil ks.length n (fun i j => (colF (colsOf f ks 0) i j))).R (MofZ Z (bs ++ [])) u →
        ∃ nb bs', (canX nmI (.pl ks) d bl).2 = bl ++ nb ∧ BX M h w (MofZ Z (bs ++ bs')) nb bs' is ∧ (canX nmI (.pl ks) d bl).1.R (MofZ Z (bs ++ bs')) u := fun {nil n f} hro he r => by
      simp only [Prod.mk.injEq] at he
      obtain ⟨rfl, rfl⟩ := he
      exact ⟨[], [], by simp [canX], ⟨rfl, rfl⟩, by simpa only [canX] using r⟩
    simp only [rdX, colsL_eq] at e
    split at e
    · rename_i nil id z o n
      split at e
      case h_2 => cases e
      rename_i e' z2 n2 f hg
      simp only [Bool.cond_eq_ite] at e
      split at e
      case isFalse => cases e
      rename_i hc
      simp only [Bool.and_eq_true, nbeq, decide_eq_true_eq] at hc
      obtain ⟨rfl, rfl⟩ := hc
      obtain ⟨h1, e⟩ := T.sel_must e
      obtain ⟨h2, e⟩ := mustCols_ok e
      have e := T.sel_ret e
      have h1 : o + n ≤ n2 := of_decide_eq_true h1
      refine fin h2 e.symm ?_
      have hL : id ∈ L := hd9 id (by simp [lendX])
      simp only [AV.R] at ra ⊢
      rcases ra with ra | ⟨r1, r2, a, c, rfl, _⟩ | ⟨r1, b, κ, c, hM, rfl, r2, r3, _⟩
      · exact .inl ra
      · exact .inr (.inl ⟨r1, r2, a, c, rfl, fun e => by cases e⟩)
      · obtain ⟨ob, hb, cs, rfl, _, _, q⟩ := Ob_of rr hg hM
        refine .inr (.inr ⟨r1, r3, b, _, c, cs, rfl, r2, (fun e => by cases e), zlat_of hZ rr hL hg rfl hM hb, fun i hi j hj => ?_⟩)
        obtain ⟨v, q1, q2, q3⟩ := q (o + i) (by omega) j hj
        have := colsOf_R (M' := MofZ Z (bs ++ [])) (j0 := 0) (.inr hzl) (h2 i hi) hj (by rw [shiftF_eq, Nat.zero_add]; exact q3)
        refine ⟨v, ?_, this.2, this.1⟩
        rw [← q1]; congr 1; simp only [Bool.false_eq_true, if_false, Nat.add_mul]; omega
    · rename_i id off len cap un
      split at e
      case h_2 => cases e
      rename_i c et g hg
      split at e
      case h_2 => cases e
      rename_i l hsl
      simp only [Bool.cond_eq_ite] at e
      split at e
      case isFalse => cases e
      rename_i hc
      simp only [Bool.and_eq_true, nblt, decide_eq_true_eq] at hc
      obtain ⟨⟨hlit, hl0⟩, hroom⟩ := hc
      have e := T.sel_ret e
      refine fin (litOk_row hlit) e.symm ?_
      have hL : id ∈ L := hd9 id (by simp [lendX])
      simp only [AV.R] at ra ⊢
      obtain ⟨b, κ, hM, rfl⟩ := ra
      obtain ⟨ob, hb, vs, rest, rl, rfl, hκ⟩ := Ob_of rr hg hM
      have hvl := RL_length rl
      obtain ⟨e1, e2⟩ := sliceA_eq hsl
      have rl2 : AV.RL M l ((vs.drop off).take (len * ks.length)) := by rw [e1]; exact RL_take _ (RL_drop _ rl)
      have hln : l.length = len * ks.length := by rw [e1]; simp; omega
      have hroom2 : len ≤ (if un = true then κ - cap else cap) := by
        unfold roomOk at hroom
        cases un with
        | false => simpa [nble] using hroom
        | true =>
          simp only at hroom
          cases g with
          | none => cases hroom
          | some z' =>
            simp only [Bool.and_eq_true, nbeq, nblt, nble, decide_eq_true_eq] at hroom
            obtain ⟨⟨hz1, hz⟩, hle⟩ := hroom
            subst hz1
            simp only at hκ
            have : (cap + len) * ks.length ≤ κ * ks.length := by
              rw [← hκ]; refine Nat.le_trans hle ?_; rw [← hvl]; simp
            have := Nat.le_of_mul_le_mul_right this hz
            simp only [if_true]; omega
      refine .inr (.inr ⟨trivial, hl0, b, off, _, _, rfl, hroom2, (fun e => by cases e), zlat_of hZ rr hL hg rfl hM hb, fun i hi j hj => ?_⟩)
      have hp := place_lt hi hj
      obtain ⟨a, ha⟩ := nthA_lt (l := l) (k := i * ks.length + j) (by omega)
      obtain ⟨v, q1, q2⟩ := nthA_get ha rl2
      have := colsOf_R (M := M) (M' := MofZ Z (bs ++ [])) (j0 := 0) (f := litF ks.length l) (.inr hzl) (litOk_row hlit i hi) hj (show (litF ks.length l i (0 + j)).R M v by rw [Nat.zero_add]; simp only [litF, ha]; exact q2)
      refine ⟨v, ?_, this.2, this.1⟩
      rw [List.getElem?_take, if_pos hp, List.getElem?_drop] at q1
      have hlt := (List.getElem?_eq_some_iff.1 q1).1
      rw [List.getElem?_toArray, Nat.add_assoc, List.getElem?_append_left hlt]; exact q1
    · split at e
      case h_2 => cases e
      rename_i nil n f hls
      obtain ⟨h2, e⟩ := mustCols_ok e
      have e := T.sel_ret e
      refine fin h2 e.symm ?_
      exact (lst_can hzl (fun i hi j hj u ru => (colsOf_R (j0 := 0) (.inr hzl) (h2 i hi) hj (by rw [Nat.zero_add]; exact ru)).1) (lsOf_R hls ra)).1
theorem rdXs_ok (rr : Rel M h w) (hZ : Z = zL M w L) : ∀ (ss : List Sx) (vs : List AV) (ds : List Dx) (is : List (Option Nat)) (us : List Value) (bl : List AO) (bs : List (Option (Nat × Nat))), (rdXs h ss vs).sel = some (ds, is) → (∀ id ∈ lendXs h ss vs, id ∈ L) → AV.RL M vs us → bs.length = bl.length →
    ∃ nb bs', (canXs nmI ss ds bl).2 = bl ++ nb ∧ BX M h w (MofZ Z (bs ++ bs')) nb bs' is ∧ AV.RL (MofZ Z (bs ++ bs')) (canXs nmI ss ds bl).1 us
  | [], vs, ds, is, us, bl, bs, e, hd9, ra, hl => by
    simp only [rdXs] at e
    split at e
    · have e := T.sel_ret e
      simp only [Prod.mk.injEq] at e
      obtain ⟨rfl, rfl⟩ := e
      exact ⟨[], [], by simp [canXs], ⟨rfl, rfl⟩, ra⟩
    · cases e
  | s :: ss, vs, ds, is, us, bl, bs, e, hd9, ra, hl => by
    simp only [rdXs] at e
    split at e
    · rename_i a l
      obtain ⟨⟨d, i1⟩, e1, e⟩ := T.sel_bind_some e
      obtain ⟨⟨ds', i2⟩, e2, e⟩ := T.sel_bind_some e
      have e := T.sel_ret e
      simp only [Prod.mk.injEq] at e
      obtain ⟨rfl, rfl⟩ := e
      simp only [AV.RL] at ra
      obtain ⟨v, vs', r1, r2, rfl⟩ := ra
      obtain ⟨nb1, bs1, q1, q2, q3⟩ := rdX_ok rr hZ s a d i1 v bl bs e1 (fun id hi => hd9 id (by simp only [lendXs]; exact List.mem_append_left _ hi)) r1 hl
      have hlen := q2.len
      obtain ⟨nb2, bs2, p1, p2, p3⟩ := rdXs_ok rr hZ ss l ds' i2 vs' (bl ++ nb1) (bs ++ bs1) e2 (fun id hi => hd9 id (by simp only [lendXs]; exact List.mem_append_right _ hi)) r2 (by simp [hl, hlen.1])
      refine ⟨nb1 ++ nb2, bs1 ++ bs2, ?_, ?_, ?_⟩
      · simp only [canXs]; rw [q1, p1, List.append_assoc]
      · rw [← List.append_assoc]; exact (q2.mono (MofZ_le _ _)).app p2
      · rw [← List.append_assoc]
        simp only [canXs, AV.RL]
        rw [q1]
        exact ⟨v, vs', AV.R.mono (MofZ_le _ _) _ _ q3, p3, rfl⟩
    · cases e
end
end

/-! The heap of what is handed in. -/
def memI (id : Nat) : List (Option Nat) → Bool
  | [] => false
  | i :: is => (match i with | some j => Nat.beq id j | none => false) || memI id is
def memO (id : Nat) : List AO → List (Option Nat) → Bool
  | a :: l, i :: is => (!a.ro && (match i with | some j => Nat.beq id j | none => false)) || memO id l is
  | _, _ => false
def okIds : List AO → List (Option Nat) → Bool
  | a :: l, i :: is => (match i with | none => true | some id => bif a.ro then !memO id l is else !memI id is) && okIds l is
  | _, _ => true
theorem memI_at {id : Nat} : ∀ {is : List (Option Nat)} {j : Nat}, is[j]? = some (some id) → memI id is = true
  | [], j, h => by simp at h
  | i :: is, 0, h => by simp at h; subst h; simp [memI]
  | i :: is, j + 1, h => by simp only [memI, Bool.or_eq_true]; exact .inr (memI_at (by simpa using h))
theorem memO_at {id : Nat} : ∀ {l : List AO} {is : List (Option Nat)} {j : Nat} {a : AO}, l[j]? = some a → is[j]? = some (some id) → a.ro = false → memO id l is = true
  | [], is, j, a, h, _, _ => by simp at h
  | _ :: _, [], j, a, _, h, _ => by simp at h
  | x :: l, i :: is, 0, a, h, h2, h3 => by simp at h h2; subst h h2; simp [memO, h3]
  | x :: l, i :: is, j + 1, a, h, h2, h3 => by simp only [memO, Bool.or_eq_true]; exact .inr (memO_at (by simpa using h) (by simpa using h2) h3)
theorem okIds_inj {id : Nat} : ∀ {l : List AO} {is : List (Option Nat)} {i j : Nat} {a b : AO}, okIds l is = true → l[i]? = some a → is[i]? = some (some id) → l[j]? = some b → is[j]? = some (some id) → a.ro = false → i = j
  | [], is, i, j, a, b, _, h, _, _, _, _ => by simp at h
  | _ :: _, [], i, j, a, b, _, _, h, _, _, _ => by simp at h
  | x :: l, y :: is, i, j, a, b, ok, h1, h2, h3, h4, hr => by
    simp only [okIds, Bool.and_eq_true] at ok
    cases i with
    | zero =>
      cases j with
      | zero => rfl
      | succ j =>
        simp at h1 h2 h3 h4; subst h1 h2
        have := ok.1
        simp only [hr, cond_false, memI_at h4, Bool.not_true, Bool.false_eq_true] at this
    | succ i =>
      cases j with
      | zero =>
        simp at h1 h2 h3 h4; subst h3 h4
        have := ok.1
        cases hx : x.ro with
        | true => simp only [hx, cond_true, memO_at h1 h2 hr, Bool.not_true, Bool.false_eq_true] at this
        | false => simp only [hx, cond_false, memI_at h2, Bool.not_true, Bool.false_eq_true] at this
      | succ j => exact congrArg Nat.succ (okIds_inj (id := id) (l := l) (is := is) (a := a) (b := b) ok.2 (by simpa using h1) (by simpa using h2) (by simpa using h3) (by simpa using h4) hr)
/-- What is lent is one's own, and is not handed over besides. -/
def okLend (bl : List AO) (is : List (Option Nat)) (h : AH) : List Nat → Bool
  | [] => true
  | id :: l => (match h.get id with | some o => !o.ro | none => false) && !memO id bl is && okLend bl is h l
theorem okLend_at {bl : List AO} {is : List (Option Nat)} {h : AH} : ∀ {L : List Nat}, okLend bl is h L = true → ∀ id ∈ L, (∃ o, h.get id = some o ∧ o.ro = false) ∧ memO id bl is = false
  | [], _, id, hi => by simp at hi
  | x :: l, ok, id, hi => by
    simp only [okLend, Bool.and_eq_true, Bool.not_eq_true'] at ok
    rcases List.mem_cons.1 hi with rfl | hi
    · refine ⟨?_, ok.1.2⟩
      have h1 := ok.1.1
      split at h1
      · rename_i o ho; exact ⟨o, ho, by simpa using h1⟩
      · cases h1
    · exact okLend_at ok.2 id hi
section
variable {M : Mp} {h : AH} {w : World} {Z : Nat → Option (Array Value)} {L : List Nat}
theorem heapOf_relX (hZ : Z = zL M w L) {bl : List AO} {bs : List (Option (Nat × Nat))} {is : List (Option Nat)} (k : BX M h w (MofZ Z bs) bl bs is) (ok : okIds bl is = true) (okl : okLend bl is h L = true) (rr : Rel M h w) (hl : bl.length < 4294967296) : Rel (MofZ Z bs) (heapOf bl) w ∧ FreshA (MofZ Z bs) (heapOf bl).nx := by
  have key : ∀ id o, (heapOf bl).get id = some o → ∃ b i, bs[id]? = some b ∧ is[id]? = some i ∧ bl[id]? = some o ∧ BlkX M h w (MofZ Z bs) o b i := fun id o e => by
    rw [heapOf_get hl] at e
    obtain ⟨b, i, h1, h2, h3⟩ := k.get e
    exact ⟨b, i, h1, h2, e, h3⟩
  have hM : ∀ id b, bs[id]? = some b → MofZ Z bs id = b := fun id b e => by unfold MofZ Mof; simp only [e]; cases b <;> rfl
  refine ⟨⟨fun id o e => ?_, fun i j b κ κ' o hi hr hj e1 e2 => ?_, fun x hx => ?_, rr.gw, fun x b κ o hx hro e => ?_, fun b cs e => ?_, fun i b κ o hi hr e => ?_⟩, fun id hid => ?_⟩
  · obtain ⟨b, i, h1, _, _, h2⟩ := key id o e
    rcases h2 with ⟨rfl, h3, _⟩ | ⟨bk, κ, ob, _, _, _, rfl, h3, h4, _⟩ | ⟨bk, κ, ob, rfl, h3, h4, _⟩
    · exact .inl ⟨h3, hM _ _ h1⟩
    · exact .inr ⟨bk, κ, ob, hM _ _ h1, h3, h4⟩
    · exact .inr ⟨bk, κ, ob, hM _ _ h1, h3, h4⟩
  · obtain ⟨b1, i1, h1, h2, h3, h4⟩ := key i o hi
    cases hjj : (heapOf bl).get j with
    | none => exact absurd hjj hj
    | some oj =>
      obtain ⟨b2, i2, g1, g2, g3, g4⟩ := key j oj hjj
      rw [hM _ _ h1] at e1
      rw [hM _ _ g1] at e2
      subst e1 e2
      rcases h4 with ⟨e, _⟩ | ⟨_, _, _, id1, o1, κ1, e, _, _, rfl, t1, t2, t3⟩ | ⟨_, _, _, _, _, _, _, t1, _⟩
      · cases e
      rotate_left
      · rw [hr] at t1; cases t1
      · rcases g4 with ⟨e', _⟩ | ⟨_, _, _, id2, o2, κ2, e', _, _, rfl, u1, u2, _⟩ | ⟨_, _, _, e', _, _, _, _, cs, u2⟩
        · cases e'
        rotate_left
        · simp only [Option.some.injEq, Prod.mk.injEq] at e e'
          obtain ⟨rfl, rfl⟩ := e
          obtain ⟨rfl, rfl⟩ := e'
          have := rr.fo id1 b κ1 o1 t1 (t3 hr).1 t2
          rw [this] at u2; cases u2
        · simp only [Option.some.injEq, Prod.mk.injEq] at e e'
          obtain ⟨rfl, rfl⟩ := e
          obtain ⟨rfl, rfl⟩ := e'
          have := rr.inj id1 id2 b _ _ o1 t1 (t3 hr).1 (by rw [u1]; simp) t2 u2
          subst this
          exact okIds_inj ok h3 h2 g3 g2 hr
  · rw [heapOf_get hl] at hx
    show x < bl.length
    cases hh : bl[x]? with
    | none => exact absurd hh hx
    | some _ => exact (List.getElem?_eq_some_iff.1 hh).1
  · obtain ⟨b', i, h1, _, _, h2⟩ := key x o hx
    rw [hM _ _ h1] at e
    subst e
    rcases h2 with ⟨e, _⟩ | ⟨_, _, _, id1, o1, κ1, e, _, _, _, t1, t2, t3⟩ | ⟨_, _, _, _, _, _, _, t, _⟩
    · cases e
    · simp only [Option.some.injEq, Prod.mk.injEq] at e
      obtain ⟨rfl, rfl⟩ := e
      exact rr.gf id1 b κ1 o1 t1 (t3 hro).1 t2
    · rw [t] at hro; cases hro
  · subst hZ
    rcases zL_inv e with e | ⟨id, κ, t, fr, h1, h2, h3⟩
    · exact rr.fz b cs e
    · obtain ⟨⟨o, h4, h5⟩, _⟩ := okLend_at okl id h1
      exact ⟨t, fr, h3⟩
  · obtain ⟨b1, i1, h1, h2, h3, h4⟩ := key i o hi
    rw [hM _ _ h1] at e
    subst e
    rcases h4 with ⟨e, _⟩ | ⟨_, _, _, id1, o1, κ1, e, _, _, rfl, t1, t2, t3⟩ | ⟨_, _, _, _, _, _, _, t1, _⟩
    · cases e
    · simp only [Option.some.injEq, Prod.mk.injEq] at e
      obtain ⟨rfl, rfl⟩ := e
      show Z b = none
      cases hz : Z b with
      | none => rfl
      | some cs =>
        exfalso
        subst hZ
        rcases zL_inv hz with e | ⟨id, κ', t, fr, g1, g2, g3⟩
        · have := rr.fo id1 b κ1 o1 t1 (t3 hr).1 t2
          rw [this] at e; cases e
        · obtain ⟨⟨o4, g4, g5⟩, g6⟩ := okLend_at okl id g1
          have := rr.inj id id1 b _ _ o4 g4 g5 (by rw [t1]; simp) g2 t2
          subst this
          rw [memO_at h3 h2 hr] at g6; cases g6
    · rw [hr] at t1; cases t1
  · have hid : bl.length ≤ id := hid
    unfold MofZ Mof
    simp only
    rw [List.getElem?_eq_none (by rw [k.len.1]; exact hid)]
theorem ownX {bl : List AO} {bs : List (Option (Nat × Nat))} {is : List (Option Nat)} (k : BX M h w (MofZ Z bs) bl bs is) (hl : bl.length < 4294967296) {b : Nat} (ho : OwnP (MofZ Z bs) (heapOf bl) b) :
    ∃ (i : Nat) (a : AO) (id : Nat) (o : AO) (κ : Nat), bl[i]? = some a ∧ a.ro = false ∧ is[i]? = some (some id) ∧ h.get id = some o ∧ o.ro = false ∧ M id = some (b, κ) := by
  obtain ⟨i, κ, a, h1, h2, h3⟩ := ho
  rw [heapOf_get hl] at h1
  obtain ⟨b', idl, g1, g2, g3⟩ := k.get h1
  unfold MofZ Mof at h3
  simp only [g1] at h3
  rcases g3 with ⟨rfl, _⟩ | ⟨_, _, _, id, o, κ', rfl, _, _, rfl, t1, t2, t3⟩ | ⟨_, _, _, _, _, _, _, t1, _⟩
  · cases h3
  rotate_left
  · rw [h2] at t1; cases t1
  · simp only [Option.some.injEq, Prod.mk.injEq] at h3
    obtain ⟨rfl, rfl⟩ := h3
    exact ⟨i, a, id, o, κ', h1, h2, g2, t1, (t3 h2).1, t2⟩
end

/-! The same data, by other numbers. -/
section
variable {N N' : Mp} {c : Col}
def SH (N N' : Mp) (a a' : AO) : Prop := a'.ro = a.ro ∧ (a.Vac → a'.Vac) ∧ ∀ κ ob, ObR N κ a ob → ObR N' κ a' ob
def SHL (N N' : Mp) (l l' : List AO) : Prop := l.length = l'.length ∧ ∀ (j : Nat) (a : AO), l[j]? = some a → ∃ a', l'[j]? = some a' ∧ SH N N' a a'
theorem SHL.snoc {l l' : List AO} {a a' : AO} (h : SHL N N' l l') (k : SH N N' a a') : SHL N N' (l ++ [a]) (l' ++ [a']) := by
  refine ⟨by simp [h.1], fun j x hj => ?_⟩
  rw [List.getElem?_append] at hj ⊢
  rw [← h.1]
  split at hj
  · rename_i hlt; rw [if_pos hlt]; exact h.2 j x hj
  · rename_i hlt
    rw [if_neg hlt]
    have : j - l.length = 0 := by
      have := (List.getElem?_eq_some_iff.1 hj).1
      simp at this; omega
    rw [this] at hj ⊢
    simp at hj; subst hj
    exact ⟨a', rfl, k⟩
def flatC (c : Col) : Bool := match c with | .ls _ _ _ => false | _ => true
def flatCs : List Col → Bool
  | [] => true
  | c :: l => flatC c && flatCs l
mutual
/-- Data without lists, so far as these are frozen. -/
def flatX : Sx → Dx → Bool
  | .sc, _ => true
  | .ro _ _, d => match d with | .rows _ _ cols => flatCs cols | _ => true
  | .own _ _, d => match d with | .rows _ _ cols => flatCs cols | _ => true
  | .ptr _ l, d => match d with | .l ds => flatXs l ds | _ => true
  | .agg l, d => match d with | .l ds => flatXs l ds | _ => true
  | .tup l, d => match d with | .l ds => flatXs l ds | _ => true
  | .fn _ l, d => match d with | .l ds => flatXs l ds | _ => true
  | .pl _, _ => false
def flatXs : List Sx → List Dx → Bool
  | [], _ => true
  | s :: ss, ds => match ds with | d :: ds' => flatX s d && flatXs ss ds' | [] => true
end
theorem cl2_sc : ∀ {l : List Cl2} {i p j : Nat} {v : Value}, (cl2F l i p j).R N v → (cl2F l i p j).R N' v
  | [], _, _, _, _, r => r
  | c :: l, i, p, 0, v, r => by cases c <;> exact r
  | c :: l, i, p, j + 1, v, r => cl2_sc (l := l) r
theorem col_sc (hz : ZLe N N' ∨ flatC c = true) {i : Nat} {v : Value} (r : (Col.at c i).R N v) : (Col.at c i).R N' v := by
  cases c with
  | ls nil n l =>
    rcases hz with hz | hz
    · exact (lst_can hz (fun _ _ _ _ _ r => cl2_sc r) r).1
    · cases hz
  | int => exact r
  | bool => exact r
  | str => exact r
theorem cols_sc : ∀ {l : List Col}, (ZLe N N' ∨ flatCs l = true) → ∀ {i j : Nat} {v : Value}, (colF l i j).R N v → (colF l i j).R N' v
  | [], _, _, _, _, r => r
  | c :: l, hz, i, j, v, r => by
    have hz1 : ZLe N N' ∨ flatC c = true := hz.imp id (fun e => by simp only [flatCs, Bool.and_eq_true] at e; exact e.1)
    have hz2 : ZLe N N' ∨ flatCs l = true := hz.imp id (fun e => by simp only [flatCs, Bool.and_eq_true] at e; exact e.2)
    cases j with
    | zero => exact col_sc hz1 r
    | succ j => exact cols_sc hz2 (j := j) r
theorem SH_arr {ro : Bool} {e : TypeId} {z n : Nat} {cols : List Col} (hz : ZLe N N' ∨ flatCs cols = true) : SH N N' (.arr ro e z n (colF cols)) (.arr ro e z n (colF cols)) := by
  refine ⟨rfl, fun h => h, fun κ ob h => ?_⟩
  cases ro with
  | true =>
    obtain ⟨cs, e, fr, h1, h2⟩ := h
    exact ⟨cs, e, fr, h1, fun i hi j hj => by obtain ⟨v, q1, q2, q3⟩ := h2 i hi j hj; exact ⟨v, q1, q2, cols_sc hz q3⟩⟩
  | false =>
    obtain ⟨cs, h1, h2, h3, h4⟩ := h
    exact ⟨cs, h1, h2, h3, fun i hi j hj => by obtain ⟨v, q1, q2, q3⟩ := h4 i hi j hj; exact ⟨v, q1, q2, cols_sc hz q3⟩⟩
mutual
theorem canX_le (x : Nat → Nat) : ∀ (s : Sx) (d : Dx) (bl : List AO), bl.length ≤ (canX x s d bl).2.length
  | .sc, d, bl => by simp only [canX]; split <;> exact Nat.le_refl _
  | .ro _ _, d, bl => by simp only [canX]; split <;> simp
  | .own _ _, d, bl => by simp only [canX]; split <;> simp
  | .ptr t l, d, bl => by
    simp only [canX]
    split
    · rename_i ds
      have := canXs_le x l ds bl
      simp only [List.length_append]; omega
    · exact Nat.le_refl _
  | .agg l, d, bl => by
    simp only [canX]
    split
    · rename_i ds; exact canXs_le x l ds bl
    · exact Nat.le_refl _
  | .tup l, d, bl => by
    simp only [canX]
    split
    · rename_i ds; exact canXs_le x l ds bl
    · exact Nat.le_refl _
  | .fn f l, d, bl => by
    simp only [canX]
    split
    · rename_i ds; exact canXs_le x l ds bl
    · exact Nat.le_refl _
  | .pl _, d, bl => by simp only [canX]; split <;> exact Nat.le_refl _
theorem canXs_le (x : Nat → Nat) : ∀ (ss : List Sx) (ds : List Dx) (bl : List AO), bl.length ≤ (canXs x ss ds bl).2.length
  | [], ds, bl => by simp [canXs]
  | s :: ss, ds, bl => by
    simp only [canXs]
    split
    · rename_i d ds'
      exact Nat.le_trans (canX_le x s d bl) (canXs_le x ss ds' _)
    · exact Nat.le_refl _
end
end
end Go.Proofs.YtlfehgagnelbhaaGreatDoor.Ex
