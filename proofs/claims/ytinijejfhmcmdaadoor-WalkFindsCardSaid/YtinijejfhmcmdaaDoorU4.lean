/- The texts Wi, Sl, Wm, Wn, Wo, Wl, Wp, LaidE, Sb, PkEa, PkEb, CP3, PkEc, Mw, Mf, Mg, Mv, Na: Walks by symbols: what the symbols' conditions say. Contracts, as a list. Walks by symbols: data that is handed in and back, with blocks of its own. Walks by symbols: contracts of functions that hand .. -/
import Derived.KernelRfl
import Derived.Deep.Slices
import Derived.Below
import Derived.Test.YtinijejfhmcmdaaDoorTie
import Derived.LaidMore
import Derived.LaidHandle
import Derived.MakeChecks
import Derived.Lib.LaidTab
import Derived.Stop.LaidErr
import Derived.SevenTiedAt
import Derived.OpenShut
import Derived.Stop.Joined
import Derived.Test.YtinijejfhmcmdaaDoorProg
import Derived.Test.YtinijejfhmcmdaaDoorU3
set_option linter.all false
set_option maxRecDepth 100000
section
namespace Go.Proofs.YtinijejfhmcmdaaDoor.Ex
open Go
def mst (b : Bool) (p : Prop) : Prop := (b = true → p) ∧ (b = false → False)
theorem yLt_t {a b : Int} : (yLt a b = true) = (a < b) := by simp [yLt]
theorem yLt_f {a b : Int} : (yLt a b = false) = (b ≤ a) := by simp [yLt]
theorem yLe_t {a b : Int} : (yLe a b = true) = (a ≤ b) := by simp [yLe]
theorem yLe_f {a b : Int} : (yLe a b = false) = (b < a) := by simp [yLe]
theorem yEq_t {a b : Int} : (yEq a b = true) = (a = b) := by simp [yEq]
theorem yEq_f {a b : Int} : (yEq a b = false) = (a ≠ b) := by simp [yEq]
theorem yNot_t {a : Bool} : (yNot a = true) = (a = false) := by simp [yNot]
theorem yNot_f {a : Bool} : (yNot a = false) = (a = true) := by simp [yNot]
theorem yAnd_t {a b : Bool} : (yAnd a b = true) = (a = true ∧ b = true) := by simp [yAnd]
theorem yAnd_f {a b : Bool} : (yAnd a b = false) = (a = false ∨ b = false) := by cases a <;> simp [yAnd]
theorem yOr_t {a b : Bool} : (yOr a b = true) = (a = true ∨ b = true) := by simp [yOr]
theorem yOr_f {a b : Bool} : (yOr a b = false) = (a = false ∧ b = false) := by simp [yOr]
theorem yIff_t {a b : Bool} : (yIff a b = true) = (a = b) := by simp [yIff]
theorem yIff_f {a b : Bool} : (yIff a b = false) = (a ≠ b) := by simp [yIff]
theorem yIn_t {a : Int} {n : Nat} : (yIn a n = true) = (0 ≤ a ∧ a < n) := by simp [yIn]
theorem yIn_f {a : Int} {n : Nat} : (yIn a n = false) = ¬ (0 ≤ a ∧ a < n) := by simp [yIn]
theorem yNlt_t {a b : Nat} : (yNlt a b = true) = (a < b) := by simp [yNlt]
theorem yNlt_f {a b : Nat} : (yNlt a b = false) = (b ≤ a) := by simp [yNlt]
theorem yNle_t {a b : Nat} : (yNle a b = true) = (a ≤ b) := by simp [yNle]
theorem yNle_f {a b : Nat} : (yNle a b = false) = (b < a) := by simp [yNle]
theorem yNeq_t {a b : Nat} : (yNeq a b = true) = (a = b) := by simp [yNeq]
theorem yNeq_f {a b : Nat} : (yNeq a b = false) = (a ≠ b) := by simp [yNeq]
theorem yGrow_t {n b : Nat} : (yGrow n b = true) = (4 * n * b ≤ 140737488355328) := by simp [yGrow, growOk]
theorem yGrow_f {n b : Nat} : (yGrow n b = false) = (140737488355328 < 4 * n * b) := by simp [yGrow, growOk, nble]
theorem yInt_e {n : Nat} : yInt n = (n : Int) := rfl
theorem yNat_e {n : Nat} : yNat (n : Int) = n := by simp [yNat]
theorem yNadd_e {a b : Nat} : yNadd a b = a + b := rfl
theorem yNsub_e {a b : Nat} : yNsub a b = a - b := rfl
theorem yAdd_e {a b : Int} : yAdd a b = a + b := rfl
theorem ySub_e {a b : Int} : ySub a b = a - b := rfl
theorem yMul_e {a b : Int} : yMul a b = a * b := rfl
theorem wrap64 {n : Int} (h1 : -9223372036854775808 ≤ n) (h2 : n < 9223372036854775808) : yWrap .i64 n = n := wrap_id _ _ (by simp only [negLim]; omega) (by simp only [posLim]; omega)
theorem wrapU64 {n : Int} (h1 : 0 ≤ n) (h2 : n < 18446744073709551616) : yWrap .u64 n = n := wrap_id _ _ (by simp only [negLim]; omega) (by simp only [posLim]; omega)
theorem yCol_int {k : IntKind} {n : Nat} {x : Nat → Int} : yCol (.int k) n (fun i => .y k (x i)) = true := by
 rw [yCol_ok]; intro i _; simp only [kOk, yI]; cases k <;> rfl
theorem yCol_bool {n : Nat} {x : Nat → Bool} : yCol .bool n (fun i => .yb (x i)) = true := by
 rw [yCol_ok]; intro i _; rfl
theorem vS : (∀ {a : Bool}, (yNot a = true) = (a = false)) ∧ (∀ {a : Bool}, (yNot a = false) = (a = true)) ∧ (∀ {a b : Int}, (yEq a b = true) = (a = b)) ∧ (∀ {a b : Int}, (yEq a b = false) = (a ≠ b)) ∧ (∀ {a b : Bool}, (yAnd a b = true) = (a = true ∧ b = true)) ∧ (∀ {a b : Bool}, (yAnd a b = false) = (a = false ∨ b = false)) ∧ (∀ {a b : Bool}, (yOr a b = true) = (a = true ∨ b = true)) ∧ (∀ {a b : Bool}, (yOr a b = false) = (a = false ∧ b = false)) ∧ (∀ {a b : Bool}, (yIff a b = true) = (a = b)) ∧ (∀ {a b : Bool}, (yIff a b = false) = (a ≠ b)) ∧ (∀ {a b : Int}, (yLt a b = true) = (a < b)) ∧ (∀ {a b : Int}, (yLt a b = false) = (b ≤ a)) ∧ (∀ {a b : Int}, (yLe a b = true) = (a ≤ b)) ∧ (∀ {a b : Int}, (yLe a b = false) = (b < a)) ∧ (∀ {a : Int} {n : Nat}, (yIn a n = true) = (0 ≤ a ∧ a < n)) ∧ (∀ {a : Int} {n : Nat}, (yIn a n = false) = ¬ (0 ≤ a ∧ a < n)) ∧ (∀ {a b : Nat}, (yNlt a b = true) = (a < b)) ∧ (∀ {a b : Nat}, (yNlt a b = false) = (b ≤ a)) ∧ (∀ {a b : Nat}, (yNle a b = true) = (a ≤ b)) ∧ (∀ {a b : Nat}, (yNle a b = false) = (b < a)) ∧ (∀ {a b : Nat}, (yNeq a b = true) = (a = b)) ∧ (∀ {a b : Nat}, (yNeq a b = false) = (a ≠ b)) ∧ (∀ {n b : Nat}, (yGrow n b = true) = (4 * n * b ≤ 140737488355328)) ∧ (∀ {n b : Nat}, (yGrow n b = false) = (140737488355328 < 4 * n * b)) ∧ (∀ {n : Nat}, yInt n = (n : Int)) ∧ (∀ {n : Nat}, yNat (n : Int) = n) ∧ (∀ {a b : Nat}, yNadd a b = a + b) ∧ (∀ {a b : Nat}, yNsub a b = a - b) ∧ (∀ {a b : Int}, yAdd a b = a + b) ∧ (∀ {a b : Int}, ySub a b = a - b) ∧ (∀ {a b : Int}, yMul a b = a * b) ∧ (∀ {k : IntKind} {n : Nat} {x : Nat → Int}, yCol (.int k) n (fun i => .y k (x i)) = true) ∧ (∀ {n : Nat} {x : Nat → Bool}, yCol .bool n (fun i => .yb (x i)) = true) ∧ (∀ (p : Prop), (True ∧ p) = p) ∧ (∀ (p : Prop), (p ∧ True) = p) ∧ (∀ (n : Nat), 0 + n = n) ∧ (∀ (n : Nat), n + 0 = n) ∧ (∀ (n : Nat), n ≤ n) ∧ (∀ (p : Prop), (True → p) = p) ∧ ((true = false) = False) ∧ ((false = true) = False) ∧ (∀ (p : Prop), (False → p) = True) ∧ (∀ (b : Bool) (p : Prop), mst b p = ((b = true → p) ∧ (b = false → False))) :=
 ⟨@yNot_t, @yNot_f, @yEq_t, @yEq_f, @yAnd_t, @yAnd_f, @yOr_t, @yOr_f, @yIff_t, @yIff_f, @yLt_t, @yLt_f, @yLe_t, @yLe_f, @yIn_t, @yIn_f, @yNlt_t, @yNlt_f, @yNle_t, @yNle_f, @yNeq_t, @yNeq_f, @yGrow_t, @yGrow_f, @yInt_e, @yNat_e, @yNadd_e, @yNsub_e, @yAdd_e, @ySub_e, @yMul_e, @yCol_int, @yCol_bool, true_and, and_true, Nat.zero_add, Nat.add_zero, Nat.le_refl, true_implies, by simp, by simp, false_implies, fun _ _ => rfl⟩
theorem kernel_go {p q : Prop} (h : p = q) (hq : q) : p := h ▸ hq
end Go.Proofs.YtinijejfhmcmdaaDoor.Ex
end
section
namespace Go.Proofs.YtinijejfhmcmdaaDoor.Ex
open Go
def smL : List (Nat × Sm) → FuncId → Option Sm
 | [], _ => none
 | (g, s) :: l, f => bif Nat.beq f g then some s else smL l f
def SmE (P : Program) (f : FuncId) : Sm → Prop
 | .call g => SmCall P f g
 | .ct g => SmCall P f fun a h => (g a h).sel
 | .val g => SmVal P f g
def SmAll (P : Program) : List (Nat × Sm) → Prop
 | [] => True
 | (g, s) :: l => SmE P g s ∧ SmAll P l
theorem smL_get {P : Program} : ∀ {l : List (Nat × Sm)} {f : FuncId} {s : Sm}, SmAll P l → smL l f = some s → SmE P f s
 | [], f, s, _, h => by simp [smL] at h
 | (g, x) :: l, f, s, a, h => by
   simp only [smL] at h
   cases hb : Nat.beq f g with
   | true =>
     rw [hb, cond_true, Option.some.injEq] at h
     obtain rfl := Nat.eq_of_beq_eq_true hb
     subst h
     exact a.1
   | false =>
     rw [hb, cond_false] at h
     exact smL_get a.2 h
theorem smL_ok {P : Program} {l : List (Nat × Sm)} (h : SmAll P l) : SmOK P (smL l) := fun _ =>
 ⟨fun _ e => smL_get h e, fun _ e => smL_get h e, fun _ e => smL_get h e⟩
end Go.Proofs.YtinijejfhmcmdaaDoor.Ex
end
section
namespace Go.Proofs.YtinijejfhmcmdaaDoor.Ex
open Go
inductive Sx where
 | sc
 | ro (e : TypeId) (ks : List CK)
 | own (e : TypeId) (ks : List CK)
 | ptr (t : TypeId) (l : List Sx)
 | agg (l : List Sx)
 | tup (l : List Sx)
 | fn (f : FuncId) (l : List Sx)
 | pl (ks : List CK)
 | mut (e : TypeId) (ks : List CK)
inductive Dx where
 | v (a : AV)
 | rows (nil : Bool) (n : Nat) (cols : List Col)
 | l (l : List Dx)
 | np
def nmI (n : Nat) : Nat := n
mutual
/-- As values and blocks: block i goes by the number 'nm i'. -/
def canX (nm : Nat → Nat) : Sx → Dx → List AO → AV × List AO
 | .sc, d, bl => match d with | .v a => (bif scalB a then a else .np, bl) | _ => (.np, bl)
 | .ro e ks, d, bl => match d with | .rows nil n cols => (.ysl true nil (nm bl.length) ks.length 0 n, bl ++ [.arr true e ks.length n (colF cols)]) | _ => (.np, bl)
 | .own e ks, d, bl => match d with | .rows nil n cols => (.ysl false nil (nm bl.length) ks.length 0 n, bl ++ [.arr false e ks.length n (colF cols)]) | _ => (.np, bl)
 | .ptr t l, d, bl => match d with | .l ds => (match canXs nm l ds bl with | (vs, bl1) => (.ptr (nm bl1.length) 0, bl1 ++ [.cells vs t none])) | _ => (.np, bl)
 | .agg l, d, bl => match d with | .l ds => (match canXs nm l ds bl with | (vs, bl1) => (.agg vs, bl1)) | _ => (.np, bl)
 | .tup l, d, bl => match d with | .l ds => (match canXs nm l ds bl with | (vs, bl1) => (.tup vs, bl1)) | _ => (.np, bl)
 | .fn f l, d, bl => match d with | .l ds => (match canXs nm l ds bl with | (vs, bl1) => (.fn f vs, bl1)) | _ => (.np, bl)
 | .pl ks, d, bl => match d with | .rows nil n cols => (.lst false nil ks.length n (colF cols), bl) | _ => (.np, bl)
 | .mut e ks, d, bl => match d with | .rows nil n cols => (.ysl false nil (nm bl.length) ks.length 0 n, bl ++ [.arr false e ks.length n (colF cols)]) | _ => (.np, bl)
def canXs (nm : Nat → Nat) : List Sx → List Dx → List AO → List AV × List AO
 | [], _, bl => ([], bl)
 | s :: ss, ds, bl => match ds with | d :: ds' => (match canX nm s d bl with | (a, bl1) => match canXs nm ss ds' bl1 with | (l, bl2) => (a :: l, bl2)) | [] => ([], bl)
end
def idOf (h : AH) (a : AV) : Option Nat :=
 match a with
 | .ysl _ _ id _ _ _ => match h.get id with | some _ => some id | none => none
 | .sl id _ _ _ _ => match h.get id with | some _ => some id | none => none
 | _ => none
mutual
/-- Reads such a datum from a state; the numbers by which its blocks go there. -/
def rdX (h : AH) : Sx → AV → T (Dx × List (Option Nat))
 | .sc, a => bif scalB a then .ret (.v (toY a), []) else .no
 | .ro e ks, a => (rdC h (some (e, ks)) a).bind fun d => match d with
   | .rows nil n cols => .ret (.rows nil n cols, [idOf h a])
   | _ => .no
 | .own e ks, a => match a with
   | .ysl false nil id z q n => match h.get id with
     | some (.arr false e' z2 n2 f) => bif Nat.beq e e' && Nat.beq z ks.length && Nat.beq z2 ks.length then .must (yNeq q 0) (.must (yNeq n n2) (mustCols n f ks 0 (.ret (.rows nil n (colsOf f ks 0), [some id])))) else .no
     | _ => .no
   | .ns => .ret (.rows true 0 (emptyCols ks), [none])
   | .ye nil => .ret (.rows nil 0 (emptyCols ks), [none])
   | .sl id 0 len 0 true => match h.get id with
     | some (.cells c e' (some z)) => bif Nat.beq e e' && Nat.beq z ks.length && Nat.blt 0 z && Nat.beq c.length (len * z) && Nat.blt 0 len && litOk ks len c then .ret (.rows false len (colsL ks.length c ks 0), [some id]) else .no
     | _ => .no
   | _ => .no
 | .ptr t l, a => match a with
   | .np => .ret (.np, [])
   | .ptr id off => match h.get id with
     | some (.cells cs t' none) => bif Nat.beq off 0 && Nat.beq t t' then (rdXs h l cs).bind fun p => .ret (.l p.1, p.2 ++ [some id]) else .no
     | _ => .no
   | _ => .no
 | .agg l, a => match a with
   | .agg vs => (rdXs h l vs).bind fun p => .ret (.l p.1, p.2)
   | _ => .no
 | .tup _, _ => .no
 | .fn f l, a => match a with
   | .fn f' vs => bif Nat.beq f f' then (rdXs h l vs).bind fun p => .ret (.l p.1, p.2) else .no
   | _ => .no
 | .pl ks, a => match a with
   | .ysl false nil id z o n => match h.get id with
     | some (.arr false _ z2 n2 f) => bif Nat.beq ks.length z && Nat.beq ks.length z2 then .must (yNle (yNadd o n) n2) (mustCols n (shiftF o f) ks 0 (.ret (.rows nil n (colsOf (shiftF o f) ks 0), []))) else .no
     | _ => .no
   | .sl id off len cap u => match h.get id with
     | some (.cells c _ g) => match sliceA c off (len * ks.length) with
       | some l => bif litOk ks len l && Nat.blt 0 len && roomOk u g ks.length cap len c.length then .ret (.rows false len (colsL ks.length l ks 0), []) else .no
       | none => .no
     | _ => .no
   | a => match lsOf ks.length a with
     | some (nil, n, f) => mustCols n f ks 0 (.ret (.rows nil n (colsOf f ks 0), []))
     | none => .no
 | .mut e ks, a => match a with
   | .ysl false nil id z q n => match h.get id with
     | some (.arr false e' z2 n2 f) => bif Nat.beq e e' && Nat.beq z ks.length && Nat.beq z2 ks.length then .must (yNeq q 0) (.must (yNeq n n2) (mustCols n f ks 0 (.ret (.rows nil n (colsOf f ks 0), [some id])))) else .no
     | _ => .no
   | _ => .no
def rdXs (h : AH) : List Sx → List AV → T (List Dx × List (Option Nat))
 | [], vs => match vs with | [] => .ret ([], []) | _ => .no
 | s :: ss, vs => match vs with
   | a :: l => (rdX h s a).bind fun p => (rdXs h ss l).bind fun q => .ret (p.1 :: q.1, p.2 ++ q.2)
   | [] => .no
end
mutual
/-- Blocks of one's own that a function may read, as_ lists. -/
def lendX (h : AH) : Sx → AV → List Nat
 | .pl _, a => match a with
   | .ysl false _ id _ _ _ => [id]
   | .sl id _ _ _ _ => [id]
   | _ => []
 | .ptr _ l, a => match a with
   | .ptr id _ => match h.get id with
     | some (.cells cs _ _) => lendXs h l cs
     | _ => []
   | _ => []
 | .agg l, a => match a with | .agg vs => lendXs h l vs | _ => []
 | .fn _ l, a => match a with | .fn _ vs => lendXs h l vs | _ => []
 | _, _ => []
def lendXs (h : AH) : List Sx → List AV → List Nat
 | [], _ => []
 | s :: ss, vs => match vs with
   | a :: l => lendX h s a ++ lendXs h ss l
   | [] => []
end
def zL (M : Mp) (w : World) (L : List Nat) (b : Nat) : Option (Array Value) :=
 match M.z b with
 | some cs => some cs
 | none => bif L.any (fun id => match M id with | some (b', _) => Nat.beq b b' | none => false) then cellsW w b else none
theorem zL_le {M : Mp} {w : World} {L : List Nat} {b : Nat} {cs : Array Value} (h : M.z b = some cs) : zL M w L b = some cs := by unfold zL; rw [h]
theorem zL_at {M : Mp} {h : AH} {w : World} {L : List Nat} {id b κ : Nat} {o : AO} {cs : Array Value} {e : TypeId} {fr : Nat × Nat} (r : Rel M h w) (hL : id ∈ L) (hg : h.get id = some o) (hr : o.ro = false) (hM : M id = some (b, κ)) (hb : w.heap[b]? = some (.cells cs e fr)) : zL M w L b = some cs := by
 unfold zL
 rw [r.fo id b κ o hg hr hM]
 have : L.any (fun id => match M id with | some (b', _) => Nat.beq b b' | none => false) = true := List.any_eq_true.2 ⟨id, hL, by rw [hM]; simp⟩
 simp only [this, cond_true, cellsW, hb]
theorem zL_inv {M : Mp} {w : World} {L : List Nat} {b : Nat} {cs : Array Value} (h : zL M w L b = some cs) : M.z b = some cs ∨ ∃ id κ e fr, id ∈ L ∧ M id = some (b, κ) ∧ w.heap[b]? = some (.cells cs e fr) := by
 unfold zL at h
 split at h
 · rename_i cs' hz
   simp only [Option.some.injEq] at h; subst h
   exact .inl hz
 · simp only [Bool.cond_eq_ite] at h
   split at h
   · rename_i ha
     obtain ⟨id, h1, h2⟩ := List.any_eq_true.1 ha
     split at h2
     · rename_i b' κ hM
       obtain rfl := beqN h2
       unfold cellsW at h
       split at h
       · rename_i cs' e fr hb
         simp only [Option.some.injEq] at h; subst h
         exact .inr ⟨id, κ, e, fr, h1, hM, hb⟩
       · cases h
     · cases h2
   · cases h
def MofZ (Z : Nat → Option (Array Value)) (bs : List (Option (Nat × Nat))) : Mp := ⟨(Mof bs).f, Z⟩
theorem MofZ_le {Z : Nat → Option (Array Value)} (bs cs : List (Option (Nat × Nat))) : Le (MofZ Z bs) (MofZ Z (bs ++ cs)) := ⟨(Mof_le bs cs).1, fun _ _ e => e⟩
theorem zle_of {Z : Nat → Option (Array Value)} {M : Mp} {w : World} {L : List Nat} (hZ : Z = zL M w L) (bs : List (Option (Nat × Nat))) : ZLe M (MofZ Z bs) := fun b cs e => by subst hZ; exact zL_le e
theorem zlat_of {Z : Nat → Option (Array Value)} {M : Mp} {h : AH} {w : World} {L : List Nat} {id b κ : Nat} {o : AO} {cs : Array Value} {e : TypeId} {fr : Nat × Nat} {bs : List (Option (Nat × Nat))} (hZ : Z = zL M w L) (r : Rel M h w) (hL : id ∈ L) (hg : h.get id = some o) (hr : o.ro = false) (hM : M id = some (b, κ)) (hb : w.heap[b]? = some (.cells cs e fr)) : (MofZ Z bs).z b = some cs := by
 subst hZ; exact zL_at r hL hg hr hM hb
def BlkX (M : Mp) (h : AH) (w : World) (N : Mp) (ao : AO) (base : Option (Nat × Nat)) (idl : Option Nat) : Prop :=
 (base = none ∧ ao.Vac ∧ (ao.ro = false → ∀ id, idl = some id → M id = none)) ∨ (∃ b κ ob id o κ', base = some (b, κ) ∧ w.heap[b]? = some ob ∧ ObR N κ ao ob ∧ idl = some id ∧ h.get id = some o ∧ M id = some (b, κ') ∧ (ao.ro = false → o.ro = false ∧ κ' = κ)) ∨
   ∃ b κ ob, base = some (b, κ) ∧ w.heap[b]? = some ob ∧ ObR N κ ao ob ∧ idl = none ∧ ao.ro = true ∧ ∃ cs, M.z b = some cs
def BX (M : Mp) (h : AH) (w : World) (N : Mp) : List AO → List (Option (Nat × Nat)) → List (Option Nat) → Prop
 | [], bs, is => bs = [] ∧ is = []
 | a :: l, bs, is => ∃ b bs' i is', bs = b :: bs' ∧ is = i :: is' ∧ BlkX M h w N a b i ∧ BX M h w N l bs' is'
section
variable {P : Program} {M : Mp} {h : AH} {w : World} {Z : Nat → Option (Array Value)} {L : List Nat}
theorem BlkX.mono {N N' : Mp} {a : AO} {b : Option (Nat × Nat)} {i : Option Nat} (hl : Le N N') (k : BlkX M h w N a b i) : BlkX M h w N' a b i := by
 rcases k with k | ⟨b, κ, ob, id, o, κ', h1, h2, h3, h4⟩ | ⟨b, κ, ob, h1, h2, h3, h4⟩
 · exact .inl k
 · exact .inr (.inl ⟨b, κ, ob, id, o, κ', h1, h2, ObR.mono hl _ _ h3, h4⟩)
 · exact .inr (.inr ⟨b, κ, ob, h1, h2, ObR.mono hl _ _ h3, h4⟩)
theorem BX.mono {N N' : Mp} (hl : Le N N') : ∀ {l : List AO} {bs : List (Option (Nat × Nat))} {is : List (Option Nat)}, BX M h w N l bs is → BX M h w N' l bs is
 | [], _, _, k => k
 | _ :: _, _, _, ⟨b, bs', i, is', h1, h2, h3, h4⟩ => ⟨b, bs', i, is', h1, h2, h3.mono hl, h4.mono hl⟩
theorem BX.app {N : Mp} : ∀ {l l2 : List AO} {bs bs2 : List (Option (Nat × Nat))} {is is2 : List (Option Nat)}, BX M h w N l bs is → BX M h w N l2 bs2 is2 → BX M h w N (l ++ l2) (bs ++ bs2) (is ++ is2)
 | [], l2, bs, bs2, is, is2, k, k2 => by obtain ⟨rfl, rfl⟩ := k; exact k2
 | a :: l, l2, _, _, _, _, ⟨b, bs', i, is', rfl, rfl, h3, h4⟩, k2 => ⟨b, _, i, _, rfl, rfl, h3, h4.app k2⟩
theorem BX.len {N : Mp} : ∀ {l : List AO} {bs : List (Option (Nat × Nat))} {is : List (Option Nat)}, BX M h w N l bs is → bs.length = l.length ∧ is.length = l.length
 | [], _, _, ⟨rfl, rfl⟩ => ⟨rfl, rfl⟩
 | a :: l, _, _, ⟨b, bs', i, is', rfl, rfl, _, h4⟩ => by obtain ⟨h1, h2⟩ := h4.len; exact ⟨by simp [h1], by simp [h2]⟩
theorem BX.get {N : Mp} : ∀ {l : List AO} {bs : List (Option (Nat × Nat))} {is : List (Option Nat)} {j : Nat} {a : AO}, BX M h w N l bs is → l[j]? = some a → ∃ b i, bs[j]? = some b ∧ is[j]? = some i ∧ BlkX M h w N a b i
 | [], _, _, j, a, _, e => by simp at e
 | x :: l, _, _, 0, a, ⟨b, bs', i, is', rfl, rfl, h3, _⟩, e => by simp at e; subst e; exact ⟨b, i, rfl, rfl, h3⟩
 | x :: l, _, _, j + 1, a, ⟨b, bs', i, is', rfl, rfl, _, h4⟩, e => by simpa using h4.get (by simpa using e)
theorem Mof_at {bs : List (Option (Nat × Nat))} {o : Option (Nat × Nat)} {n : Nat} (hn : bs.length = n) : (MofZ Z (bs ++ [o])) n = o := by
 subst hn
 unfold MofZ Mof
 simp only
 rw [List.getElem?_append_right (Nat.le_refl _)]
 cases o <;> simp
theorem nthA_none : ∀ {l : List AV} {n : Nat}, nthA l n = none → l.length ≤ n
 | [], n, _ => Nat.zero_le _
 | _ :: l, 0, h => by simp [nthA] at h
 | _ :: l, n + 1, h => Nat.succ_le_succ (nthA_none (l := l) (by simpa [nthA] using h))
theorem idOf_ok {e : TypeId} {ks : List CK} {a : AV} {d : Dc} {p : Addr} {n k : Nat} (e1 : (rdC h (some (e, ks)) a).sel = some d) (hn : n ≠ 0) (ra : a.R M (.slice (some p) n k)) : (∃ id o κ, idOf h a = some id ∧ h.get id = some o ∧ M id = some (p.block, κ)) ∨ (idOf h a = none ∧ ∃ cs, M.z p.block = some cs) := by
 have fz : (∃ b off c cs, Value.slice (some p) n k = Value.slice (some ⟨b, off, none⟩) n c ∧ M.z b = some cs) → ∃ cs, M.z p.block = some cs := fun ⟨b, off, c, cs, h1, h2⟩ => by
   simp only [Value.slice.injEq, Option.some.injEq] at h1
   obtain ⟨rfl, _⟩ := h1; exact ⟨cs, h2⟩
 cases a <;> simp only [AV.R, reduceCtorEq, and_false, exists_false] at ra
 case sl id off len cap u =>
   obtain ⟨b, c, hM, hv⟩ := ra
   simp only [Value.slice.injEq, Option.some.injEq] at hv
   obtain ⟨rfl, _⟩ := hv
   cases hg : h.get id with
   | none => simp [rdC, hg, T.sel] at e1
   | some o => exact .inl ⟨id, o, c, by simp [idOf, hg], hg, hM⟩
 case jk =>
   exfalso
   revert e1
   simp only [rdC]
   cases flatKs ks <;> (intro e1; cases e1)
 case es =>
   obtain ⟨a, c, hv⟩ := ra
   simp only [Value.slice.injEq] at hv
   exact absurd hv.2.1 hn
 case ysl ro nil id z q m =>
   rcases ra with ⟨_, _, hv⟩ | ⟨_, rfl, a, c, hv, _⟩ | ⟨_, b, κ, c, hM, hv, _⟩
   · cases hv
   · simp only [Value.slice.injEq] at hv; exact absurd hv.2.1 hn
   · simp only [Value.slice.injEq, Option.some.injEq] at hv
     obtain ⟨rfl, _⟩ := hv
     cases hg : h.get id with
     | none => simp [rdC, hg, T.sel] at e1
     | some o => exact .inl ⟨id, o, κ, by simp [idOf, hg], hg, hM⟩
 case ye nil =>
   rcases ra with ⟨_, hv⟩ | ⟨_, a, hv⟩
   · cases hv
   · simp only [Value.slice.injEq] at hv; exact absurd hv.2.1 hn
 case lst x nil z m f =>
   rcases ra with ⟨_, _, hv⟩ | ⟨_, rfl, a, c, hv, _⟩ | ⟨_, _, b, off, c, cs, hv, _, _, hz, _⟩
   · cases hv
   · simp only [Value.slice.injEq] at hv; exact absurd hv.2.1 hn
   · refine .inr ⟨rfl, ?_⟩
     simp only [Value.slice.injEq, Option.some.injEq] at hv
     obtain ⟨rfl, _⟩ := hv
     exact ⟨cs, hz⟩
 case lp => obtain ⟨_, _, _, h, _⟩ := ra; exact h.elim
 case ns => cases ra
 case o u => simp [rdC, T.sel] at e1
theorem scalB_toY {a : AV} (h : scalB a = true) : scalB (toY a) = true := by
 cases a <;> simp only [scalB, Bool.false_eq_true] at h <;> rfl
theorem canX_one {a : AV} {ao : AO} {bs : List (Option (Nat × Nat))} {u : Value} {idl : Option Nat} {bl : List AO} (base : Option (Nat × Nat)) (hb : BlkX M h w (MofZ Z (bs ++ [base])) ao base idl) (ra : a.R (MofZ Z (bs ++ [base])) u) :
   ∃ nb bs', bl ++ [ao] = bl ++ nb ∧ BX M h w (MofZ Z (bs ++ bs')) nb bs' [idl] ∧ a.R (MofZ Z (bs ++ bs')) u :=
 ⟨[ao], [base], rfl, ⟨base, [], idl, [], rfl, rfl, hb, rfl, rfl⟩, ra⟩
mutual
theorem rdX_ok (rr : Rel M h w) (hZ : Z = zL M w L) : ∀ (s : Sx) (a : AV) (d : Dx) (is : List (Option Nat)) (u : Value) (bl : List AO) (bs : List (Option (Nat × Nat))), (rdX h s a).sel = some (d, is) → (∀ id ∈ lendX h s a, id ∈ L) → a.R M u → bs.length = bl.length →
   ∃ nb bs', (canX nmI s d bl).2 = bl ++ nb ∧ BX M h w (MofZ Z (bs ++ bs')) nb bs' is ∧ (canX nmI s d bl).1.R (MofZ Z (bs ++ bs')) u
 | .sc, a, d, is, u, bl, bs, e, hd9, ra, hl => by
   simp only [rdX, Bool.cond_eq_ite] at e
   split at e
   · rename_i hs
     have e := T.sel_ret e
     simp only [Prod.mk.injEq] at e
     obtain ⟨rfl, rfl⟩ := e
     exact ⟨[], [], by simp [canX], ⟨rfl, rfl⟩, by simp only [canX, scalB_toY hs, cond_true]; exact (toY_R hs ra).1⟩
   · cases e
 | .ro et ks, a, d, is, u, bl, bs, e, hd9, ra, hl => by
   simp only [rdX] at e
   obtain ⟨d0, e1, e⟩ := T.sel_bind_some e
   split at e
   case h_2 => cases e
   rename_i nil n cols
   have e := T.sel_ret e
   simp only [Prod.mk.injEq] at e
   obtain ⟨rfl, rfl⟩ := e
   have hd := rdC_ok e1 ra rr
   simp only [canX, nmI]
   rcases hd with ⟨rfl, rfl, rfl⟩ | ⟨rfl, p, k, rfl, hnk, hd⟩
   · exact canX_one none (.inl ⟨rfl, rfl, fun e => by cases e⟩) (by simp only [AV.R]; exact .inl ⟨trivial, trivial, trivial⟩)
   · by_cases hn : n = 0
     · subst hn
       exact canX_one none (.inl ⟨rfl, rfl, fun e => by cases e⟩) (by simp only [AV.R]; exact .inr (.inl ⟨trivial, trivial, _, _, rfl, fun e => by simp at e⟩))
     · rcases hd with hd | ⟨b, off, rfl, cs, e', fr, h1, h2⟩
       · exact absurd hd hn
       · have hbk : BlkX M h w (MofZ Z (bs ++ [some (b, off)])) (.arr true et ks.length n (colF cols)) (some (b, off)) (idOf h a) := by
           have ho : ObR (MofZ Z (bs ++ [some (b, off)])) off (.arr true et ks.length n (colF cols)) (.cells cs e' fr) := ⟨cs, e', fr, rfl, fun i hi j hj => by
             obtain ⟨v, r1, r2, r3⟩ := h2 i hi j hj
             exact ⟨v, r1, r2, AV.R.mono (Le_noM _) _ _ r3⟩⟩
           rcases idOf_ok e1 hn ra with ⟨id, o, κ, q1, q2, q3⟩ | ⟨q1, cs2, q2⟩
           · rw [q1]
             exact .inr (.inl ⟨b, off, _, id, o, κ, rfl, h1, ho, rfl, q2, q3, fun e => by cases e⟩)
           · rw [q1]
             exact .inr (.inr ⟨b, off, _, rfl, h1, ho, rfl, rfl, cs2, q2⟩)
         refine canX_one (some (b, off)) hbk ?_
         · simp only [AV.R]
           exact .inr (.inr ⟨trivial, b, off, k, Mof_at hl, by simp, hnk, by omega, fun e => by simp at e⟩)
 | .own et ks, a, d, is, u, bl, bs, e, hd9, ra, hl => by
   simp only [rdX, colsL_eq] at e
   split at e
   · rename_i nil id z q n
     split at e
     · rename_i e' z2 n2 f hg
       simp only [Bool.cond_eq_ite] at e
       split at e
       · rename_i hc
         simp only [Bool.and_eq_true, nbeq, decide_eq_true_eq] at hc
         obtain ⟨⟨rfl, rfl⟩, rfl⟩ := hc
         obtain ⟨h1, e⟩ := T.sel_must e
         obtain ⟨h2, e⟩ := T.sel_must e
         obtain ⟨h3, e⟩ := mustCols_ok e
         have e := T.sel_ret e
         simp only [Prod.mk.injEq] at e
         obtain ⟨rfl, rfl⟩ := e
         simp only [yNeq, decide_eq_true_eq] at h1 h2
         subst h1 h2
         simp only [canX, nmI]
         rcases rr.obj id _ hg with ⟨hv, hM⟩ | ⟨b, κ, ob, hM, hb, hob⟩
         · have hv : n = 0 := hv
           subst hv
           refine canX_one none (.inl ⟨rfl, rfl, fun _ x e => by cases e; exact hM⟩) ?_
           simp only [AV.R] at ra ⊢
           rcases ra with ra | ra | ⟨_, b, κ, c, hM2, _⟩
           · exact .inl ra
           · exact .inr (.inl ra)
           · rw [hM] at hM2; cases hM2
         · refine canX_one (some (b, κ)) (.inr (.inl ⟨b, κ, ob, id, _, κ, rfl, hb, ?_, rfl, hg, hM, fun _ => ⟨rfl, rfl⟩⟩)) ?_
           · obtain ⟨cs, r1, r2, r3, r4⟩ := hob
             refine ⟨cs, r1, r2, r3, fun i hi j hj => ?_⟩
             obtain ⟨v, t1, t2, t3⟩ := r4 i hi j hj
             have := colsOf_R (M' := MofZ Z (bs ++ [some (b, κ)])) (j0 := 0) (.inr (zle_of (M := M) hZ _)) (h3 i hi) hj (by rw [Nat.zero_add]; exact t3)
             exact ⟨v, t1, t2, this.1⟩
           · simp only [AV.R] at ra ⊢
             rcases ra with ra | ra | ⟨r0, b2, κ2, c, hM2, r1⟩
             · exact .inl ra
             · exact .inr (.inl ra)
             · rw [hM] at hM2
               simp only [Option.some.injEq, Prod.mk.injEq] at hM2
               obtain ⟨rfl, rfl⟩ := hM2
               exact .inr (.inr ⟨r0, b, κ, c, Mof_at hl, r1⟩)
       · cases e
     · cases e
   · have e := T.sel_ret e
     simp only [Prod.mk.injEq] at e
     obtain ⟨rfl, rfl⟩ := e
     simp only [canX, nmI]
     exact canX_one none (.inl ⟨rfl, rfl, fun _ x e => by cases e⟩) (by simp only [AV.R] at ra ⊢; exact .inl ⟨trivial, trivial, ra⟩)
   · rename_i nil
     have e := T.sel_ret e
     simp only [Prod.mk.injEq] at e
     obtain ⟨rfl, rfl⟩ := e
     simp only [canX, nmI]
     refine canX_one none (.inl ⟨rfl, rfl, fun _ x e => by cases e⟩) ?_
     simp only [AV.R] at ra ⊢
     rcases ra with ⟨h1, h2⟩ | ⟨h1, a, h2⟩
     · exact .inl ⟨h1, trivial, h2⟩
     · exact .inr (.inl ⟨h1, trivial, a, 0, h2, fun _ => rfl⟩)
   · rename_i id len
     split at e
     · rename_i c e' z hg
       simp only [Bool.cond_eq_ite] at e
       split at e
       · rename_i hc
         simp only [Bool.and_eq_true, nbeq, nblt, decide_eq_true_eq] at hc
         obtain ⟨⟨⟨⟨⟨rfl, rfl⟩, hz⟩, hlen⟩, h0⟩, hlit⟩ := hc
         have e := T.sel_ret e
         simp only [Prod.mk.injEq] at e
         obtain ⟨rfl, rfl⟩ := e
         simp only [canX, nmI]
         simp only [AV.R] at ra
         obtain ⟨b, κ, hM, rfl⟩ := ra
         obtain ⟨ob, hb, vs, rest, rl, rfl, hκ⟩ := Ob_of rr hg hM
         simp only at hκ
         have hvl := RL_length rl
         have hle : len ≤ κ := by
           have : len * ks.length ≤ κ * ks.length := by rw [← hκ, ← hlen, ← hvl]; simp
           exact Nat.le_of_mul_le_mul_right this hz
         refine canX_one (some (b, κ)) (.inr (.inl ⟨b, κ, _, id, _, κ, rfl, hb, ?_, rfl, hg, hM, fun _ => ⟨rfl, rfl⟩⟩)) ?_
         · refine ⟨(vs ++ rest).toArray, rfl, by simpa using hκ, hle, fun i hi j hj => ?_⟩
           have hrow := litOk_row hlit i hi
           have hat : i * ks.length + j < vs.length := by
             rw [hvl, hlen]
             have : (i + 1) * ks.length ≤ len * ks.length := Nat.mul_le_mul_right _ hi
             rw [Nat.add_mul] at this; omega
           obtain ⟨v, t1, t2⟩ : ∃ v, vs[i * ks.length + j]? = some v ∧ (litF ks.length c i j).R M v := by
             cases hn : nthA c (i * ks.length + j) with
             | none => have := nthA_none hn; omega
             | some x =>
               obtain ⟨v, t1, t2⟩ := nthA_get hn rl
               exact ⟨v, t1, by simp only [litF, hn]; exact t2⟩
           have := colsOf_R (M' := MofZ Z (bs ++ [some (b, κ)])) (j0 := 0) (f := litF ks.length c) (.inr (zle_of (M := M) hZ _)) hrow hj (by rw [Nat.zero_add]; exact t2)
           exact ⟨v, by simp [List.getElem?_append_left hat, t1], this.2, this.1⟩
         · simp only [AV.R]
           exact .inr (.inr ⟨trivial, b, κ, κ, Mof_at hl, by simp, hle, h0, fun _ => ⟨by simp, by omega⟩⟩)
       · cases e
     · cases e
   · cases e
 | .ptr t l, a, d, is, u, bl, bs, e, hd9, ra, hl => by
   simp only [rdX] at e
   split at e
   · have e := T.sel_ret e
     simp only [Prod.mk.injEq] at e
     obtain ⟨rfl, rfl⟩ := e
     exact ⟨[], [], by simp [canX], ⟨rfl, rfl⟩, by simpa only [canX, AV.R] using ra⟩
   · rename_i id off
     split at e
     · rename_i cs t' hg
       simp only [Bool.cond_eq_ite] at e
       split at e
       · rename_i hc
         simp only [Bool.and_eq_true, nbeq, decide_eq_true_eq] at hc
         obtain ⟨rfl, rfl⟩ := hc
         obtain ⟨⟨ds, is1⟩, e1, e⟩ := T.sel_bind_some e
         have e := T.sel_ret e
         simp only [Prod.mk.injEq] at e
         obtain ⟨rfl, rfl⟩ := e
         simp only [AV.R] at ra
         obtain ⟨b, κ, hM, rfl⟩ := ra
         obtain ⟨ob, hb, vs, rest, rl, rfl, rfl⟩ := Ob_of rr hg hM
         obtain ⟨nb, bs', q1, q2, q3⟩ := rdXs_ok rr hZ l cs ds is1 vs bl bs e1 (by simpa only [lendX, hg] using hd9) rl hl
         have hlen := q2.len
         have hl2 : (bs ++ bs').length = (bl ++ nb).length := by simp [hl, hlen.1]
         refine ⟨nb ++ [.cells (canXs nmI l ds bl).1 t none], bs' ++ [some (b, κ)], ?_, ?_, ?_⟩
         · simp only [canX]; rw [q1]; simp
         · rw [← List.append_assoc]
           refine (q2.mono (MofZ_le _ _)).app ⟨_, _, _, _, rfl, rfl, .inr (.inl ⟨b, κ, _, id, _, κ, rfl, hb, ?_, rfl, hg, hM, fun _ => ⟨rfl, rfl⟩⟩), rfl, rfl⟩
           exact ⟨vs, [], AV.RL.mono (MofZ_le _ _) _ _ q3, rfl, rfl⟩
         · rw [← List.append_assoc]
           simp only [canX, AV.R]
           rw [q1]
           exact ⟨b, κ, Mof_at hl2, rfl⟩
       · cases e
     · cases e
   · cases e
 | .agg l, a, d, is, u, bl, bs, e, hd9, ra, hl => by
   simp only [rdX] at e
   split at e
   · rename_i vs
     obtain ⟨⟨ds, is1⟩, e1, e⟩ := T.sel_bind_some e
     have e := T.sel_ret e
     simp only [Prod.mk.injEq] at e
     obtain ⟨rfl, rfl⟩ := e
     simp only [AV.R] at ra
     obtain ⟨us, rl, rfl⟩ := ra
     obtain ⟨nb, bs', q1, q2, q3⟩ := rdXs_ok rr hZ l vs ds is1 us bl bs e1 (by simpa only [lendX] using hd9) rl hl
     exact ⟨nb, bs', by simpa only [canX] using q1, q2, by simp only [canX, AV.R]; exact ⟨us, q3, rfl⟩⟩
   · cases e
 | .tup l, a, d, is, u, bl, bs, e, hd9, ra, hl => by simp only [rdX] at e; cases e
 | .fn f l, a, d, is, u, bl, bs, e, hd9, ra, hl => by
   simp only [rdX] at e
   split at e
   · rename_i f' vs
     simp only [Bool.cond_eq_ite, nbeq, decide_eq_true_eq] at e
     split at e
     case isFalse => cases e
     rename_i hf
     subst hf
     obtain ⟨⟨ds, is1⟩, e1, e⟩ := T.sel_bind_some e
     have e := T.sel_ret e
     simp only [Prod.mk.injEq] at e
     obtain ⟨rfl, rfl⟩ := e
     simp only [AV.R] at ra
     obtain ⟨us, rl, rfl⟩ := ra
     obtain ⟨nb, bs', q1, q2, q3⟩ := rdXs_ok rr hZ l vs ds is1 us bl bs e1 (by simpa only [lendX] using hd9) rl hl
     exact ⟨nb, bs', by simpa only [canX] using q1, q2, by simp only [canX, AV.R]; exact ⟨us, q3, rfl⟩⟩
   · cases e
 | .pl ks, a, d, is, u, bl, bs, e, hd9, ra, hl => by
   have hzl : ZLe M (MofZ Z (bs ++ [])) := zle_of hZ _
   have fin : ∀ {nil : Bool} {n : Nat} {f : Nat → Nat → AV}, (∀ i, i < n → rowOk (f i) ks 0 = true) → (d, is) = (Dx.rows nil n (colsOf f ks 0), []) → (AV.lst false nil ks.length n (fun i j => (colF (colsOf f ks 0) i j))).R (MofZ Z (bs ++ [])) u →
       ∃ nb bs', (canX nmI (.pl ks) d bl).2 = bl ++ nb ∧ BX M h w (MofZ Z (bs ++ bs')) nb bs' is ∧ (canX nmI (.pl ks) d bl).1.R (MofZ Z (bs ++ bs')) u := fun {nil n f} hro he r => by
     simp only [Prod.mk.injEq] at he
     obtain ⟨rfl, rfl⟩ := he
     exact ⟨[], [], by simp [canX], ⟨rfl, rfl⟩, by simpa only [canX] using r⟩
   simp only [rdX, colsL_eq] at e
   split at e
   · rename_i nil id z o n
     split at e
     case h_2 => cases e
     rename_i e' z2 n2 f hg
     simp only [Bool.cond_eq_ite] at e
     split at e
     case isFalse => cases e
     rename_i hc
     simp only [Bool.and_eq_true, nbeq, decide_eq_true_eq] at hc
     obtain ⟨rfl, rfl⟩ := hc
     obtain ⟨h1, e⟩ := T.sel_must e
     obtain ⟨h2, e⟩ := mustCols_ok e
     have e := T.sel_ret e
     have h1 : o + n ≤ n2 := of_decide_eq_true h1
     refine fin h2 e.symm ?_
     have hL : id ∈ L := hd9 id (by simp [lendX])
     simp only [AV.R] at ra ⊢
     rcases ra with ra | ⟨r1, r2, a, c, rfl, _⟩ | ⟨r1, b, κ, c, hM, rfl, r2, r3, _⟩
     · exact .inl ra
     · exact .inr (.inl ⟨r1, r2, a, c, rfl, fun e => by cases e⟩)
     · obtain ⟨ob, hb, cs, rfl, _, _, q⟩ := Ob_of rr hg hM
       refine .inr (.inr ⟨r1, r3, b, _, c, cs, rfl, r2, (fun e => by cases e), zlat_of hZ rr hL hg rfl hM hb, fun i hi j hj => ?_⟩)
       obtain ⟨v, q1, q2, q3⟩ := q (o + i) (by omega) j hj
       have := colsOf_R (M' := MofZ Z (bs ++ [])) (j0 := 0) (.inr hzl) (h2 i hi) hj (by rw [shiftF_eq, Nat.zero_add]; exact q3)
       refine ⟨v, ?_, this.2, this.1⟩
       rw [← q1]; congr 1; simp only [Bool.false_eq_true, if_false, Nat.add_mul]; omega
   · rename_i id off len cap un
     split at e
     case h_2 => cases e
     rename_i c et g hg
     split at e
     case h_2 => cases e
     rename_i l hsl
     simp only [Bool.cond_eq_ite] at e
     split at e
     case isFalse => cases e
     rename_i hc
     simp only [Bool.and_eq_true, nblt, decide_eq_true_eq] at hc
     obtain ⟨⟨hlit, hl0⟩, hroom⟩ := hc
     have e := T.sel_ret e
     refine fin (litOk_row hlit) e.symm ?_
     have hL : id ∈ L := hd9 id (by simp [lendX])
     simp only [AV.R] at ra ⊢
     obtain ⟨b, κ, hM, rfl⟩ := ra
     obtain ⟨ob, hb, vs, rest, rl, rfl, hκ⟩ := Ob_of rr hg hM
     have hvl := RL_length rl
     obtain ⟨e1, e2⟩ := sliceA_eq hsl
     have rl2 : AV.RL M l ((vs.drop off).take (len * ks.length)) := by rw [e1]; exact RL_take _ (RL_drop _ rl)
     have hln : l.length = len * ks.length := by rw [e1]; simp; omega
     have hroom2 : len ≤ (if un = true then κ - cap else cap) := by
       unfold roomOk at hroom
       cases un with
       | false => simpa [nble] using hroom
       | true =>
         simp only at hroom
         cases g with
         | none => cases hroom
         | some z' =>
           simp only [Bool.and_eq_true, nbeq, nblt, nble, decide_eq_true_eq] at hroom
           obtain ⟨⟨hz1, hz⟩, hle⟩ := hroom
           subst hz1
           simp only at hκ
           have : (cap + len) * ks.length ≤ κ * ks.length := by
             rw [← hκ]; refine Nat.le_trans hle ?_; rw [← hvl]; simp
           have := Nat.le_of_mul_le_mul_right this hz
           simp only [if_true]; omega
     refine .inr (.inr ⟨trivial, hl0, b, off, _, _, rfl, hroom2, (fun e => by cases e), zlat_of hZ rr hL hg rfl hM hb, fun i hi j hj => ?_⟩)
     have hp := place_lt hi hj
     obtain ⟨a, ha⟩ := nthA_lt (l := l) (k := i * ks.length + j) (by omega)
     obtain ⟨v, q1, q2⟩ := nthA_get ha rl2
     have := colsOf_R (M := M) (M' := MofZ Z (bs ++ [])) (j0 := 0) (f := litF ks.length l) (.inr hzl) (litOk_row hlit i hi) hj (show (litF ks.length l i (0 + j)).R M v by rw [Nat.zero_add]; simp only [litF, ha]; exact q2)
     refine ⟨v, ?_, this.2, this.1⟩
     rw [List.getElem?_take, if_pos hp, List.getElem?_drop] at q1
     have hlt := (List.getElem?_eq_some_iff.1 q1).1
     rw [List.getElem?_toArray, Nat.add_assoc, List.getElem?_append_left hlt]; exact q1
   · split at e
     case h_2 => cases e
     rename_i nil n f hls
     obtain ⟨h2, e⟩ := mustCols_ok e
     have e := T.sel_ret e
     refine fin h2 e.symm ?_
     exact (lst_can hzl (fun i hi j hj u ru => (colsOf_R (j0 := 0) (.inr hzl) (h2 i hi) hj (by rw [Nat.zero_add]; exact ru)).1) (lsOf_R hls ra)).1
 | .mut et ks, a, d, is, u, bl, bs, e, hd9, ra, hl => by
   simp only [rdX] at e
   split at e
   · rename_i nil id z q n
     split at e
     · rename_i e' z2 n2 f hg
       simp only [Bool.cond_eq_ite] at e
       split at e
       · rename_i hc
         simp only [Bool.and_eq_true, nbeq, decide_eq_true_eq] at hc
         obtain ⟨⟨rfl, rfl⟩, rfl⟩ := hc
         obtain ⟨h1, e⟩ := T.sel_must e
         obtain ⟨h2, e⟩ := T.sel_must e
         obtain ⟨h3, e⟩ := mustCols_ok e
         have e := T.sel_ret e
         simp only [Prod.mk.injEq] at e
         obtain ⟨rfl, rfl⟩ := e
         simp only [yNeq, decide_eq_true_eq] at h1 h2
         subst h1 h2
         simp only [canX, nmI]
         rcases rr.obj id _ hg with ⟨hv, hM⟩ | ⟨b, κ, ob, hM, hb, hob⟩
         · have hv : n = 0 := hv
           subst hv
           refine canX_one none (.inl ⟨rfl, rfl, fun _ x e => by cases e; exact hM⟩) ?_
           simp only [AV.R] at ra ⊢
           rcases ra with ra | ra | ⟨_, b, κ, c, hM2, _⟩
           · exact .inl ra
           · exact .inr (.inl ra)
           · rw [hM] at hM2; cases hM2
         · refine canX_one (some (b, κ)) (.inr (.inl ⟨b, κ, ob, id, _, κ, rfl, hb, ?_, rfl, hg, hM, fun _ => ⟨rfl, rfl⟩⟩)) ?_
           · obtain ⟨cs, r1, r2, r3, r4⟩ := hob
             refine ⟨cs, r1, r2, r3, fun i hi j hj => ?_⟩
             obtain ⟨v, t1, t2, t3⟩ := r4 i hi j hj
             have := colsOf_R (M' := MofZ Z (bs ++ [some (b, κ)])) (j0 := 0) (.inr (zle_of (M := M) hZ _)) (h3 i hi) hj (by rw [Nat.zero_add]; exact t3)
             exact ⟨v, t1, t2, this.1⟩
           · simp only [AV.R] at ra ⊢
             rcases ra with ra | ra | ⟨r0, b2, κ2, c, hM2, r1⟩
             · exact .inl ra
             · exact .inr (.inl ra)
             · rw [hM] at hM2
               simp only [Option.some.injEq, Prod.mk.injEq] at hM2
               obtain ⟨rfl, rfl⟩ := hM2
               exact .inr (.inr ⟨r0, b, κ, c, Mof_at hl, r1⟩)
       · cases e
     · cases e
   · cases e
theorem rdXs_ok (rr : Rel M h w) (hZ : Z = zL M w L) : ∀ (ss : List Sx) (vs : List AV) (ds : List Dx) (is : List (Option Nat)) (us : List Value) (bl : List AO) (bs : List (Option (Nat × Nat))), (rdXs h ss vs).sel = some (ds, is) → (∀ id ∈ lendXs h ss vs, id ∈ L) → AV.RL M vs us → bs.length = bl.length →
   ∃ nb bs', (canXs nmI ss ds bl).2 = bl ++ nb ∧ BX M h w (MofZ Z (bs ++ bs')) nb bs' is ∧ AV.RL (MofZ Z (bs ++ bs')) (canXs nmI ss ds bl).1 us
 | [], vs, ds, is, us, bl, bs, e, hd9, ra, hl => by
   simp only [rdXs] at e
   split at e
   · have e := T.sel_ret e
     simp only [Prod.mk.injEq] at e
     obtain ⟨rfl, rfl⟩ := e
     exact ⟨[], [], by simp [canXs], ⟨rfl, rfl⟩, ra⟩
   · cases e
 | s :: ss, vs, ds, is, us, bl, bs, e, hd9, ra, hl => by
   simp only [rdXs] at e
   split at e
   · rename_i a l
     obtain ⟨⟨d, i1⟩, e1, e⟩ := T.sel_bind_some e
     obtain ⟨⟨ds', i2⟩, e2, e⟩ := T.sel_bind_some e
     have e := T.sel_ret e
     simp only [Prod.mk.injEq] at e
     obtain ⟨rfl, rfl⟩ := e
     simp only [AV.RL] at ra
     obtain ⟨v, vs', r1, r2, rfl⟩ := ra
     obtain ⟨nb1, bs1, q1, q2, q3⟩ := rdX_ok rr hZ s a d i1 v bl bs e1 (fun id hi => hd9 id (by simp only [lendXs]; exact List.mem_append_left _ hi)) r1 hl
     have hlen := q2.len
     obtain ⟨nb2, bs2, p1, p2, p3⟩ := rdXs_ok rr hZ ss l ds' i2 vs' (bl ++ nb1) (bs ++ bs1) e2 (fun id hi => hd9 id (by simp only [lendXs]; exact List.mem_append_right _ hi)) r2 (by simp [hl, hlen.1])
     refine ⟨nb1 ++ nb2, bs1 ++ bs2, ?_, ?_, ?_⟩
     · simp only [canXs]; rw [q1, p1, List.append_assoc]
     · rw [← List.append_assoc]; exact (q2.mono (MofZ_le _ _)).app p2
     · rw [← List.append_assoc]
       simp only [canXs, AV.RL]
       rw [q1]
       exact ⟨v, vs', AV.R.mono (MofZ_le _ _) _ _ q3, p3, rfl⟩
   · cases e
end
end
/-! The heap of what is handed in. -/
def memI (id : Nat) : List (Option Nat) → Bool
 | [] => false
 | i :: is => (match i with | some j => Nat.beq id j | none => false) || memI id is
def memO (id : Nat) : List AO → List (Option Nat) → Bool
 | a :: l, i :: is => (!a.ro && (match i with | some j => Nat.beq id j | none => false)) || memO id l is
 | _, _ => false
def okIds : List AO → List (Option Nat) → Bool
 | a :: l, i :: is => (match i with | none => true | some id => bif a.ro then !memO id l is else !memI id is) && okIds l is
 | _, _ => true
theorem memI_at {id : Nat} : ∀ {is : List (Option Nat)} {j : Nat}, is[j]? = some (some id) → memI id is = true
 | [], j, h => by simp at h
 | i :: is, 0, h => by simp at h; subst h; simp [memI]
 | i :: is, j + 1, h => by simp only [memI, Bool.or_eq_true]; exact .inr (memI_at (by simpa using h))
theorem memO_at {id : Nat} : ∀ {l : List AO} {is : List (Option Nat)} {j : Nat} {a : AO}, l[j]? = some a → is[j]? = some (some id) → a.ro = false → memO id l is = true
 | [], is, j, a, h, _, _ => by simp at h
 | _ :: _, [], j, a, _, h, _ => by simp at h
 | x :: l, i :: is, 0, a, h, h2, h3 => by simp at h h2; subst h h2; simp [memO, h3]
 | x :: l, i :: is, j + 1, a, h, h2, h3 => by simp only [memO, Bool.or_eq_true]; exact .inr (memO_at (by simpa using h) (by simpa using h2) h3)
theorem okIds_inj {id : Nat} : ∀ {l : List AO} {is : List (Option Nat)} {i j : Nat} {a b : AO}, okIds l is = true → l[i]? = some a → is[i]? = some (some id) → l[j]? = some b → is[j]? = some (some id) → a.ro = false → i = j
 | [], is, i, j, a, b, _, h, _, _, _, _ => by simp at h
 | _ :: _, [], i, j, a, b, _, _, h, _, _, _ => by simp at h
 | x :: l, y :: is, i, j, a, b, ok, h1, h2, h3, h4, hr => by
   simp only [okIds, Bool.and_eq_true] at ok
   cases i with
   | zero =>
     cases j with
     | zero => rfl
     | succ j =>
       simp at h1 h2 h3 h4; subst h1 h2
       have := ok.1
       simp only [hr, cond_false, memI_at h4, Bool.not_true, Bool.false_eq_true] at this
   | succ i =>
     cases j with
     | zero =>
       simp at h1 h2 h3 h4; subst h3 h4
       have := ok.1
       cases hx : x.ro with
       | true => simp only [hx, cond_true, memO_at h1 h2 hr, Bool.not_true, Bool.false_eq_true] at this
       | false => simp only [hx, cond_false, memI_at h2, Bool.not_true, Bool.false_eq_true] at this
     | succ j => exact congrArg Nat.succ (okIds_inj (id := id) (l := l) (is := is) (a := a) (b := b) ok.2 (by simpa using h1) (by simpa using h2) (by simpa using h3) (by simpa using h4) hr)
def okLend (bl : List AO) (is : List (Option Nat)) (h : AH) : List Nat → Bool
 | [] => true
 | id :: l => (match h.get id with | some o => !o.ro | none => false) && !memO id bl is && okLend bl is h l
theorem okLend_at {bl : List AO} {is : List (Option Nat)} {h : AH} : ∀ {L : List Nat}, okLend bl is h L = true → ∀ id ∈ L, (∃ o, h.get id = some o ∧ o.ro = false) ∧ memO id bl is = false
 | [], _, id, hi => by simp at hi
 | x :: l, ok, id, hi => by
   simp only [okLend, Bool.and_eq_true, Bool.not_eq_true'] at ok
   rcases List.mem_cons.1 hi with rfl | hi
   · refine ⟨?_, ok.1.2⟩
     have h1 := ok.1.1
     split at h1
     · rename_i o ho; exact ⟨o, ho, by simpa using h1⟩
     · cases h1
   · exact okLend_at ok.2 id hi
section
variable {M : Mp} {h : AH} {w : World} {Z : Nat → Option (Array Value)} {L : List Nat}
theorem heapOf_relX (hZ : Z = zL M w L) {bl : List AO} {bs : List (Option (Nat × Nat))} {is : List (Option Nat)} (k : BX M h w (MofZ Z bs) bl bs is) (ok : okIds bl is = true) (okl : okLend bl is h L = true) (rr : Rel M h w) (hl : bl.length < 4294967296) : Rel (MofZ Z bs) (heapOf bl) w ∧ FreshA (MofZ Z bs) (heapOf bl).nx := by
 have key : ∀ id o, (heapOf bl).get id = some o → ∃ b i, bs[id]? = some b ∧ is[id]? = some i ∧ bl[id]? = some o ∧ BlkX M h w (MofZ Z bs) o b i := fun id o e => by
   rw [heapOf_get hl] at e
   obtain ⟨b, i, h1, h2, h3⟩ := k.get e
   exact ⟨b, i, h1, h2, e, h3⟩
 have hM : ∀ id b, bs[id]? = some b → MofZ Z bs id = b := fun id b e => by unfold MofZ Mof; simp only [e]; cases b <;> rfl
 refine ⟨⟨fun id o e => ?_, fun i j b κ κ' o hi hr hj e1 e2 => ?_, fun x hx => ?_, rr.gw, fun x b κ o hx hro e => ?_, fun b cs e => ?_, fun i b κ o hi hr e => ?_⟩, fun id hid => ?_⟩
 · obtain ⟨b, i, h1, _, _, h2⟩ := key id o e
   rcases h2 with ⟨rfl, h3, _⟩ | ⟨bk, κ, ob, _, _, _, rfl, h3, h4, _⟩ | ⟨bk, κ, ob, rfl, h3, h4, _⟩
   · exact .inl ⟨h3, hM _ _ h1⟩
   · exact .inr ⟨bk, κ, ob, hM _ _ h1, h3, h4⟩
   · exact .inr ⟨bk, κ, ob, hM _ _ h1, h3, h4⟩
 · obtain ⟨b1, i1, h1, h2, h3, h4⟩ := key i o hi
   cases hjj : (heapOf bl).get j with
   | none => exact absurd hjj hj
   | some oj =>
     obtain ⟨b2, i2, g1, g2, g3, g4⟩ := key j oj hjj
     rw [hM _ _ h1] at e1
     rw [hM _ _ g1] at e2
     subst e1 e2
     rcases h4 with ⟨e, _⟩ | ⟨_, _, _, id1, o1, κ1, e, _, _, rfl, t1, t2, t3⟩ | ⟨_, _, _, _, _, _, _, t1, _⟩
     · cases e
     rotate_left
     · rw [hr] at t1; cases t1
     · rcases g4 with ⟨e', _⟩ | ⟨_, _, _, id2, o2, κ2, e', _, _, rfl, u1, u2, _⟩ | ⟨_, _, _, e', _, _, _, _, cs, u2⟩
       · cases e'
       rotate_left
       · simp only [Option.some.injEq, Prod.mk.injEq] at e e'
         obtain ⟨rfl, rfl⟩ := e
         obtain ⟨rfl, rfl⟩ := e'
         have := rr.fo id1 b κ1 o1 t1 (t3 hr).1 t2
         rw [this] at u2; cases u2
       · simp only [Option.some.injEq, Prod.mk.injEq] at e e'
         obtain ⟨rfl, rfl⟩ := e
         obtain ⟨rfl, rfl⟩ := e'
         have := rr.inj id1 id2 b _ _ o1 t1 (t3 hr).1 (by rw [u1]; simp) t2 u2
         subst this
         exact okIds_inj ok h3 h2 g3 g2 hr
 · rw [heapOf_get hl] at hx
   show x < bl.length
   cases hh : bl[x]? with
   | none => exact absurd hh hx
   | some _ => exact (List.getElem?_eq_some_iff.1 hh).1
 · obtain ⟨b', i, h1, _, _, h2⟩ := key x o hx
   rw [hM _ _ h1] at e
   subst e
   rcases h2 with ⟨e, _⟩ | ⟨_, _, _, id1, o1, κ1, e, _, _, _, t1, t2, t3⟩ | ⟨_, _, _, _, _, _, _, t, _⟩
   · cases e
   · simp only [Option.some.injEq, Prod.mk.injEq] at e
     obtain ⟨rfl, rfl⟩ := e
     exact rr.gf id1 b κ1 o1 t1 (t3 hro).1 t2
   · rw [t] at hro; cases hro
 · subst hZ
   rcases zL_inv e with e | ⟨id, κ, t, fr, h1, h2, h3⟩
   · exact rr.fz b cs e
   · obtain ⟨⟨o, h4, h5⟩, _⟩ := okLend_at okl id h1
     exact ⟨t, fr, h3⟩
 · obtain ⟨b1, i1, h1, h2, h3, h4⟩ := key i o hi
   rw [hM _ _ h1] at e
   subst e
   rcases h4 with ⟨e, _⟩ | ⟨_, _, _, id1, o1, κ1, e, _, _, rfl, t1, t2, t3⟩ | ⟨_, _, _, _, _, _, _, t1, _⟩
   · cases e
   · simp only [Option.some.injEq, Prod.mk.injEq] at e
     obtain ⟨rfl, rfl⟩ := e
     show Z b = none
     cases hz : Z b with
     | none => rfl
     | some cs =>
       exfalso
       subst hZ
       rcases zL_inv hz with e | ⟨id, κ', t, fr, g1, g2, g3⟩
       · have := rr.fo id1 b κ1 o1 t1 (t3 hr).1 t2
         rw [this] at e; cases e
       · obtain ⟨⟨o4, g4, g5⟩, g6⟩ := okLend_at okl id g1
         have := rr.inj id id1 b _ _ o4 g4 g5 (by rw [t1]; simp) g2 t2
         subst this
         rw [memO_at h3 h2 hr] at g6; cases g6
   · rw [hr] at t1; cases t1
 · have hid : bl.length ≤ id := hid
   unfold MofZ Mof
   simp only
   rw [List.getElem?_eq_none (by rw [k.len.1]; exact hid)]
theorem ownX {bl : List AO} {bs : List (Option (Nat × Nat))} {is : List (Option Nat)} (k : BX M h w (MofZ Z bs) bl bs is) (hl : bl.length < 4294967296) {b : Nat} (ho : OwnP (MofZ Z bs) (heapOf bl) b) :
   ∃ (i : Nat) (a : AO) (id : Nat) (o : AO) (κ : Nat), bl[i]? = some a ∧ a.ro = false ∧ is[i]? = some (some id) ∧ h.get id = some o ∧ o.ro = false ∧ M id = some (b, κ) := by
 obtain ⟨i, κ, a, h1, h2, h3⟩ := ho
 rw [heapOf_get hl] at h1
 obtain ⟨b', idl, g1, g2, g3⟩ := k.get h1
 unfold MofZ Mof at h3
 simp only [g1] at h3
 rcases g3 with ⟨rfl, _⟩ | ⟨_, _, _, id, o, κ', rfl, _, _, rfl, t1, t2, t3⟩ | ⟨_, _, _, _, _, _, _, t1, _⟩
 · cases h3
 rotate_left
 · rw [h2] at t1; cases t1
 · simp only [Option.some.injEq, Prod.mk.injEq] at h3
   obtain ⟨rfl, rfl⟩ := h3
   exact ⟨i, a, id, o, κ', h1, h2, g2, t1, (t3 h2).1, t2⟩
end
/-! The same data, by other numbers. -/
section
variable {N N' : Mp} {c : Col}
def SH (N N' : Mp) (a a' : AO) : Prop := a'.ro = a.ro ∧ (a.Vac → a'.Vac) ∧ ∀ κ ob, ObR N κ a ob → ObR N' κ a' ob
def SHL (N N' : Mp) (l l' : List AO) : Prop := l.length = l'.length ∧ ∀ (j : Nat) (a : AO), l[j]? = some a → ∃ a', l'[j]? = some a' ∧ SH N N' a a'
theorem SHL.snoc {l l' : List AO} {a a' : AO} (h : SHL N N' l l') (k : SH N N' a a') : SHL N N' (l ++ [a]) (l' ++ [a']) := by
 refine ⟨by simp [h.1], fun j x hj => ?_⟩
 rw [List.getElem?_append] at hj ⊢
 rw [← h.1]
 split at hj
 · rename_i hlt; rw [if_pos hlt]; exact h.2 j x hj
 · rename_i hlt
   rw [if_neg hlt]
   have : j - l.length = 0 := by
     have := (List.getElem?_eq_some_iff.1 hj).1
     simp at this; omega
   rw [this] at hj ⊢
   simp at hj; subst hj
   exact ⟨a', rfl, k⟩
def flatC (c : Col) : Bool := match c with | .ls _ _ _ => false | _ => true
def flatCs : List Col → Bool
 | [] => true
 | c :: l => flatC c && flatCs l
mutual
/-- Data without lists, so far as_ these are frozen. -/
def flatX : Sx → Dx → Bool
 | .sc, _ => true
 | .ro _ _, d => match d with | .rows _ _ cols => flatCs cols | _ => true
 | .own _ _, d => match d with | .rows _ _ cols => flatCs cols | _ => true
 | .ptr _ l, d => match d with | .l ds => flatXs l ds | _ => true
 | .agg l, d => match d with | .l ds => flatXs l ds | _ => true
 | .tup l, d => match d with | .l ds => flatXs l ds | _ => true
 | .fn _ l, d => match d with | .l ds => flatXs l ds | _ => true
 | .pl _, _ => false
 | .mut _ _, d => match d with | .rows _ _ cols => flatCs cols | _ => true
def flatXs : List Sx → List Dx → Bool
 | [], _ => true
 | s :: ss, ds => match ds with | d :: ds' => flatX s d && flatXs ss ds' | [] => true
end
theorem cl2_sc : ∀ {l : List Cl2} {i p j : Nat} {v : Value}, (cl2F l i p j).R N v → (cl2F l i p j).R N' v
 | [], _, _, _, _, r => r
 | c :: l, i, p, 0, v, r => by cases c <;> exact r
 | c :: l, i, p, j + 1, v, r => cl2_sc (l := l) r
theorem col_sc (hz : ZLe N N' ∨ flatC c = true) {i : Nat} {v : Value} (r : (Col.at c i).R N v) : (Col.at c i).R N' v := by
 cases c with
 | ls nil n l =>
   rcases hz with hz | hz
   · exact (lst_can hz (fun _ _ _ _ _ r => cl2_sc r) r).1
   · cases hz
 | int => exact r
 | bool => exact r
 | str => exact r
theorem cols_sc : ∀ {l : List Col}, (ZLe N N' ∨ flatCs l = true) → ∀ {i j : Nat} {v : Value}, (colF l i j).R N v → (colF l i j).R N' v
 | [], _, _, _, _, r => r
 | c :: l, hz, i, j, v, r => by
   have hz1 : ZLe N N' ∨ flatC c = true := hz.imp id (fun e => by simp only [flatCs, Bool.and_eq_true] at e; exact e.1)
   have hz2 : ZLe N N' ∨ flatCs l = true := hz.imp id (fun e => by simp only [flatCs, Bool.and_eq_true] at e; exact e.2)
   cases j with
   | zero => exact col_sc hz1 r
   | succ j => exact cols_sc hz2 (j := j) r
theorem SH_arr {ro : Bool} {e : TypeId} {z n : Nat} {cols : List Col} (hz : ZLe N N' ∨ flatCs cols = true) : SH N N' (.arr ro e z n (colF cols)) (.arr ro e z n (colF cols)) := by
 refine ⟨rfl, fun h => h, fun κ ob h => ?_⟩
 cases ro with
 | true =>
   obtain ⟨cs, e, fr, h1, h2⟩ := h
   exact ⟨cs, e, fr, h1, fun i hi j hj => by obtain ⟨v, q1, q2, q3⟩ := h2 i hi j hj; exact ⟨v, q1, q2, cols_sc hz q3⟩⟩
 | false =>
   obtain ⟨cs, h1, h2, h3, h4⟩ := h
   exact ⟨cs, h1, h2, h3, fun i hi j hj => by obtain ⟨v, q1, q2, q3⟩ := h4 i hi j hj; exact ⟨v, q1, q2, cols_sc hz q3⟩⟩
mutual
theorem canX_le (x : Nat → Nat) : ∀ (s : Sx) (d : Dx) (bl : List AO), bl.length ≤ (canX x s d bl).2.length
 | .sc, d, bl => by simp only [canX]; split <;> exact Nat.le_refl _
 | .ro _ _, d, bl => by simp only [canX]; split <;> simp
 | .own _ _, d, bl => by simp only [canX]; split <;> simp
 | .ptr t l, d, bl => by
   simp only [canX]
   split
   · rename_i ds
     have := canXs_le x l ds bl
     simp only [List.length_append]; omega
   · exact Nat.le_refl _
 | .agg l, d, bl => by
   simp only [canX]
   split
   · rename_i ds; exact canXs_le x l ds bl
   · exact Nat.le_refl _
 | .tup l, d, bl => by
   simp only [canX]
   split
   · rename_i ds; exact canXs_le x l ds bl
   · exact Nat.le_refl _
 | .fn f l, d, bl => by
   simp only [canX]
   split
   · rename_i ds; exact canXs_le x l ds bl
   · exact Nat.le_refl _
 | .pl _, d, bl => by simp only [canX]; split <;> exact Nat.le_refl _
 | .mut _ _, d, bl => by simp only [canX]; split <;> simp
theorem canXs_le (x : Nat → Nat) : ∀ (ss : List Sx) (ds : List Dx) (bl : List AO), bl.length ≤ (canXs x ss ds bl).2.length
 | [], ds, bl => by simp [canXs]
 | s :: ss, ds, bl => by
   simp only [canXs]
   split
   · rename_i d ds'
     exact Nat.le_trans (canX_le x s d bl) (canXs_le x ss ds' _)
   · exact Nat.le_refl _
end
end
end Go.Proofs.YtinijejfhmcmdaaDoor.Ex
end
section
namespace Go.Proofs.YtinijejfhmcmdaaDoor.Ex
open Go
section
variable {N N' : Mp}
mutual
theorem canX_shift {L : Nat} {x1 x2 : Nat → Nat} (hN : ∀ j p, j < L → N (x1 j) = some p → N' (x2 j) = some p) : ∀ (s : Sx) (d : Dx) (b1 b2 : List AO), (ZLe N N' ∨ flatX s d = true) → (canX x1 s d b1).2.length ≤ L → SHL N N' b1 b2 → SHL N N' (canX x1 s d b1).2 (canX x2 s d b2).2 ∧ ∀ u, (canX x1 s d b1).1.R N u → (canX x2 s d b2).1.R N' u
 | .sc, d, b1, b2, hz, hL, hs => by
   simp only [canX] at hL ⊢
   cases d <;> simp only [] at hL ⊢
   case v a =>
     refine ⟨hs, fun u r => ?_⟩
     cases hb : scalB a with
     | true => rw [hb] at r; exact (scalB_R hb r).1
     | false => rw [hb] at r; exact r
   all_goals exact ⟨hs, fun u r => r⟩
 | .ro e ks, d, b1, b2, hz, hL, hs => by
   simp only [canX] at hL ⊢
   cases d <;> simp only [] at hL ⊢
   case rows nil n cols =>
     refine ⟨hs.snoc (SH_arr (hz.imp id (fun e => by simpa only [flatX] using e))), fun u r => ?_⟩
     simp only [List.length_append, List.length_singleton] at hL
     simp only [AV.R] at r ⊢
     rcases r with r | r | ⟨h1, b, κ, c, hM, r⟩
     · exact .inl r
     · exact .inr (.inl r)
     · exact .inr (.inr ⟨h1, b, κ, c, by rw [← hs.1]; exact hN _ _ (by omega) hM, r⟩)
   all_goals exact ⟨hs, fun u r => r⟩
 | .own e ks, d, b1, b2, hz, hL, hs => by
   simp only [canX] at hL ⊢
   cases d <;> simp only [] at hL ⊢
   case rows nil n cols =>
     refine ⟨hs.snoc (SH_arr (hz.imp id (fun e => by simpa only [flatX] using e))), fun u r => ?_⟩
     simp only [List.length_append, List.length_singleton] at hL
     simp only [AV.R] at r ⊢
     rcases r with r | r | ⟨h1, b, κ, c, hM, r⟩
     · exact .inl r
     · exact .inr (.inl r)
     · exact .inr (.inr ⟨h1, b, κ, c, by rw [← hs.1]; exact hN _ _ (by omega) hM, r⟩)
   all_goals exact ⟨hs, fun u r => r⟩
 | .ptr t l, d, b1, b2, hz, hL, hs => by
   simp only [canX] at hL ⊢
   cases d <;> simp only [] at hL ⊢
   case l ds =>
     simp only [List.length_append, List.length_singleton] at hL
     obtain ⟨h1, h2⟩ := canXs_shift hN l ds b1 b2 (hz.imp id (fun e => by simpa only [flatX] using e)) (by omega) hs
     refine ⟨h1.snoc ⟨rfl, fun h => h, fun κ ob h => ?_⟩, fun u r => ?_⟩
     · obtain ⟨vs, rest, r1, r2⟩ := h
       exact ⟨vs, rest, h2 _ r1, r2⟩
     · simp only [AV.R] at r ⊢
       obtain ⟨b, c, hM, r⟩ := r
       exact ⟨b, c, by rw [← h1.1]; exact hN _ _ (by omega) hM, r⟩
   all_goals exact ⟨hs, fun u r => r⟩
 | .agg l, d, b1, b2, hz, hL, hs => by
   simp only [canX] at hL ⊢
   cases d <;> simp only [] at hL ⊢
   case l ds =>
     obtain ⟨h1, h2⟩ := canXs_shift hN l ds b1 b2 (hz.imp id (fun e => by simpa only [flatX] using e)) hL hs
     refine ⟨h1, fun u r => ?_⟩
     simp only [AV.R] at r ⊢
     obtain ⟨vs, r1, r2⟩ := r
     exact ⟨vs, h2 _ r1, r2⟩
   all_goals exact ⟨hs, fun u r => r⟩
 | .tup l, d, b1, b2, hz, hL, hs => by
   simp only [canX] at hL ⊢
   cases d <;> simp only [] at hL ⊢
   case l ds =>
     obtain ⟨h1, h2⟩ := canXs_shift hN l ds b1 b2 (hz.imp id (fun e => by simpa only [flatX] using e)) hL hs
     refine ⟨h1, fun u r => ?_⟩
     simp only [AV.R] at r ⊢
     obtain ⟨vs, r1, r2⟩ := r
     exact ⟨vs, h2 _ r1, r2⟩
   all_goals exact ⟨hs, fun u r => r⟩
 | .fn f l, d, b1, b2, hz, hL, hs => by
   simp only [canX] at hL ⊢
   cases d <;> simp only [] at hL ⊢
   case l ds =>
     obtain ⟨h1, h2⟩ := canXs_shift hN l ds b1 b2 (hz.imp id (fun e => by simpa only [flatX] using e)) hL hs
     refine ⟨h1, fun u r => ?_⟩
     simp only [AV.R] at r ⊢
     obtain ⟨vs, r1, r2⟩ := r
     exact ⟨vs, h2 _ r1, r2⟩
   all_goals exact ⟨hs, fun u r => r⟩
 | .pl ks, d, b1, b2, hz, hL, hs => by
   simp only [canX] at hL ⊢
   cases d <;> simp only [] at hL ⊢
   case rows nil n cols =>
     refine ⟨hs, fun u r => ?_⟩
     rcases hz with hz | hz
     · exact (lst_can hz (fun _ _ _ _ _ r => cols_sc (.inl hz) r) r).1
     · simp [flatX] at hz
   all_goals exact ⟨hs, fun u r => r⟩
 | .mut e ks, d, b1, b2, hz, hL, hs => by
   simp only [canX] at hL ⊢
   cases d <;> simp only [] at hL ⊢
   case rows nil n cols =>
     refine ⟨hs.snoc (SH_arr (hz.imp id (fun e => by simpa only [flatX] using e))), fun u r => ?_⟩
     simp only [List.length_append, List.length_singleton] at hL
     simp only [AV.R] at r ⊢
     rcases r with r | r | ⟨h1, b, κ, c, hM, r⟩
     · exact .inl r
     · exact .inr (.inl r)
     · exact .inr (.inr ⟨h1, b, κ, c, by rw [← hs.1]; exact hN _ _ (by omega) hM, r⟩)
   all_goals exact ⟨hs, fun u r => r⟩
theorem canXs_shift {L : Nat} {x1 x2 : Nat → Nat} (hN : ∀ j p, j < L → N (x1 j) = some p → N' (x2 j) = some p) : ∀ (ss : List Sx) (ds : List Dx) (b1 b2 : List AO), (ZLe N N' ∨ flatXs ss ds = true) → (canXs x1 ss ds b1).2.length ≤ L → SHL N N' b1 b2 → SHL N N' (canXs x1 ss ds b1).2 (canXs x2 ss ds b2).2 ∧ ∀ us, AV.RL N (canXs x1 ss ds b1).1 us → AV.RL N' (canXs x2 ss ds b2).1 us
 | [], ds, b1, b2, hz, hL, hs => by simp only [canXs]; exact ⟨hs, fun us r => r⟩
 | s :: ss, ds, b1, b2, hz, hL, hs => by
   simp only [canXs] at hL ⊢
   cases ds with
   | nil => exact ⟨hs, fun us r => r⟩
   | cons d ds' =>
     simp only at hL ⊢
     obtain ⟨h1, h2⟩ := canX_shift hN s d b1 b2 (hz.imp id (fun e => by simp only [flatXs, Bool.and_eq_true] at e; exact e.1)) (Nat.le_trans (canXs_le x1 ss ds' _) hL) hs
     obtain ⟨h3, h4⟩ := canXs_shift hN ss ds' _ _ (hz.imp id (fun e => by simp only [flatXs, Bool.and_eq_true] at e; exact e.2)) hL h1
     refine ⟨h3, fun us r => ?_⟩
     simp only [AV.RL] at r ⊢
     obtain ⟨v, vs, r1, r2, r3⟩ := r
     exact ⟨v, vs, h2 _ r1, h4 _ r2, r3⟩
end
end
/-! What comes back. -/
inductive Px where
 | st (t : TypeId) (l : List Sx)
 | ar (e : TypeId) (ks : List CK)
def ptrSh : List Sx → List Dx → List Px
 | [], _ => []
 | s :: ss, ds => match ds with
   | [] => []
   | d :: ds' => match s, d with
     | .ptr t l, .l _ => .st t l :: ptrSh ss ds'
     | .mut e ks, .rows _ _ _ => .ar e ks :: ptrSh ss ds'
     | _, _ => ptrSh ss ds'
def ptrId : List Sx → List AV → List Nat
 | [], _ => []
 | s :: ss, vs => match vs with
   | [] => []
   | a :: l => match s, a with
     | .ptr _ _, .ptr id _ => id :: ptrId ss l
     | .mut _ _, .ysl _ _ id _ _ _ => id :: ptrId ss l
     | _, _ => ptrId ss l
def expP (x0 : Nat → Nat) : List Px → List (List Dx) → List AO → List AO × List AO
 | [], _, bl => ([], bl)
 | p :: ps, dss, bl => match dss with
   | [] => ([], bl)
   | ds :: dss' => match p with
     | .st t l => match canXs x0 l ds bl with | (vs, bl1) => match expP x0 ps dss' bl1 with | (cs, bl2) => (.cells vs t none :: cs, bl2)
     | .ar e ks => match expP x0 ps dss' bl with | (cs, bl2) => ((match ds with | [.rows _ n cols] => .arr false e ks.length n (colF cols) | _ => .arr true e ks.length 0 (colF [])) :: cs, bl2)
def expR (x0 : Nat → Nat) (ps : List Px) (rs : Sx) (r : Dx) (post : List (List Dx)) : AV × List AO × List AO :=
 match expP x0 ps post [] with
 | (cs, bl1) => match canX x0 rs r bl1 with | (v, bl2) => (v, cs, bl2)
def numR : Nat → List AO → List (Nat × AO) → List (Nat × AO)
 | _, [], acc => acc
 | k, a :: l, acc => numR (Nat.succ k) l ((k, a) :: acc)
def delX : Nat → List AO → List Nat → List Nat
 | _, [], _ => []
 | k, a :: l, ps => bif a.ro || memN k ps then delX (Nat.succ k) l ps else k :: delX (Nat.succ k) l ps
def remX : List AO → List (Option Nat) → List Nat → List Nat
 | a :: l, i :: is, ps => match i with
   | some id => bif a.ro || memN id ps then remX l is ps else id :: remX l is ps
   | none => remX l is ps
 | _, _, _ => []
def linkB (bl : List AO) (is : List (Option Nat)) (h : AH) : List Nat → List Nat → Bool
 | [], ps => match ps with | [] => true | _ => false
 | c :: cs, ps => match ps with
   | p :: ps' => (match is[c]? with | some (some q) => Nat.beq q p | _ => false) && (match bl[c]? with | some a => !a.ro | none => false) && (match h.get p with | some _ => true | none => false) && linkB bl is h cs ps'
   | [] => false
def postX (k : Nat) (del pids : List Nat) (E : AV × List AO × List AO) (v : AV) (h : AH) : Prop :=
 match E with
 | (c, cs, bl) => cmpV k h c v [] fun ρ => cmpHs k h (pids.zip cs ++ numR k bl []) ρ fun ρ => (okR k (k + bl.length) del ρ && okFz h ρ) = true
def allOwn : List AO → Bool
 | [] => true
 | a :: l => !a.ro && allOwn l
def heapX (h : AH) (rem pids : List Nat) (cs nb : List AO) : AH :=
 ⟨setQs (setQs (setQs h.t (rem.map fun d => (d, none))) ((pids.zip cs).map fun p => (p.1, some p.2))) (numL h.nx nb), h.nx + nb.length, h.bs, filtLt h.bs (rem ++ pids) ++ h.wl⟩
def flatP : List Px → List (List Dx) → Bool
 | [], _ => true
 | p :: ps, dss => match dss with
   | ds :: dss' => (match p with | .st _ l => flatXs l ds | .ar _ _ => match ds with | [.rows _ _ cols] => flatCs cols | _ => true) && flatP ps dss'
   | [] => true
def ctX (ss : List Sx) (rs : Sx) (F : List Dx → Option (Bool × Dx × List (List Dx))) (args : List AV) (h : AH) : T (AV × AH) :=
 (rdXs h ss args).bind fun (ds, is) => match F ds with
   | some (pre, r, post) => match canXs nmI ss ds [] with
     | (cargs, bl) => match expR (fun j => h.nx + j) (ptrSh ss ds) rs r post with
       | (v, cs, nb) => match lendXs h ss args with
         | L => match (bif flatP (ptrSh ss ds) post && flatX rs r then ([] : List Nat) else L) with
           | LR => bif okIds bl is && linkB bl is h (ptrId ss cargs) (ptrId ss args) && Nat.beq cs.length (ptrId ss args).length && nodupB (ptrId ss args) && allLt h.nx (remX bl is (ptrId ss args) ++ LR) && allLt h.nx (ptrId ss args) && Nat.blt (h.nx + nb.length) 4294967296 && Nat.blt (bl.length + nb.length) 4294967296 && allOwn nb && allOwn cs && okLend bl is h L then
               .must pre (.ret (v, heapX h (remX bl is (ptrId ss args) ++ LR) (ptrId ss args) cs nb))
             else .no
   | none => .no
theorem zip_fst_full {α : Type} : ∀ {l : List Nat} {k : List α}, k.length = l.length → (l.zip k).map (·.1) = l
 | [], _, _ => rfl
 | x :: l, [], h => by simp at h
 | x :: l, y :: k, h => by simp only [List.zip_cons_cons, List.map_cons]; rw [zip_fst_full (by simpa using h)]
theorem heapX_get {h : AH} {rem pids : List Nat} {cs nb : List AO} (h1 : ∀ x ∈ rem, x < h.nx) (h2 : ∀ x ∈ pids, x < h.nx) (h3 : pids.Nodup) (h4 : cs.length = pids.length) (h5 : h.nx + nb.length < 4294967296) :
   (∀ (j : Nat) (c : AO), nb[j]? = some c → (heapX h rem pids cs nb).get (h.nx + j) = some c) ∧ (∀ q c, (q, c) ∈ pids.zip cs → (heapX h rem pids cs nb).get q = some c) ∧
     (∀ q, q ∈ rem → q ∉ pids → (heapX h rem pids cs nb).get q = none) ∧ (∀ q, ¬ (h.nx ≤ q ∧ q < h.nx + nb.length) → q ∉ pids → q ∉ rem → (heapX h rem pids cs nb).get q = h.get q) := by
 have e0 : ∀ q, (heapX h rem pids cs nb).get q = if h.nx ≤ q ∧ q < h.nx + nb.length then nb[q - h.nx]? else (setQs (setQs h.t (rem.map fun d => (d, none))) ((pids.zip cs).map fun p => (p.1, some p.2))).get (q + 1) := fun q => numL_get q (by omega) _
 have hmap : ((pids.zip cs).map fun p => (p.1, some p.2)).map (·.1) = pids := by
   rw [List.map_map]
   exact zip_fst_full h4
 have hlt : ∀ p ∈ (pids.zip cs).map fun p => (p.1, some p.2), p.1 < 4294967296 := fun p hp => by
   have : p.1 ∈ pids := by rw [← hmap]; exact List.mem_map_of_mem hp
   have := h2 _ this; omega
 refine ⟨fun j c hj => ?_, fun q c hq => ?_, fun q hq hn => ?_, fun q hn hp hr => ?_⟩
 · have := (List.getElem?_eq_some_iff.1 hj).1
   rw [e0, if_pos ⟨by omega, by omega⟩, Nat.add_sub_cancel_left]; exact hj
 · have hm : q ∈ pids := (List.of_mem_zip hq).1
   have := h2 _ hm
   rw [e0, if_neg (by omega)]
   exact setQs_eq hlt (by rw [hmap]; exact h3) q _ (List.mem_map.2 ⟨(q, c), hq, rfl⟩)
 · have := h1 _ hq
   rw [e0, if_neg (by omega), setQs_ne hlt q (by rw [hmap]; exact hn)]
   exact setQs_map (g := fun _ => none) (fun p hp => by have := h1 _ hp; omega) q hq
 · rw [e0, if_neg hn, setQs_ne hlt q (by rw [hmap]; exact hp), setQs_ne (fun p hp => by
     obtain ⟨x, hx, rfl⟩ := List.mem_map.1 hp
     have := h1 _ hx
     show x < _
     omega) q (by rw [List.map_map]; simpa using hr)]
   rfl
theorem numR_mem : ∀ {k : Nat} {l : List AO} {acc : List (Nat × AO)}, (∀ x ∈ acc, x ∈ numR k l acc) ∧ ∀ (j : Nat) (c : AO), l[j]? = some c → (k + j, c) ∈ numR k l acc
 | k, [], acc => ⟨fun x h => h, fun j c h => by simp at h⟩
 | k, a :: l, acc => by
   obtain ⟨h1, h2⟩ := numR_mem (k := Nat.succ k) (l := l) (acc := (k, a) :: acc)
   refine ⟨fun x hx => h1 x (by simp [hx]), fun j c hj => ?_⟩
   cases j with
   | zero => simp at hj; subst hj; exact h1 _ (by simp)
   | succ j => have := h2 j c (by simpa using hj); rwa [show Nat.succ k + j = k + (j + 1) by omega] at this
theorem remX_mem : ∀ {l : List AO} {is : List (Option Nat)} {ps : List Nat}, (∀ x ∈ remX l is ps, x ∉ ps ∧ ∃ (j : Nat) (a : AO), l[j]? = some a ∧ is[j]? = some (some x) ∧ a.ro = false) ∧ ∀ (j : Nat) (a : AO) (x : Nat), l[j]? = some a → is[j]? = some (some x) → a.ro = false → x ∉ ps → x ∈ remX l is ps
 | [], is, ps => ⟨fun x h => by simp [remX] at h, fun j a x h => by simp at h⟩
 | _ :: _, [], ps => ⟨fun x h => by simp [remX] at h, fun j a x _ h => by simp at h⟩
 | a :: l, i :: is, ps => by
   obtain ⟨h1, h2⟩ := remX_mem (l := l) (is := is) (ps := ps)
   have up : ∀ x, (x ∉ ps ∧ ∃ (j : Nat) (a : AO), l[j]? = some a ∧ is[j]? = some (some x) ∧ a.ro = false) → x ∉ ps ∧ ∃ (j : Nat) (b : AO), (a :: l)[j]? = some b ∧ (i :: is)[j]? = some (some x) ∧ b.ro = false := fun x ⟨q1, j, b, q2, q3, q4⟩ => ⟨q1, j + 1, b, by simpa using q2, by simpa using q3, q4⟩
   cases i with
   | none =>
     refine ⟨fun x hx => up x (h1 x hx), fun j b x hj hi hr hn => ?_⟩
     cases j with
     | zero => simp at hi
     | succ j => exact h2 j b x (by simpa using hj) (by simpa using hi) hr hn
   | some id =>
     simp only [remX, Bool.cond_eq_ite]
     split
     · rename_i hc
       refine ⟨fun x hx => up x (h1 x hx), fun j b x hj hi hr hn => ?_⟩
       cases j with
       | zero =>
         simp at hj hi; subst hj hi
         simp only [hr, Bool.false_or] at hc
         exact absurd (memN_iff.1 hc) hn
       | succ j => exact h2 j b x (by simpa using hj) (by simpa using hi) hr hn
     · rename_i hc
       simp only [Bool.or_eq_true, not_or, Bool.not_eq_true] at hc
       refine ⟨fun x hx => ?_, fun j b x hj hi hr hn => ?_⟩
       · rcases List.mem_cons.1 hx with rfl | hx
         · exact ⟨(fun hp => by rw [memN_iff.2 hp] at hc; cases hc.2), 0, a, rfl, rfl, hc.1⟩
         · exact up x (h1 x hx)
       · cases j with
         | zero => simp at hj hi; subst hi; simp
         | succ j => exact List.mem_cons_of_mem _ (h2 j b x (by simpa using hj) (by simpa using hi) hr hn)
theorem linkB_at {bl : List AO} {is : List (Option Nat)} {h : AH} : ∀ {cs ps : List Nat}, linkB bl is h cs ps = true → cs.length = ps.length ∧ ∀ (j c p : Nat), cs[j]? = some c → ps[j]? = some p → is[c]? = some (some p) ∧ (∃ a, bl[c]? = some a ∧ a.ro = false) ∧ ∃ o, h.get p = some o
 | [], [], _ => ⟨rfl, fun j c p h => by simp at h⟩
 | [], _ :: _, e => by simp [linkB] at e
 | c :: cs, [], e => by simp [linkB] at e
 | c :: cs, p :: ps, e => by
   simp only [linkB, Bool.and_eq_true] at e
   obtain ⟨⟨⟨e1, e2⟩, e3⟩, e4⟩ := e
   obtain ⟨q1, q2⟩ := linkB_at e4
   refine ⟨by simp [q1], fun j c' p' hc hp => ?_⟩
   cases j with
   | zero =>
     simp at hc hp; subst hc hp
     refine ⟨?_, ?_, ?_⟩
     · split at e1
       · rename_i q hq; rw [← beqN e1]; exact hq
       · cases e1
     · split at e2
       · rename_i a ha; exact ⟨a, ha, by simpa using e2⟩
       · cases e2
     · split at e3
       · rename_i o ho; exact ⟨o, ho⟩
       · cases e3
   | succ j => exact q2 j c' p' (by simpa using hc) (by simpa using hp)
theorem allOwn_at : ∀ {l : List AO} {j : Nat} {a : AO}, allOwn l = true → l[j]? = some a → a.ro = false
 | [], j, a, _, h => by simp at h
 | x :: l, 0, a, h, e => by simp at e; subst e; simp only [allOwn, Bool.and_eq_true, Bool.not_eq_true'] at h; exact h.1
 | x :: l, j + 1, a, h, e => by simp only [allOwn, Bool.and_eq_true] at h; exact allOwn_at h.2 (by simpa using e)
theorem delX_mem : ∀ {l : List AO} {k : Nat} {ps : List Nat}, ∀ x ∈ delX k l ps, x ∉ ps
 | [], k, ps, x, h => by simp [delX] at h
 | a :: l, k, ps, x, h => by
   simp only [delX, Bool.cond_eq_ite] at h
   split at h
   · exact delX_mem x h
   · rename_i hc
     simp only [Bool.or_eq_true, not_or, Bool.not_eq_true] at hc
     rcases List.mem_cons.1 h with rfl | h
     · exact fun hp => by rw [memN_iff.2 hp] at hc; cases hc.2
     · exact delX_mem x h
section
variable {N N' : Mp}
theorem expP_le (x : Nat → Nat) : ∀ (ps : List Px) (dss : List (List Dx)) (bl : List AO), bl.length ≤ (expP x ps dss bl).2.length
 | [], _, _ => Nat.le_refl _
 | .st _ _ :: _, [], _ => Nat.le_refl _
 | .ar _ _ :: _, [], _ => Nat.le_refl _
 | .st t l :: ps, ds :: dss, bl => Nat.le_trans (canXs_le x l ds bl) (expP_le x ps dss _)
 | .ar e ks :: ps, ds :: dss, bl => expP_le x ps dss bl
theorem SHL.cons {l l' : List AO} {a a' : AO} (k : SH N N' a a') (h : SHL N N' l l') : SHL N N' (a :: l) (a' :: l') := by
 refine ⟨by simp [h.1], fun j x hj => ?_⟩
 cases j with
 | zero => simp at hj; subst hj; exact ⟨a', rfl, k⟩
 | succ j => simpa using h.2 j x (by simpa using hj)
theorem SHL.nil : SHL N N' [] [] := ⟨rfl, fun j a h => by simp at h⟩
theorem expP_shift {L : Nat} {x1 x2 : Nat → Nat} (hN : ∀ j p, j < L → N (x1 j) = some p → N' (x2 j) = some p) : ∀ (ps : List Px) (dss : List (List Dx)) (b1 b2 : List AO), (ZLe N N' ∨ flatP ps dss = true) → (expP x1 ps dss b1).2.length ≤ L → SHL N N' b1 b2 →
   SHL N N' (expP x1 ps dss b1).2 (expP x2 ps dss b2).2 ∧ SHL N N' (expP x1 ps dss b1).1 (expP x2 ps dss b2).1
 | [], dss, b1, b2, hz, hL, hs => ⟨hs, SHL.nil⟩
 | .st _ _ :: ps, [], b1, b2, hz, hL, hs => ⟨hs, SHL.nil⟩
 | .ar _ _ :: ps, [], b1, b2, hz, hL, hs => ⟨hs, SHL.nil⟩
 | .st t l :: ps, ds :: dss, b1, b2, hz, hL, hs => by
   have hL : (expP x1 ps dss (canXs x1 l ds b1).2).2.length ≤ L := hL
   obtain ⟨h1, h2⟩ := canXs_shift hN l ds b1 b2 (hz.imp id (fun e => by simp only [flatP, Bool.and_eq_true] at e; exact e.1)) (Nat.le_trans (expP_le x1 ps dss _) hL) hs
   obtain ⟨h3, h4⟩ := expP_shift hN ps dss _ _ (hz.imp id (fun e => by simp only [flatP, Bool.and_eq_true] at e; exact e.2)) hL h1
   refine ⟨h3, SHL.cons ⟨rfl, fun h => h, fun κ ob h => ?_⟩ h4⟩
   obtain ⟨vs, rest, r1, r2⟩ := h
   exact ⟨vs, rest, h2 _ r1, r2⟩
 | .ar e ks :: ps, ds :: dss, b1, b2, hz, hL, hs => by
   have hL : (expP x1 ps dss b1).2.length ≤ L := hL
   obtain ⟨h3, h4⟩ := expP_shift hN ps dss _ _ (hz.imp id (fun e => by simp only [flatP, Bool.and_eq_true] at e; exact e.2)) hL hs
   refine ⟨h3, SHL.cons ?_ h4⟩
   have hz1 := hz.imp id (fun e => by simp only [flatP, Bool.and_eq_true] at e; exact e.1)
   clear hz
   split
   · exact SH_arr (hz1.imp id (fun e => by simpa using e))
   · exact SH_arr (.inr rfl)
theorem expR_shift {L : Nat} {x1 x2 : Nat → Nat} {ps : List Px} {rs : Sx} {r : Dx} {post : List (List Dx)} (hN : ∀ j p, j < L → N (x1 j) = some p → N' (x2 j) = some p) (hz : ZLe N N' ∨ (flatP ps post && flatX rs r) = true) (hL : (expR x1 ps rs r post).2.2.length ≤ L) :
   SHL N N' (expR x1 ps rs r post).2.2 (expR x2 ps rs r post).2.2 ∧ SHL N N' (expR x1 ps rs r post).2.1 (expR x2 ps rs r post).2.1 ∧ ∀ u, (expR x1 ps rs r post).1.R N u → (expR x2 ps rs r post).1.R N' u := by
 have hL : (canX x1 rs r (expP x1 ps post []).2).2.length ≤ L := hL
 obtain ⟨h1, h2⟩ := expP_shift hN ps post [] [] (hz.imp id (fun e => by simp only [Bool.and_eq_true] at e; exact e.1)) (Nat.le_trans (canX_le x1 rs r _) hL) SHL.nil
 obtain ⟨h3, h4⟩ := canX_shift hN rs r _ _ (hz.imp id (fun e => by simp only [Bool.and_eq_true] at e; exact e.2)) hL h1
 exact ⟨h3, h2, h4⟩
end
end Go.Proofs.YtinijejfhmcmdaaDoor.Ex
end
section
namespace Go.Proofs.YtinijejfhmcmdaaDoor.Ex
open Go
section
variable {P : Program} {sm : FuncId → Option Sm}
set_option maxHeartbeats 1000000 in
theorem ctX_lit (hm : P.follows .mixedOrders = true) (hs : SmOK P sm) {ss : List Sx} {rs : Sx} {F : List Dx → Option (Bool × Dx × List (List Dx))} {f : FuncId}
   (hw : ∀ ds r post, F ds = some (true, r, post) → ∃ ds2 ann n, (∀ (M : Mp) us, AV.RL M (canXs nmI ss ds []).1 us → AV.RL M (canXs nmI ss ds2 []).1 us) ∧ wxF P sm ann n f (canXs nmI ss ds2 []).1 (heapOf (canXs nmI ss ds []).2)
     (postX (canXs nmI ss ds []).2.length (delX 0 (canXs nmI ss ds []).2 (ptrId ss (canXs nmI ss ds []).1)) (ptrId ss (canXs nmI ss ds []).1) (expR (fun j => (canXs nmI ss ds []).2.length + j) (ptrSh ss ds) rs r post))) :
   SmCall P f (fun args h => (ctX ss rs F args h).sel) := by
 intro args h v h' hg
 obtain ⟨⟨ds, is⟩, e1, e⟩ := T.sel_bind_some hg
 simp only at e
 split at e
 case h_2 => cases e
 rename_i pre r post hF
 generalize hcan : canXs nmI ss ds [] = can at e
 obtain ⟨cargs, bl⟩ := can
 simp only at e
 generalize hL : lendXs h ss args = L at e
 generalize hflat : (flatP (ptrSh ss ds) post && flatX rs r) = flat at e
 generalize hLR : (bif flat then ([] : List Nat) else L) = LR at e
 generalize hexp : expR (fun j => h.nx + j) (ptrSh ss ds) rs r post = E at e
 obtain ⟨v0, cs, nb⟩ := E
 simp only [Bool.cond_eq_ite] at e
 split at e
 case isFalse => cases e
 rename_i hc
 simp only [Bool.and_eq_true, nbeq, nblt, decide_eq_true_eq] at hc
 obtain ⟨⟨⟨⟨⟨⟨⟨⟨⟨⟨c1, c2⟩, c3⟩, c4⟩, c5⟩, c6⟩, c7⟩, c8s⟩, c9⟩, c10⟩, c11⟩ := hc
 have c8 : bl.length < 4294967296 := by omega
 obtain ⟨rfl, e⟩ := T.sel_must e
 have e := T.sel_ret e
 simp only [Prod.mk.injEq] at e
 obtain ⟨rfl, rfl⟩ := e
 have hrem := allLt_ok c5
 have hpid := allLt_ok c6
 obtain ⟨g1, g2, g3, g4⟩ := heapX_get hrem hpid (nodupB_ok c4) c3 c7
 obtain ⟨lk1, lk2⟩ := linkB_at c2
 generalize hpi : ptrId ss args = pids at c2 c3 c4 c5 c6 hrem hpid g1 g2 g3 g4 lk1 lk2
 have hLR9 : ∀ id, id ∈ LR → id ∈ L := fun id hi => by subst hLR; cases flat with | true => simp at hi | false => exact hi
 generalize hrm : remX bl is pids ++ LR = rem at c5 hrem g1 g2 g3 g4
 generalize hcp : ptrId ss cargs = cpid at c2 lk1 lk2
 have hsz : (heapX h rem pids cs nb).nx = h.nx + nb.length := rfl
 have hab : Ab h (heapX h rem pids cs nb) := by
   refine ⟨Nat.le_add_right _ _, rfl, fun x hx => List.mem_append_right _ hx, fun x b1 b2 hx => ?_, fun x hx => ?_⟩
   · have hn : x ∉ filtLt h.bs (rem ++ pids) := fun q => hx (List.mem_append_left _ q)
     refine g4 x (by omega) (fun q => hn (filtLt_mem (List.mem_append_right _ q) b1)) (fun q => hn (filtLt_mem (List.mem_append_left _ q) b1))
   · by_cases hnew : h.nx ≤ x ∧ x < h.nx + nb.length
     · exact .inr hnew
     · left
       by_cases hp : x ∈ pids
       · obtain ⟨j, hj⟩ := List.mem_iff_getElem?.1 hp
         have hjl : j < cpid.length := by rw [lk1]; exact (List.getElem?_eq_some_iff.1 hj).1
         obtain ⟨_, _, o, ho⟩ := lk2 j _ x (List.getElem?_eq_getElem hjl) hj
         rw [ho]; simp
       · by_cases hr : x ∈ rem
         · exact absurd (g3 x hr hp) hx
         · rw [← g4 x hnew hp hr]; exact hx
 refine ⟨⟨Nat.le_add_right _ _, hab⟩, fun M us w rr' R ra rr fr k => ?_⟩
 obtain ⟨nb0, bs, q1, q2, q3⟩ := rdXs_ok (Z := zL M w L) rr rfl ss args ds is us [] [] e1 (by rw [hL]; exact fun _ h => h) ra rfl
 rw [hcan] at q1 q3
 simp only [List.nil_append] at q1 q2 q3
 subst q1
 obtain ⟨rel0, fr0⟩ := heapOf_relX rfl q2 c1 c11 rr c8
 obtain ⟨ds2, ann, n, hcv, hw⟩ := hw ds r post hF
 rw [hcan] at hw hcv
 simp only [hcp] at hw
 refine wxF_ok hm hs hw (MofZ (zL M w L) bs) us w rr' R (hcv _ _ q3) rel0 fr0 fun v2 h2 M2 u w' hk rv rel2 _ fo kp => ?_
 have kp : ∀ id, id < bl.length → M2 id = MofZ (zL M w L) bs id := kp
 generalize hexk : expR (fun j => bl.length + j) (ptrSh ss ds) rs r post = E at hk
 obtain ⟨vk, ck, nk⟩ := E
 simp only [postX] at hk
 obtain ⟨ρ1, x1, hk, rvk⟩ := cmpV_ok _ _ _ _ hk
 obtain ⟨ρ, x2, okr, t2⟩ := cmpHs_ok hk
 simp only [Bool.and_eq_true] at okr
 obtain ⟨okr, okf⟩ := okr
 have found := t2 M2 w' rel2
 have rvN : vk.R (MR bl.length ρ M2 (cellsW w')) u := AV.R.mono (MR_le x2 M2) _ _ (rvk M2 w' u rel2 rv)
 generalize hN : MR bl.length ρ M2 (cellsW w') = N at rvN
 have hlen : nk.length = nb.length ∧ ck.length = cs.length := by
   have := expR_shift (N := noM) (N' := noM) (L := nk.length) (x1 := fun j => bl.length + j) (x2 := fun j => h.nx + j) (ps := ptrSh ss ds) (rs := rs) (r := r) (post := post) (fun _ _ _ e => by cases e) (.inl fun _ _ e => e) (by rw [hexk]; exact Nat.le_refl _)
   rw [hexk, hexp] at this
   exact ⟨this.1.1, this.2.1.1⟩
 have Nz : ∀ b cs, N.z b = some cs → M2.z b = some cs ∨ ∃ a κ oa, ρ.at (frzM a) = some a ∧ h2.get a = some oa ∧ oa.ro = false ∧ M2 a = some (b, κ) ∧ ∃ t fr, w'.heap[b]? = some (.cells cs t fr) := fun b cs e => by
   rw [← hN] at e
   unfold MR at e
   simp only at e
   split at e
   · rename_i cs' hz
     simp only [Option.some.injEq] at e; subst e
     exact .inl hz
   · split at e
     · rename_i hf
       obtain ⟨a, κ2, f1, f2⟩ := frzB_iff.1 hf
       obtain ⟨oa, f3, f4⟩ := okFz_at okf f1
       unfold cellsW at e
       split at e
       · rename_i cs' t fr hb
         simp only [Option.some.injEq] at e; subst e
         exact .inr ⟨a, κ2, oa, f1, f3, f4, f2, t, fr, hb⟩
       · cases e
     · cases e
 -- by which numbers blocks go behind the call
 let M' : Mp := ⟨fun id => if id < h.nx then M id else if id < h.nx + nb.length then N (bl.length + (id - h.nx)) else M id, if flat = true then M.z else N.z⟩
 have hNz : ∀ b cs, M.z b = some cs → N.z b = some cs := fun b cs e => by rw [← hN]; exact MR_zm (fo.zm b cs (zL_le e))
 have M'z : ∀ b cs, M'.z b = some cs → M.z b = some cs ∨ (flat = false ∧ N.z b = some cs) := fun b cs e => by
   have e : (if flat = true then M.z else N.z) b = some cs := e
   cases hf : flat with
   | true => rw [if_pos hf] at e; exact .inl e
   | false => rw [if_neg (by rw [hf]; simp)] at e; exact .inr ⟨rfl, e⟩
 have M'old : ∀ id, id < h.nx → M' id = M id := fun id hid => by show ite _ _ _ = _; rw [if_pos hid]
 have M'new : ∀ j, j < nb.length → M' (h.nx + j) = N (bl.length + j) := fun j hj => by
   show ite _ _ _ = _
   rw [if_neg (by omega), if_pos (by omega), Nat.add_sub_cancel_left]
 have shift := expR_shift (N := N) (N' := M') (L := nk.length) (x1 := fun j => bl.length + j) (x2 := fun j => h.nx + j) (ps := ptrSh ss ds) (rs := rs) (r := r) (post := post) (fun j p hj e => by rw [M'new j (by omega)]; exact e) (by
   cases hf : flat with
   | true => exact .inr (by rw [hflat, hf])
   | false => exact .inl fun b cs e => by show (if flat = true then M.z else N.z) b = some cs; rw [if_neg (by rw [hf]; simp)]; exact e) (by rw [hexk]; exact Nat.le_refl _)
 rw [hexk, hexp] at shift
 obtain ⟨sh1, sh2, sh3⟩ := shift
 have le : Le M M' := ⟨fun id p e => by
   by_cases h1 : id < h.nx
   · rw [M'old id h1]; exact e
   · by_cases h2 : id < h.nx + nb.length
     · rw [fr id (by omega) (by rw [hsz]; exact h2)] at e; cases e
     · show ite _ _ _ = _
       rw [if_neg h1, if_neg h2]; exact e, fun b cs e => by
   show (if flat = true then M.z else N.z) b = some cs
   split
   · exact e
   · exact hNz b cs e⟩
 -- a block behind the call: new, or the function's, or as_ it was
 have old : ∀ x o, ¬ (h.nx ≤ x ∧ x < h.nx + nb.length) → x ∉ pids → (heapX h rem pids cs nb).get x = some o → h.get x = some o ∧ x ∉ rem ∧ x < h.nx := fun x o hn hp e => by
   by_cases hr : x ∈ rem
   · rw [g3 x hr hp] at e; cases e
   · rw [g4 x hn hp hr] at e
     exact ⟨e, hr, rr.wf x (by rw [e]; simp)⟩
 have clash : ∀ x b κ, (∃ o, h.get x = some o) → x ∉ pids → x ∉ rem → M x = some (b, κ) → ¬ OwnP (MofZ (zL M w L) bs) (heapOf bl) b := fun x b κ ⟨o, ho⟩ hp hr hM ho2 => by
   obtain ⟨i, a, id, o2, κ2, s1, s2, s3, s4, s5, s6⟩ := ownX q2 c8 ho2
   have := rr.inj id x b κ2 κ o2 s4 s5 (by rw [ho]; simp) s6 hM
   subst this
   exact hr (by rw [← hrm]; exact List.mem_append_left _ ((remX_mem).2 i a id s1 s3 s2 hp))
 have callee : ∀ x o, (heapX h rem pids cs nb).get x = some o → ((h.nx ≤ x ∧ x < h.nx + nb.length) ∨ x ∈ pids) → (o.Vac ∧ M' x = none) ∨ ∃ ia a' b κ ob, h2.get ia = some a' ∧ M2 ia = some (b, κ) ∧ M' x = some (b, κ) ∧ w'.heap[b]? = some ob ∧ ObR M' κ o ob ∧ a'.ro = false ∧
     ((∃ j, x = h.nx + j ∧ j < nb.length ∧ ρ.at (bl.length + j) = some ia) ∨ ∃ j, pids[j]? = some x ∧ cpid[j]? = some ia) := fun x o ho hx => by
   rcases hx with hx | hx
   · obtain ⟨j, rfl⟩ : ∃ j, x = h.nx + j := ⟨x - h.nx, by omega⟩
     have hj : j < nb.length := by omega
     have hno := g1 j _ (List.getElem?_eq_getElem hj)
     rw [hno] at ho
     simp only [Option.some.injEq] at ho
     obtain ⟨a, ha⟩ : ∃ a, nk[j]? = some a := ⟨nk[j]'(by omega), by simp [hlen.1, hj]⟩
     obtain ⟨a2, ha2, sa1, sa2, sa3⟩ := sh1.2 j a ha
     rw [List.getElem?_eq_getElem hj, ho] at ha2
     simp only [Option.some.injEq] at ha2; subst ha2
     have hro : o.ro = false := allOwn_at c9 (by rw [List.getElem?_eq_getElem hj, ho])
     rcases found (bl.length + j) a (List.mem_append_right _ ((numR_mem).2 j a ha)) with ⟨_, f2, f3, _⟩ | ⟨ia, a', _, f2, f3, f4, f5, f6⟩
     · refine .inl ⟨sa2 f3, ?_⟩
       rw [M'new j hj, ← hN]
       unfold MR
       simp only
       rw [if_neg (by omega), if_neg (by omega), f2]
     · have f2 := f2 (by omega)
       have hNj : N (bl.length + j) = M2 ia := by rw [← hN]; unfold MR; simp only; rw [if_neg (by omega), if_neg (by omega), f2]
       rcases rel2.obj ia a' f3 with ⟨hv, hM⟩ | ⟨b, κ, ob, hM, hb, hob⟩
       · exact .inl ⟨sa2 (f5 hv), by rw [M'new j hj, hNj]; exact hM⟩
       · exact .inr ⟨ia, a', b, κ, ob, f3, hM, by rw [M'new j hj, hNj]; exact hM, hb, sa3 κ ob (by rw [← hN]; exact f6 κ ob hob), by rw [← f4, ← sa1]; exact hro, .inl ⟨j, rfl, hj, f2⟩⟩
   · obtain ⟨j, hj⟩ := List.mem_iff_getElem?.1 hx
     have hjl : j < pids.length := (List.getElem?_eq_some_iff.1 hj).1
     have hjc : j < cpid.length := by omega
     have hjs : j < cs.length := by omega
     have hz : (x, cs[j]) ∈ pids.zip cs := by
       rw [List.mem_iff_getElem?]
       exact ⟨j, by rw [List.getElem?_zip_eq_some]; exact ⟨hj, List.getElem?_eq_getElem hjs⟩⟩
     have ho2 := g2 x _ hz
     rw [ho2] at ho
     simp only [Option.some.injEq] at ho
     obtain ⟨a, ha⟩ : ∃ a, ck[j]? = some a := ⟨ck[j]'(by omega), by simp [hlen.2, hjs]⟩
     obtain ⟨a2, ha2, sa1, sa2, sa3⟩ := sh2.2 j a ha
     rw [List.getElem?_eq_getElem hjs, ho] at ha2
     simp only [Option.some.injEq] at ha2; subst ha2
     have hro := allOwn_at c10 (show cs[j]? = some o by rw [List.getElem?_eq_getElem hjs, ho])
     obtain ⟨l1, ⟨a0, l2, l3⟩, _⟩ := lk2 j _ x (List.getElem?_eq_getElem hjc) hj
     have hcl : cpid[j] < bl.length := (List.getElem?_eq_some_iff.1 l2).1
     obtain ⟨b0, i0, s1, s2, s3⟩ := q2.get l2
     rw [l1] at s2
     simp only [Option.some.injEq] at s2; subst s2
     have hz2 : (cpid[j], a) ∈ cpid.zip ck := by
       rw [List.mem_iff_getElem?]
       exact ⟨j, by rw [List.getElem?_zip_eq_some]; exact ⟨List.getElem?_eq_getElem hjc, ha⟩⟩
     rcases s3 with ⟨hb0, _, hv⟩ | ⟨b, κ, _, id, o3, κ3, rfl, _, _, hid, _, s6, s7⟩ | ⟨_, _, _, _, _, _, hid, _⟩
     · have hM2 : M2 cpid[j] = none := by rw [kp _ hcl]; unfold MofZ Mof; simp only [s1, hb0]
       rcases found cpid[j] a (List.mem_append_left _ hz2) with ⟨f1, _⟩ | ⟨ia, a', f1, _, f3, _, f5, _⟩
       · exact absurd hcl f1
       · have := f1 hcl
         subst this
         rcases rel2.obj _ a' f3 with ⟨hv2, _⟩ | ⟨b', κ', ob, hM, _⟩
         · exact .inl ⟨sa2 (f5 hv2), by rw [M'old x (hpid x hx)]; exact hv l3 x rfl⟩
         · rw [hM2] at hM; cases hM
     rotate_left
     · cases hid
     · simp only [Option.some.injEq] at hid; subst hid
       obtain ⟨_, rfl⟩ := s7 l3
       have hM2 : M2 cpid[j] = some (b, κ3) := by rw [kp _ hcl]; unfold MofZ Mof; simp only [s1]
       rcases found cpid[j] a (List.mem_append_left _ hz2) with ⟨f1, _⟩ | ⟨ia, a', f1, _, f3, f4, f5, f6⟩
       · exact absurd hcl f1
       · have := f1 hcl
         subst this
         rcases rel2.obj _ a' f3 with ⟨_, hM⟩ | ⟨b', κ', ob, hM, hb, hob⟩
         · rw [hM2] at hM; cases hM
         · rw [hM2] at hM
           simp only [Option.some.injEq, Prod.mk.injEq] at hM
           obtain ⟨rfl, rfl⟩ := hM
           exact .inr ⟨_, a', b, κ3, ob, f3, hM2, by rw [M'old x (hpid x hx)]; exact s6, hb, sa3 κ3 ob (by rw [← hN]; exact f6 κ3 ob hob), by rw [← f4, ← sa1]; exact hro, .inr ⟨j, hj, List.getElem?_eq_getElem hjc⟩⟩
 have split3 : ∀ x, ((h.nx ≤ x ∧ x < h.nx + nb.length) ∨ x ∈ pids) ∨ (¬ (h.nx ≤ x ∧ x < h.nx + nb.length) ∧ x ∉ pids) := fun x => by
   by_cases h1 : h.nx ≤ x ∧ x < h.nx + nb.length
   · exact .inl (.inl h1)
   · by_cases h2 : x ∈ pids
     · exact .inl (.inr h2)
     · exact .inr ⟨h1, h2⟩
 have apart : ∀ x y ia a' b κ κ' o, h2.get ia = some a' → a'.ro = false → M2 ia = some (b, κ) → h.get y = some o → y ∉ pids → y ∉ rem → M y = some (b, κ') → x = y := fun x y ia a' b κ κ' o r1 r2 r3 r4 r5 r6 r7 => by
   exfalso
   rcases fo.own b ⟨ia, κ, a', r1, r2, r3⟩ with q | q
   · exact clash y b κ' ⟨o, r4⟩ r5 r6 r7 q
   · rcases rr.obj y o r4 with ⟨_, hM⟩ | ⟨b2, κ2, ob, hM, hb, _⟩
     · rw [hM] at r7; cases r7
     · rw [hM] at r7
       simp only [Option.some.injEq, Prod.mk.injEq] at r7
       obtain ⟨rfl, _⟩ := r7
       have := heap_lt hb; omega
 have rel' : Rel M' (heapX h rem pids cs nb) w' := by
   refine ⟨fun x o ho => ?_, fun x y b κ κ' o hx hr hy ex ey => ?_, fun x hx => ?_, rel2.gw, fun x b κ o hx hro ex => ?_, fun b cs e => ?_, fun x b κ o hx hr ex => ?_⟩
   · rcases split3 x with hx | ⟨hx1, hx2⟩
     · rcases callee x o ho hx with hv | ⟨ia, a', b, κ, ob, _, _, r1, r2, r3, _⟩
       · exact .inl hv
       · exact .inr ⟨b, κ, ob, r1, r2, r3⟩
     · obtain ⟨o1, o2, o3⟩ := old x o hx1 hx2 ho
       rcases rr.obj x o o1 with ⟨hv, hM⟩ | ⟨b, κ, ob, hM, hb, hob⟩
       · exact .inl ⟨hv, by rw [M'old x o3]; exact hM⟩
       · exact .inr ⟨b, κ, ob, by rw [M'old x o3]; exact hM, by rw [fo.keep b (heap_lt hb) (clash x b κ ⟨o, o1⟩ hx2 o2 hM)]; exact hb, ObR.mono le _ _ hob⟩
   · cases hyy : (heapX h rem pids cs nb).get y with
     | none => exact absurd hyy hy
     | some oy =>
       rcases split3 x with hx' | ⟨hx1, hx2⟩
       · rcases callee x o hx hx' with ⟨_, hv⟩ | ⟨ia, a', b1, κ1, _, r1, r2, r3, _, _, r4, r5⟩
         · rw [hv] at ex; cases ex
         · rw [r3] at ex
           simp only [Option.some.injEq, Prod.mk.injEq] at ex
           obtain ⟨rfl, rfl⟩ := ex
           rcases split3 y with hy' | ⟨hy1, hy2⟩
           · rcases callee y oy hyy hy' with ⟨_, hv⟩ | ⟨ja, b', b2, κ2, _, u1, u2, u3, _, _, u4, u5⟩
             · rw [hv] at ey; cases ey
             · rw [u3] at ey
               simp only [Option.some.injEq, Prod.mk.injEq] at ey
               obtain ⟨rfl, rfl⟩ := ey
               have := rel2.inj ia ja b2 κ1 κ2 a' r1 r4 (by rw [u1]; simp) r2 u2
               subst this
               have mix : ∀ j j' z, ρ.at (bl.length + j) = some ia → pids[j']? = some z → cpid[j']? = some ia → False := fun j j' z e1 e2 e3 => by
                 obtain ⟨_, ⟨_, l2, _⟩, _⟩ := lk2 j' ia z e3 e2
                 have hlt := (List.getElem?_eq_some_iff.1 l2).1
                 rcases (okR_at okr e1).1 with q | q
                 · omega
                 · exact delX_mem ia q (List.mem_of_getElem? e3)
               rcases r5 with ⟨j, rfl, _, e1⟩ | ⟨j, e1, e2⟩ <;> rcases u5 with ⟨j', rfl, _, e1'⟩ | ⟨j', e1', e2'⟩
               · have := okR_inj okr e1 e1'; omega
               · exact (mix j j' y e1 e1' e2').elim
               · exact (mix j' j x e1' e1 e2).elim
               · have l1 := (lk2 j ia x e2 e1).1
                 have l2 := (lk2 j' ia y e2' e1').1
                 rw [l1] at l2
                 simpa using l2
           · obtain ⟨o1, o2, o3⟩ := old y oy hy1 hy2 hyy
             rw [M'old y o3] at ey
             exact apart x y ia a' b1 κ1 κ' oy r1 r4 r2 o1 hy2 o2 ey
       · obtain ⟨o1, o2, o3⟩ := old x o hx1 hx2 hx
         rw [M'old x o3] at ex
         rcases split3 y with hy' | ⟨hy1, hy2⟩
         · rcases callee y oy hyy hy' with ⟨_, hv⟩ | ⟨ja, b', b2, κ2, _, u1, u2, u3, _, _, u4, _⟩
           · rw [hv] at ey; cases ey
           · rw [u3] at ey
             simp only [Option.some.injEq, Prod.mk.injEq] at ey
             obtain ⟨rfl, rfl⟩ := ey
             exact (apart y x ja b' b2 κ2 κ o u1 u4 u2 o1 hx2 o2 ex).symm
         · obtain ⟨p1, p2, p3⟩ := old y oy hy1 hy2 hyy
           rw [M'old y p3] at ey
           exact rr.inj x y b κ κ' o o1 hr (by rw [p1]; simp) ex ey
   · rcases hab.dom x hx with q | ⟨_, q⟩
     · have := rr.wf x q
       show x < h.nx + nb.length
       omega
     · exact q
   · rcases split3 x with hx' | ⟨hx1, hx2⟩
     · rcases callee x o hx hx' with ⟨_, hv⟩ | ⟨ia, a', b1, κ1, _, r1, r2, r3, _, _, r6, _⟩
       · rw [hv] at ex; cases ex
       · rw [r3] at ex
         simp only [Option.some.injEq, Prod.mk.injEq] at ex
         obtain ⟨rfl, rfl⟩ := ex
         exact rel2.gf ia b1 κ1 a' r1 r6 r2
     · obtain ⟨o1, o2, o3⟩ := old x o hx1 hx2 hx
       rw [M'old x o3] at ex
       exact rr.gf x b κ o o1 hro ex
   · rcases M'z b cs e with e | ⟨_, e⟩
     · exact rel2.fz b cs (fo.zm b cs (zL_le e))
     · rcases Nz b cs e with e | ⟨a, κ, oa, f1, f2, f3, f4, f5⟩
       · exact rel2.fz b cs e
       · obtain ⟨t, fr, f6⟩ := f5
         exact ⟨t, fr, f6⟩
   · cases hz : M'.z b with
     | none => rfl
     | some cs =>
       exfalso
       rcases split3 x with hx' | ⟨hx1, hx2⟩
       · rcases callee x o hx hx' with ⟨_, hv⟩ | ⟨ia, a', b1, κ1, _, r1, r2, r3, _, _, r4, r5⟩
         · rw [hv] at ex; cases ex
         · rw [r3] at ex
           simp only [Option.some.injEq, Prod.mk.injEq] at ex
           obtain ⟨rfl, rfl⟩ := ex
           have hn := rel2.fo ia b1 κ1 a' r1 r4 r2
           rcases M'z b1 cs hz with e | ⟨_, e⟩
           · have e2 : M2.z b1 = some cs := fo.zm b1 cs (zL_le e)
             rw [e2] at hn; cases hn
           · rcases Nz b1 cs e with e | ⟨a, κ2, oa, f1, f2, f3, f4, _⟩
             · rw [e] at hn; cases hn
             · have hij := rel2.inj a ia b1 κ2 κ1 oa f2 f3 (by rw [r1]; simp) f4 r2
               subst hij
               have h32 : 4294967296 ≤ frzM a := Nat.le_add_right _ _
               rcases r5 with ⟨j, rfl, hj, e1⟩ | ⟨j, e1, e2⟩
               · have := okR_inj okr e1 f1; omega
               · obtain ⟨_, ⟨_, l2, _⟩, _⟩ := lk2 j a x e2 e1
                 have hlt := (List.getElem?_eq_some_iff.1 l2).1
                 rcases (okR_at okr f1).1 with q | q
                 · omega
                 · exact delX_mem a q (List.mem_of_getElem? e2)
       · obtain ⟨o1, o2, o3⟩ := old x o hx1 hx2 hx
         rw [M'old x o3] at ex
         have hn := rr.fo x b κ o o1 hr ex
         have hsz9 : b < w.heap.size := by
           rcases rr.obj x o o1 with ⟨_, hM⟩ | ⟨b2, κ2, ob, hM, hb, _⟩
           · rw [hM] at ex; cases ex
           · rw [hM] at ex
             simp only [Option.some.injEq, Prod.mk.injEq] at ex
             obtain ⟨rfl, _⟩ := ex
             exact heap_lt hb
         have hcl := clash x b κ ⟨o, o1⟩ hx2 o2 ex
         rcases M'z b cs hz with e | ⟨hf, e⟩
         · rw [e] at hn; cases hn
         · have lent : ∀ cs, zL M w L b = some cs → False := fun cs e => by
             rcases zL_inv e with e | ⟨id, κ2, t, fr, f1, f2, _⟩
             · rw [e] at hn; cases hn
             · obtain ⟨⟨o4, f4, f5⟩, _⟩ := okLend_at c11 id f1
               have := rr.inj id x b κ2 κ o4 f4 f5 (by rw [o1]; simp) f2 ex
               subst this
               exact o2 (by rw [← hrm, ← hLR, hf]; exact List.mem_append_right _ f1)
           rcases Nz b cs e with e | ⟨a, κ2, oa, f1, f2, f3, f4, _⟩
           · rcases fo.zx b cs e with e | e | e
             · exact lent cs e
             · exact hcl e
             · omega
           · rcases fo.own b ⟨a, κ2, oa, f2, f3, f4⟩ with e | e
             · exact hcl e
             · omega
 refine k M' u w' (sh3 u rvN) rel' ⟨fo.os, fo.tape, fo.output, fo.size, le, fun id hne => ?_, fun b hb hno => fo.keep b hb (fun ho => ?_), fun x b κ o hx ex => ?_, fun b cs e => ?_⟩ hab
 · by_cases h1 : id < h.nx
   · exact absurd (M'old id h1) hne
   · by_cases h2 : id < h.nx + nb.length
     · exact ⟨by omega, h2⟩
     · exact absurd (show ite _ _ _ = _ by rw [if_neg h1, if_neg h2]) hne
 · obtain ⟨i, a, id, o2, κ2, _, _, _, s4, s5, s6⟩ := ownX q2 c8 ho
   exact hno id κ2 o2 s4 s5 s6
 · rcases split3 x with hx' | ⟨hx1, hx2⟩
   · rcases callee x o hx hx' with ⟨_, hv⟩ | ⟨ia, a', b1, κ1, _, r1, r2, r3, _, _, r4, _⟩
     · rw [hv] at ex; cases ex
     · rw [r3] at ex
       simp only [Option.some.injEq, Prod.mk.injEq] at ex
       obtain ⟨rfl, rfl⟩ := ex
       rcases fo.own b1 ⟨ia, κ1, a', r1, r4, r2⟩ with q | q
       · obtain ⟨i, a, id, o2, κ2, _, _, _, s4, s5, s6⟩ := ownX q2 c8 q
         exact .inr ⟨id, κ2, o2, s4, s6, fun _ => s5⟩
       · exact .inl q
   · obtain ⟨o1, o2, o3⟩ := old x o hx1 hx2 hx
     rw [M'old x o3] at ex
     exact .inr ⟨x, κ, o, o1, ex, fun e => e⟩
 · have own9 : OwnP (MofZ (zL M w L) bs) (heapOf bl) b → M.z b = some cs ∨ w.heap.size ≤ b ∨ ∃ i κ o, h.get i = some o ∧ o.ro = false ∧ M i = some (b, κ) := fun q => by
     obtain ⟨i, a, id, o2, κ2, _, _, _, s4, s5, s6⟩ := ownX q2 c8 q
     exact .inr (.inr ⟨id, κ2, o2, s4, s5, s6⟩)
   rcases M'z b cs e with e | ⟨_, e⟩
   · exact .inl e
   · rcases Nz b cs e with e | ⟨a, κ2, oa, f1, f2, f3, f4, _⟩
     · rcases fo.zx b cs e with e | e | e
       · rcases zL_inv e with e | ⟨id, κ3, t, fr, f1, f2, _⟩
         · exact .inl e
         · obtain ⟨⟨o4, f4, f5⟩, _⟩ := okLend_at c11 id f1
           exact .inr (.inr ⟨id, κ3, o4, f4, f5, f2⟩)
       · exact own9 e
       · exact .inr (.inl e)
     · rcases fo.own b ⟨a, κ2, oa, f2, f3, f4⟩ with e | e
       · exact own9 e
       · exact .inr (.inl e)
theorem ctX_ok (hm : P.follows .mixedOrders = true) (hs : SmOK P sm) {ss : List Sx} {rs : Sx} {F : List Dx → Option (Bool × Dx × List (List Dx))} {f : FuncId}
   (hw : ∀ ds r post, F ds = some (true, r, post) → ∃ ann n, wxF P sm ann n f (canXs nmI ss ds []).1 (heapOf (canXs nmI ss ds []).2)
     (postX (canXs nmI ss ds []).2.length (delX 0 (canXs nmI ss ds []).2 (ptrId ss (canXs nmI ss ds []).1)) (ptrId ss (canXs nmI ss ds []).1) (expR (fun j => (canXs nmI ss ds []).2.length + j) (ptrSh ss ds) rs r post))) :
   SmCall P f (fun args h => (ctX ss rs F args h).sel) :=
 ctX_lit hm hs fun ds r post h => by
   obtain ⟨ann, n, hw⟩ := hw ds r post h
   exact ⟨ds, ann, n, fun _ _ h => h, hw⟩
end
end Go.Proofs.YtinijejfhmcmdaaDoor.Ex
end
section
namespace Go.Proofs.YtinijejfhmcmdaaDoor.Ex
open Go Go.RowKit Go.ChangeShapes Go.WideShapes
def kV : CK → Value → Prop
 | .int k, v => ∃ n, v = .int k n ∧ (Lit.int k n).wf = true
 | .bool, v => ∃ b, v = .bool b
 | .str, v => ∃ s : ByteArray, v = .string s ∧ s.size ≤ maxLen
 | .ls _, _ => False
def intOf : Value → Int | .int _ n => n | _ => 0
def boolOf : Value → Bool | .bool b => b | _ => false
def strOf : Value → List UInt8 | .string s => s.data.toList | _ => []
def colsV (V : Nat → Nat → Value) : List CK → Nat → List Col
 | [], _ => []
 | k :: ks, j => (match k with | .int k => .int k (fun i => intOf (V i j)) | .bool => .bool (fun i => boolOf (V i j)) | .str => .str (fun i => strOf (V i j)) | .ls _ => .bool fun _ => false) :: colsV V ks (Nat.succ j)
def scalV (k : CK) (v : Value) : AV := match k with | .int k => .y k (intOf v) | .bool => .yb (boolOf v) | .str => .ys (strOf v) | .ls _ => .yb false
theorem kV_R {k : CK} {v : Value} (h : kV k v) : (scalV k v).R noM v ∧ v.oneCell' = true := by
 cases k with
 | int k => obtain ⟨n, rfl, _⟩ := h; exact ⟨rfl, rfl⟩
 | bool => obtain ⟨n, rfl⟩ := h; exact ⟨rfl, rfl⟩
 | str => obtain ⟨s, rfl, _⟩ := h; exact ⟨by simp [scalV, AV.R, strOf], rfl⟩
 | ls => exact h.elim
theorem colsV_at {V : Nat → Nat → Value} {i : Nat} : ∀ {ks : List CK} {j0 j : Nat} {k : CK}, ks[j]? = some k → colF (colsV V ks j0) i j = scalV k (V i (j0 + j))
 | [], j0, j, k, h => by simp at h
 | c :: ks, j0, 0, k, h => by
   simp at h; subst h
   cases c <;> rfl
 | c :: ks, j0, j + 1, k, h => by
   have := colsV_at (V := V) (i := i) (ks := ks) (j0 := j0 + 1) (j := j) (by simpa using h)
   simp only [colsV, colF]
   rw [show j0 + (j + 1) = j0 + 1 + j by omega]
   exact this
def ckOk (P : Program) (t : TypeId) (k : CK) : Bool :=
 match P.underlying t, k with
 | some (.int k'), .int k => eqK k' k
 | some .bool, .bool => true
 | some .string, .str => true
 | _, _ => false
section
variable {H : Type} {enc : TypeId × Value → H} {P : Program} {w : World} {base : Nat} {spare : Nat → Bool} {held : Bool}
theorem trod_ck {t : TypeId} {k : CK} {v : Value} {fuel : Nat} {x : DataW H × List MemPlace} (hk : ckOk P t k = true) (h : DataW.trod enc P w base spare held fuel t [v] = some x) : kV k v := by
 cases fuel with
 | zero => simp [DataW.trod] at h
 | succ n =>
   unfold ckOk at hk
   unfold DataW.trod at h
   split at hk
   · rename_i k' k hu
     obtain rfl := eqK_eq hk
     rw [hu] at h
     cases v <;> simp at h
     obtain ⟨⟨rfl, h2⟩, _⟩ := h
     exact ⟨_, rfl, h2⟩
   · rename_i hu
     rw [hu] at h
     cases v <;> simp at h
     exact ⟨_, rfl⟩
   · rename_i hu
     rw [hu] at h
     cases v <;> simp at h
     exact ⟨_, rfl, h.1⟩
   · cases hk
end
/-! All plain data, flattened: scalars, slices of rows of scalars, structs of these. -/
inductive CT where
 | sc (k : CK)
 | rw (e : TypeId) (ks : List CK)
def CT.cs : CT → Cs
 | .sc _ => none
 | .rw e ks => some (e, ks)
def scsOf : List CT → Option (List CK)
 | [] => some []
 | .sc k :: l => match scsOf l with | some ks => some (k :: ks) | none => none
 | .rw _ _ :: _ => none
def ctsFs (g : TypeId → Option (List CT)) (P : Program) : List Field → Nat → Option (List CT)
 | [], _ => some []
 | f :: fs, j => match g f.type with
   | some l => bif Nat.beq f.offset j && Nat.beq (P.cellsOf f.type) l.length then match ctsFs g P fs (j + l.length) with | some r => some (l ++ r) | none => none else none
   | none => none
def ctsOf (P : Program) : Nat → TypeId → Option (List CT)
 | 0, _ => none
 | n + 1, t => match P.underlying t with
   | some (.int k) => some [.sc (.int k)]
   | some .bool => some [.sc .bool]
   | some .string => some [.sc .str]
   | some (.slice e) => match ctsOf P n e with
     | some l => match scsOf l with
       | some ks => bif Nat.beq (P.cellsOf e) ks.length && Nat.blt 0 ks.length then some [.rw e ks] else none
       | none => none
     | none => none
   | some (.struct fs) => match ctsFs (ctsOf P n) P fs.toList 0 with
     | some l => bif Nat.beq (P.cellsOf t) l.length then some l else none
     | none => none
   | _ => none
def DcK (c : CT) (d : Dc) : Prop :=
 match c with
 | .sc k => ∃ v, kV k v ∧ d = .v (scalV k v)
 | .rw _ ks => ∃ nil n V, n ≤ maxLen ∧ (nil = true → n = 0) ∧ (∀ i, i < n → ∀ (j : Nat) (k : CK), ks[j]? = some k → kV k (V i j)) ∧ d = .rows nil n (colsV V ks 0)
def DcKs : List CT → List Dc → Prop
 | [], ds => ds = []
 | c :: cs, ds => ∃ d ds', ds = d :: ds' ∧ DcK c d ∧ DcKs cs ds'
theorem DcRs_app {w : World} : ∀ {a b : List Cs} {ds es : List Dc} {us vs : List Value}, DcRs w a ds us → DcRs w b es vs → DcRs w (a ++ b) (ds ++ es) (us ++ vs)
 | [], b, ds, es, us, vs, h, h2 => by obtain ⟨rfl, rfl⟩ := h; exact h2
 | c :: a, b, ds, es, us, vs, h, h2 => by
   obtain ⟨d, ds', u, us', rfl, rfl, h3, h4⟩ := h
   exact ⟨d, ds' ++ es, u, us' ++ vs, rfl, rfl, h3, DcRs_app h4 h2⟩
theorem DcKs_app : ∀ {a b : List CT} {ds es : List Dc}, DcKs a ds → DcKs b es → DcKs (a ++ b) (ds ++ es)
 | [], b, ds, es, h, h2 => by simp only [DcKs] at h; subst h; exact h2
 | c :: a, b, ds, es, h, h2 => by
   obtain ⟨d, ds', rfl, h3, h4⟩ := h
   exact ⟨d, ds' ++ es, rfl, h3, DcKs_app h4 h2⟩
theorem kV_inj {k : CK} {v u : Value} (h : kV k v) (r : (scalV k v).R noM u) : u = v := by
 cases k with
 | int k => obtain ⟨n, rfl, _⟩ := h; exact r
 | bool => obtain ⟨n, rfl⟩ := h; exact r
 | str => obtain ⟨s, rfl, _⟩ := h; simpa [scalV, AV.R, strOf] using r
 | ls => exact h.elim
theorem scs_len : ∀ {cts : List CT} {ks : List CK}, scsOf cts = some ks → cts.length = ks.length
 | [], ks, h => by simp [scsOf] at h; subst h; rfl
 | .sc k :: l, ks, h => by
   simp only [scsOf] at h
   split at h
   · rename_i ks' hl
     simp only [Option.some.injEq] at h; subst h; simp [scs_len hl]
   · cases h
 | .rw _ _ :: _, ks, h => by cases h
theorem scs_at {w : World} : ∀ {cts : List CT} {ks : List CK} {ds : List Dc} {us : List Value}, scsOf cts = some ks → DcRs w (cts.map CT.cs) ds us → DcKs cts ds → us.length = ks.length ∧ ∀ (j : Nat) (k : CK), ks[j]? = some k → ∃ v, us[j]? = some v ∧ kV k v
 | [], ks, ds, us, h, h2, _ => by
   simp [scsOf] at h; subst h
   obtain ⟨_, rfl⟩ := h2
   exact ⟨rfl, fun j k hj => by simp at hj⟩
 | .sc k :: l, ks, ds, us, h, h2, h3 => by
   simp only [scsOf] at h
   split at h
   · rename_i ks' hl
     simp only [Option.some.injEq] at h; subst h
     obtain ⟨d, ds', u, us', rfl, rfl, h4, h5⟩ := h2
     obtain ⟨d2, ds2, e, h6, h7⟩ := h3
     simp only [List.cons.injEq] at e
     obtain ⟨rfl, rfl⟩ := e
     obtain ⟨v, q1, rfl⟩ := h6
     have := kV_inj q1 h4
     subst this
     obtain ⟨r1, r2⟩ := scs_at hl h5 h7
     refine ⟨by simp [r1], fun j k' hj => ?_⟩
     cases j with
     | zero => simp at hj; subst hj; exact ⟨_, rfl, q1⟩
     | succ j => simpa using r2 j k' (by simpa using hj)
   · cases h
 | .rw _ _ :: _, ks, ds, us, h, _, _ => by cases h
section
variable {H : Type} {enc : TypeId × Value → H} {P : Program} {w : World} {base : Nat} {spare : Nat → Bool} {held : Bool}
theorem trod_slc {t e : TypeId} {ks : List CK} {v : Value} {fuel : Nat} {x : DataW H × List MemPlace} (hu : P.underlying t = some (.slice e)) (hz : P.cellsOf e = ks.length) (hp : 0 < ks.length)
   (he : ∀ (n : Nat) (cs : List Value) (y : DataW H × List MemPlace), cs.length = P.cellsOf e → DataW.trod enc P w base spare held n e cs = some y → ∀ (j : Nat) (k : CK), ks[j]? = some k → ∃ v, cs[j]? = some v ∧ kV k v)
   (h : DataW.trod enc P w base spare held fuel t [v] = some x) :
   ∃ (nil : Bool) (n : Nat) (V : Nat → Nat → Value), n ≤ maxLen ∧ (nil = true → n = 0) ∧ (∀ i, i < n → ∀ (j : Nat) (k : CK), ks[j]? = some k → kV k (V i j)) ∧ DcR w (some (e, ks)) (.rows nil n (colsV V ks 0)) v := by
 rcases Go.Deep.open_slice hu h with ⟨e1, _⟩ | ⟨a, len, cap, m, n, D, Pl, e1, _, hlc, hcm, hm, _, hx⟩
 · simp at e1; subst e1
   exact ⟨true, 0, fun _ _ => .nilFunc, Nat.zero_le _, fun _ => rfl, fun i hi => by omega, .inl ⟨rfl, rfl, rfl⟩⟩
 · simp at e1; subst e1
   have hlm : len ≤ m := by rw [hm]; split <;> omega
   have key : ∀ i, i < len → ∃ f : Nat → Value, ∀ (j : Nat) (k : CK), ks[j]? = some k → kV k (f j) ∧ w.cell? (a.add (i * ks.length + j)) = some (f j) := fun i hi => by
     obtain ⟨cs', h1, h2⟩ := hx i (by omega)
     obtain ⟨_, hlen, hcell⟩ := World.cells?_some h1
     have q2 := he _ _ _ hlen h2
     refine ⟨fun j => cs'.getD j .nilFunc, fun j k hj => ?_⟩
     obtain ⟨v, e1, e2⟩ := q2 j k hj
     have hjl : j < P.cellsOf e := by rw [hz]; exact (List.getElem?_eq_some_iff.1 hj).1
     have := hcell j hjl
     rw [e1, hz, Go.Deep.add_add] at this
     have e3 : cs'.getD j .nilFunc = v := by rw [List.getD_eq_getElem?_getD, e1]; rfl
     simp only [e3]
     exact ⟨e2, this⟩
   obtain ⟨V, hV⟩ := Go.Deep.choose_lt key
   refine ⟨false, len, V, by omega, (fun e => by cases e), fun i hi j k hj => (hV i hi j k hj).1, .inr ⟨rfl, a, cap, rfl, hlc, ?_⟩⟩
   by_cases h0 : len = 0
   · exact .inl h0
   · right
     obtain ⟨k0, hk0⟩ : ∃ k, ks[0]? = some k := ⟨ks[0], by simp [hp]⟩
     have hc0 := (hV 0 (by omega) 0 k0 hk0).2
     have hsp := World.cell?_spot hc0
     have ha : a = ⟨a.block, a.off, none⟩ := by
       cases a with | mk b o s => simp [Addr.add] at hsp; subst hsp; rfl
     have cell : ∀ k v, w.cell? (a.add k) = some v → ∃ cs e fr, w.heap[a.block]? = some (.cells cs e fr) ∧ cs[a.off + k]? = some v := fun k v hc => by
       rw [ha, addr_add] at hc
       simp only [World.cell?] at hc
       split at hc
       · rename_i cs e fr hb
         exact ⟨cs, e, fr, hb, by simpa using hc⟩
       · cases hc
     obtain ⟨cs, e', fr, hb, _⟩ := cell _ _ hc0
     refine ⟨a.block, a.off, ha, cs, e', fr, hb, fun i hi j hj => ?_⟩
     obtain ⟨kj, hkj⟩ : ∃ k, ks[j]? = some k := ⟨ks[j], by simp [hj]⟩
     obtain ⟨q1, q2⟩ := hV i hi j kj hkj
     obtain ⟨cs2, e2, fr2, hb2, hv⟩ := cell _ _ q2
     rw [hb] at hb2
     simp only [Option.some.injEq, Obj.cells.injEq] at hb2
     obtain ⟨rfl, rfl, rfl⟩ := hb2
     obtain ⟨r1, r2⟩ := kV_R q1
     refine ⟨V i j, by rw [← hv]; congr 1; omega, r2, ?_⟩
     rw [colsV_at hkj, Nat.zero_add]; exact r1
theorem trod_cts : ∀ {n : Nat} {t : TypeId} {cts : List CT} {cs : List Value} {fuel : Nat} {x : DataW H × List MemPlace}, ctsOf P n t = some cts → cs.length = cts.length → DataW.trod enc P w base spare held fuel t cs = some x →
   ∃ ds, DcRs w (cts.map CT.cs) ds cs ∧ DcKs cts ds
 | 0, t, cts, cs, fuel, x, h, _, _ => by cases h
 | n + 1, t, cts, cs, fuel, x, h, hl, ht => by
   have scal : ∀ k, cts = [.sc k] → ckOk P t k = true → ∃ ds, DcRs w (cts.map CT.cs) ds cs ∧ DcKs cts ds := fun k e hk => by
     subst e
     match cs, hl with
     | [v], _ =>
       have := trod_ck hk ht
       exact ⟨[.v (scalV k v)], ⟨_, _, _, _, rfl, rfl, (kV_R this).1, rfl, rfl⟩, ⟨_, _, rfl, ⟨v, this, rfl⟩, rfl⟩⟩
   unfold ctsOf at h
   split at h
   · rename_i k hu
     simp only [Option.some.injEq] at h; exact scal _ h.symm (by simp only [ckOk, hu]; cases k <;> rfl)
   · rename_i hu
     simp only [Option.some.injEq] at h; exact scal _ h.symm (by simp [ckOk, hu])
   · rename_i hu
     simp only [Option.some.injEq] at h; exact scal _ h.symm (by simp [ckOk, hu])
   · rename_i e hu
     split at h
     case h_2 => cases h
     rename_i l hle
     split at h
     case h_2 => cases h
     rename_i ks hks
     simp only [Bool.cond_eq_ite] at h
     split at h
     case isFalse => cases h
     rename_i hc
     simp only [Option.some.injEq] at h; subst h
     simp only [Bool.and_eq_true, nbeq, nblt, decide_eq_true_eq] at hc
     match cs, hl with
     | [v], _ =>
       have hll := scs_len hks
       obtain ⟨nil, m, V, q1, q2, q3, q4⟩ := trod_slc hu hc.1 hc.2 (fun n' cs' y h1 h2 => by
         obtain ⟨ds, r1, r2⟩ := trod_cts hle (by rw [h1, hc.1, hll]) h2
         exact (scs_at hks r1 r2).2) ht
       exact ⟨[_], ⟨_, _, _, _, rfl, rfl, q4, rfl, rfl⟩, ⟨_, _, rfl, ⟨nil, m, V, q1, q2, q3, rfl⟩, rfl⟩⟩
   · rename_i fs hu
     split at h
     case h_2 => cases h
     rename_i l hl2
     simp only [Bool.cond_eq_ite] at h
     split at h
     case isFalse => cases h
     simp only [Option.some.injEq] at h; subst h
     obtain ⟨xs, n', _, _, h3, h4, h5⟩ := DataW.trod_struct hu ht
     have key : ∀ (fl : List Field) (j : Nat) (l : List CT), (∀ f ∈ fl, f ∈ fs.toList) → ctsFs (ctsOf P n) P fl j = some l → (cs.drop j).length = l.length → ∃ ds, DcRs w (l.map CT.cs) ds (cs.drop j) ∧ DcKs l ds := by
       intro fl
       induction fl with
       | nil =>
         intro j l _ e hlen
         simp [ctsFs] at e; subst e
         have : cs.drop j = [] := List.length_eq_zero_iff.1 hlen
         rw [this]
         exact ⟨[], ⟨rfl, rfl⟩, rfl⟩
       | cons f fl ih =>
         intro j l hmem e hlen
         simp only [ctsFs] at e
         split at e
         case h_2 => cases e
         rename_i lf hlf
         simp only [Bool.cond_eq_ite] at e
         split at e
         case isFalse => cases e
         rename_i hc
         simp only [Bool.and_eq_true, nbeq, decide_eq_true_eq] at hc
         obtain ⟨rfl, hc2⟩ := hc
         split at e
         case h_2 => cases e
         rename_i r hr
         simp only [Option.some.injEq] at e; subst e
         simp only [List.length_append] at hlen
         obtain ⟨i, hi⟩ := List.mem_iff_getElem?.1 (hmem f (by simp))
         have hx := h5 i f (by simpa using hi)
         have hxl : i < xs.length := by rw [h4, ← Array.length_toList]; exact (List.getElem?_eq_some_iff.1 hi).1
         rw [List.getElem?_eq_getElem hxl] at hx
         obtain ⟨ds1, r1, r2⟩ := trod_cts hlf (by rw [List.length_take, hc2]; omega) hx
         obtain ⟨ds2, r3, r4⟩ := ih (f.offset + lf.length) r (fun g hg => hmem g (by simp [hg])) hr (by rw [List.length_drop] at hlen ⊢; omega)
         refine ⟨ds1 ++ ds2, ?_, DcKs_app r2 r4⟩
         rw [List.map_append]
         have e2 : cs.drop f.offset = (cs.drop f.offset).take (P.cellsOf f.type) ++ cs.drop (f.offset + lf.length) := by
           rw [hc2, ← List.drop_drop]; exact (List.take_append_drop _ _).symm
         rw [e2]
         exact DcRs_app r1 r3
     exact key fs.toList 0 l (fun _ h => h) hl2 (by simpa using hl)
   · cases h
theorem par_aggN {n : Nat} {t : TypeId} {cts : List CT} {fs : Array Field} {r : Reach} {b0 : Nat} {v : Value} {d : DataW H} {ps : List MemPlace} (hc : ctsOf P n t = some cts) (hu : P.underlying t = some (.struct fs)) (hz : P.cellsOf t = cts.length)
   (hk : Value.okWide P w r b0 t v) (h : DataW.Trod enc P w base spare held t v d ps) : ∃ ds, DaR w (.agg (cts.map CT.cs)) (.agg ds) v ∧ DcKs cts ds := by
 unfold Value.okWide at hk
 rw [hu] at hk
 obtain ⟨cs, rfl, hsz, _⟩ := hk
 obtain ⟨fuel, h⟩ := h
 obtain ⟨ds, q1, q2⟩ := trod_cts hc (by simp [Value.cells, hsz, hz]) h
 exact ⟨ds, ⟨_, rfl, q1⟩, q2⟩
theorem par_cellN {n : Nat} {t : TypeId} {c : CT} {v : Value} {d : DataW H} {ps : List MemPlace} (hc : ctsOf P n t = some [c]) (hv : v.cells = #[v])
   (h : DataW.Trod enc P w base spare held t v d ps) : ∃ d, DaR w (.cell c.cs) (.cell d) v ∧ DcK c d := by
 obtain ⟨fuel, h⟩ := h
 rw [hv] at h
 obtain ⟨ds, q1, q2⟩ := trod_cts hc rfl h
 obtain ⟨d, ds', rfl, q3, q4⟩ := q2
 obtain ⟨d', ds'', u, us', e1, e2, q5, _⟩ := q1
 simp only [List.cons.injEq] at e1 e2
 obtain ⟨rfl, _⟩ := e1
 obtain ⟨rfl, _⟩ := e2
 exact ⟨d, q5, q3⟩
end
end Go.Proofs.YtinijejfhmcmdaaDoor.Ex
end
section
namespace Go.Proofs.YtinijejfhmcmdaaDoor.Ex
open Go Go.RowKit Go.ChangeShapes Go.WideShapes
def lenOf : Value → Nat | .slice _ n _ => n | _ => 0
def Mw (w : World) : Mp := ⟨fun _ => none, fun b => match GL b with | none => cellsW w b | some _ => none⟩
section
variable {H : Type} {enc : TypeId × Value → H} {P : Program} {w : World} {base : Nat} {spare : Nat → Bool} {held : Bool}
end
/-! A law's arguments, and its walk. -/
def heap0 : AH := ⟨.lf, 0, 0, []⟩
theorem get0 (id : Nat) : heap0.get id = none := by unfold heap0 AH.get; cases id <;> rfl
theorem rel0 {w : World} (gw : GW w) : Rel (Mw w) heap0 w := by
 refine ⟨fun id o e => ?_, fun i j b κ κ' o e => ?_, fun x hx => absurd (get0 x) hx, gw, fun x b κ o hx => (by rw [get0] at hx; cases hx), fun b cs e => ?_, fun i b κ o e => ?_⟩
 · rw [get0] at e; cases e
 · rw [get0] at e; cases e
 · unfold Mw at e
   simp only at e
   split at e
   · unfold cellsW at e
     split at e
     · rename_i cs' t fr hb
       simp only [Option.some.injEq] at e; subst e
       exact ⟨t, fr, hb⟩
     · cases e
   · cases e
 · rw [get0] at e; cases e
theorem law_callsP {P : Program} {sm : FuncId → Option Sm} (hm : P.follows .mixedOrders = true) (hs : SmOK P sm) {args : List AV} {us : List Value} {ann : Nat → Option (St → LoopA)} {n : Nat} {f : FuncId} {w : World} (gw : GW w)
   (hr : AV.RL (Mw w) args us) (h : wxF P sm ann n f args heap0 (fun r _ => cmpC (.yb true) r)) :
   Calls P f us.toArray w fun e w' => e = .returned (.bool true) ∧ Below w.heap.size w w' := by
 obtain ⟨_, cc⟩ := wxF_ok hm hs h (Mw w) us w none (fun e w' => e = .returned (.bool true) ∧ Below w.heap.size w w') hr (rel0 gw) (fun _ _ => rfl) (fun v _ M' u w' hk rv _ _ f _ => by
   refine ⟨?_, f.os, f.tape, f.output, f.size, fun k hk2 => f.keep k hk2 (fun ⟨i, κ, o, h1, _⟩ => by rw [get0] at h1; cases h1)⟩
   have := cmpC_R hk rv (M' := noM)
   rw [this])
 exact CallsIn.calls cc (fun k d hd => by simp [FW] at hd)
end Go.Proofs.YtinijejfhmcmdaaDoor.Ex
end
section
namespace Go.Proofs.YtinijejfhmcmdaaDoor.LaidD
open Go Go.RowKit Go.WideShapes Go.ChangeShapes Go.Proofs.YtinijejfhmcmdaaDoor.Ex Go.Proofs.YtinijejfhmcmdaaDoor.Lw
abbrev laid2 : List (String × DataW Unit) := [("unicode.White_Space", Rows.laid_unicode_White_Space), ("strings.asciiSpace", Rows.laid_strings_asciiSpace)]
def numOf : AV → Int
 | .i _ n => n
 | _ => 0
def zs : List Int := ((GL 0).getD []).map numOf
theorem gT : Tryd.prog.globalNamed "strings.asciiSpace" = some 0 := by kernel_rfl
theorem gTType : (Tryd.prog.globals[0]?).map (·.type) = some 107 := by kernel_rfl
theorem cells1 : Tryd.prog.cellsOf 5 = 1 := by kernel_rfl
theorem cellsT : Tryd.prog.cellsOf 107 = 256 := by kernel_rfl
theorem dat : (Rows.laid_strings_asciiSpace : DataW Unit) = Lib.tabData .u8 zs := by kernel_rfl
theorem tab {W : World} (h : laidMetH Tryd.prog laid2 W) : Lib.TabIs Tryd.prog W "strings.asciiSpace" .u8 zs := by
 rw [MakeChecks.laidMetH_plain _ _ _ (by kernel_rfl)] at h
 have h1 := laidMet.tail h
 rw [dat] at h1
 exact Lib.tabIs_of_head gT gTType Tryd.underlying107 Tryd.underlying5 cells1 cellsT h1
theorem rl_ints (M : Mp) : ∀ l : List Int, AV.RL M (l.map fun z => AV.i .u8 z) (l.map fun z => Value.int .u8 z)
 | [] => rfl
 | _ :: l => ⟨_, _, rfl, rl_ints M l, rfl⟩
theorem gl0 : GL 0 = some (zs.map fun z => AV.i .u8 z) := by kernel_rfl
theorem gw {W : World} (h : laidMetH Tryd.prog laid2 W) : GW W := by
 intro g c hg
 have h0 : g = 0 := by
   unfold GL at hg
   cases hb : Nat.beq g 0 with
   | true => exact Nat.eq_of_beq_eq_true hb
   | false => rw [hb] at hg; cases hg
 subst h0
 rw [gl0, Option.some.injEq] at hg
 subst hg
 have ht := tab h
 unfold Lib.TabIs World.var? at ht
 rw [gT, Option.bind_some] at ht
 split at ht
 · rename_i cs t fr he
   simp only [Option.some.injEq] at ht
   subst ht
   exact ⟨_, t, fr, he, rl_ints _ _⟩
 · cases ht
theorem door_met (os : Os) (args : Array Value) : laidMetH Tryd.prog laid2 ((World.doorLaid Tryd.prog 4000 os).forCall (fun _ _ => 0) ⟨#[], args, []⟩).memory :=
 laidMetH_of_parts3 (fuel := 12) (laidMet_of_run' 12 (by kernel_rfl) (by kernel_rfl)) (by kernel_rfl) (by kernel_rfl)
theorem shaped (os : Os) (args : Array Value) : ((World.doorLaid Tryd.prog 4000 os).forCall (fun _ _ => 0) ⟨#[], args, []⟩).Shaped Tryd.prog := by
 exact World.shaped_of_RefB (by kernel_rfl) (by kernel_rfl)
open Go Go.RowKit Go.WideShapes Go.ChangeShapes Go.Proofs.YtinijejfhmcmdaaDoor.Ex Go.Proofs.YtinijejfhmcmdaaDoor.Lw
end Go.Proofs.YtinijejfhmcmdaaDoor.LaidD
end
section
namespace Go.Proofs.YtinijejfhmcmdaaDoor.Ex
open Go Go.RowKit
def isY (b : Bool) (o : Option (AV × AH)) : Bool := match o with | some (.b x, _) => x == b | some (.yb x, _) => x == b | _ => false
theorem callY_calls {P : Program} (hm : P.follows .mixedOrders = true) {sm : FuncId → Option Sm} (hs : SmOK P sm) {n f : Nat} {b : Bool} {args : List AV} {us : List Value} (h : isY b (callS P sm n f args) = true) (ra : AV.RL noM args us) (w : World) (hw : GW w) :
   Calls P f us.toArray w fun e w' => e = .returned (.bool b) ∧ Below w.heap.size w w' := by
 unfold callS at h
 cases hc : callA P ⟨exec P sm n, sm⟩ f args ⟨.lf, 0, 0, []⟩ with
 | none => rw [hc] at h; cases h
 | some p =>
   obtain ⟨v, h'⟩ := p
   rw [hc] at h
   obtain ⟨_, c⟩ := callA_ok (exec_good hm hs n) hc
   have hr : Rel noM ⟨.lf, 0, 0, []⟩ w := ⟨fun x o e => by simp [get_lf] at e, fun x y b κ κ' o hx => by simp [get_lf] at hx, fun x hx => absurd (get_lf _ _ _ x) hx, hw, fun x b κ o hx => (by simp [get_lf] at hx), fun b cs e => (by cases e), fun x b κ o hx => (by simp [get_lf] at hx)⟩
   obtain ⟨_, cc⟩ := c noM us w none (fun e w' => e = .returned (.bool b) ∧ Below w.heap.size w w') ra hr (fun _ _ _ => rfl) (fun M' u w' rv rh f _ => by
     cases v <;> simp only [isY, Bool.false_eq_true, beq_iff_eq] at h
     all_goals subst h
     all_goals simp only [AV.R] at rv
     all_goals
     refine ⟨by rw [rv], f.os, f.tape, f.output, f.size, fun k hk => f.keep k hk (fun id κ o hg => by simp [get_lf] at hg)⟩)
   exact CallsIn.calls cc (fun k d hd => by simp [FW] at hd)
def isS (l : List UInt8) (o : Option (AV × AH)) : Bool := match o with | some (.s l', _) => l == l' | _ => false
theorem ctS_weak {P : Program} {f : FuncId} {gs : List Ag} {F F' : List Da → Option (Bool × AV)} (h : SmCall P f (fun args h => (ctS gs F args h).sel))
   (hw : ∀ ds a, F' ds = some (true, a) → ∃ a', F ds = some (true, a') ∧ ∀ (M : Mp) u, a'.R M u → a.R M u) : SmCall P f (fun args h => (ctS gs F' args h).sel) := by
 intro args h0 v h' hg
 obtain ⟨ds, e1, e⟩ := T.sel_bind_some hg
 split at e
 case h_2 => cases e
 rename_i b a hF
 obtain ⟨rfl, e⟩ := T.sel_must e
 have e := T.sel_ret e
 simp only [Prod.mk.injEq] at e
 obtain ⟨rfl, rfl⟩ := e
 obtain ⟨a', e2, e3⟩ := hw ds _ hF
 have hg2 : (ctS gs F args h0).sel = some (a', h0) := by
   unfold ctS
   rw [T.sel_bind, e1]
   simp only [e2]
   rfl
 obtain ⟨k1, k2⟩ := h args h0 a' h0 hg2
 exact ⟨k1, fun M us w r R ra rr fr k => k2 M us w r R ra rr fr fun M' u w' rv rel f ab => k M' u w' (e3 M' u rv) rel f ab⟩
/-! A closed call that hands back a new slice of scalars. -/
end Go.Proofs.YtinijejfhmcmdaaDoor.Ex
end
section
namespace Go.Proofs.YtinijejfhmcmdaaDoor.Ex
open Go
def rightC (s t f l p : Int) : Bool := decide (1 ≤ s ∧ s ≤ 1000 ∧ 1 ≤ t ∧ t ≤ 64 ∧ 4 ≤ f ∧ f ≤ 64 ∧ 1 ≤ l ∧ l ≤ 64 ∧ 1 ≤ p ∧ p ≤ 1048576)
def wrongC (s t f l p : Int) : Int := if s < 1 ∨ 1000 < s then 0 else if t < 1 ∨ 64 < t then 1 else if f < 4 ∨ 64 < f then 2 else if l < 1 ∨ 64 < l then 3 else if p < 1 ∨ 1048576 < p then 4 else -1
theorem rightC_iff {s t f l p : Int} : rightC s t f l p = true ↔ (1 ≤ s ∧ s ≤ 1000 ∧ 1 ≤ t ∧ t ≤ 64 ∧ 4 ≤ f ∧ f ≤ 64 ∧ 1 ≤ l ∧ l ≤ 64 ∧ 1 ≤ p ∧ p ≤ 1048576) := decide_eq_true_iff
theorem rightC_off {s t f l p : Int} : rightC s t f l p = false ↔ ¬ (1 ≤ s ∧ s ≤ 1000 ∧ 1 ≤ t ∧ t ≤ 64 ∧ 4 ≤ f ∧ f ≤ 64 ∧ 1 ≤ l ∧ l ≤ 64 ∧ 1 ≤ p ∧ p ≤ 1048576) := decide_eq_false_iff_not
abbrev gConf : List Ag := [.agg [none, none, none, none, none]]
abbrev dConf (s t f l p : Int) : List Da := [.agg [.v (.y .i64 s), .v (.y .i64 t), .v (.y .i64 f), .v (.y .i64 l), .v (.y .i64 p)]]
def fRight (ds : List Da) : Option (Bool × AV) :=
 match ds with
 | [.agg [.v (.y .i64 s), .v (.y .i64 t), .v (.y .i64 f), .v (.y .i64 l), .v (.y .i64 p)]] => some (true, .yb (rightC s t f l p))
 | _ => none
def fWrong (ds : List Da) : Option (Bool × AV) :=
 match ds with
 | [.agg [.v (.y .i64 s), .v (.y .i64 t), .v (.y .i64 f), .v (.y .i64 l), .v (.y .i64 p)]] => some (true, .y .i64 (wrongC s t f l p))
 | _ => none
def goalRight : Prop := ∀ (s t f l p : Int), wxF Tryd.prog noSm (fun _ => none) 1000 30 (canA gConf (dConf s t f l p) []).1 (heapOf (canA gConf (dConf s t f l p) []).2) (fun v _ => cmpC (.yb (rightC s t f l p)) v)
def goalWrong : Prop := ∀ (s t f l p : Int), wxF Tryd.prog noSm (fun _ => none) 1000 4 (canA gConf (dConf s t f l p) []).1 (heapOf (canA gConf (dConf s t f l p) []).2) (fun v _ => cmpC (.y .i64 (wrongC s t f l p)) v)
theorem goalRight_eq : goalRight = (∀ (s t f l p : Int),
 (yLt s (1 : Int) = true → rightC s t f l p = false) ∧
   (yLt s (1 : Int) = false →
     (yLt (1000 : Int) s = true → rightC s t f l p = false) ∧
       (yLt (1000 : Int) s = false →
         (yLt t (1 : Int) = true → rightC s t f l p = false) ∧
           (yLt t (1 : Int) = false →
             (yLt (64 : Int) t = true → rightC s t f l p = false) ∧
               (yLt (64 : Int) t = false →
                 (yLt f (4 : Int) = true → rightC s t f l p = false) ∧
                   (yLt f (4 : Int) = false →
                     (yLt (64 : Int) f = true → rightC s t f l p = false) ∧
                       (yLt (64 : Int) f = false →
                         (yLt l (1 : Int) = true → rightC s t f l p = false) ∧
                           (yLt l (1 : Int) = false →
                             (yLt (64 : Int) l = true → rightC s t f l p = false) ∧
                               (yLt (64 : Int) l = false →
                                 (yLt p (1 : Int) = true → rightC s t f l p = false) ∧
                                   (yLt p (1 : Int) = false →
                                     (yLt (1048576 : Int) p = true → rightC s t f l p = false) ∧
                                       (yLt (1048576 : Int) p = false → rightC s t f l p = true))))))))))) := by kernel_rfl
theorem goalRight_ok : goalRight := by
 refine kernel_go goalRight_eq ?_
 intro s t f l p
 simp only [vS, forall_const, rightC_iff, rightC_off]
 omega
theorem goalWrong_eq : goalWrong = (∀ (s t f l p : Int),
 (yLt s (1 : Int) = true → wrongC s t f l p = (0 : Int)) ∧
   (yLt s (1 : Int) = false →
     (yLt (1000 : Int) s = true → wrongC s t f l p = (0 : Int)) ∧
       (yLt (1000 : Int) s = false →
         (yLt t (1 : Int) = true → wrongC s t f l p = (1 : Int)) ∧
           (yLt t (1 : Int) = false →
             (yLt (64 : Int) t = true → wrongC s t f l p = (1 : Int)) ∧
               (yLt (64 : Int) t = false →
                 (yLt f (4 : Int) = true → wrongC s t f l p = (2 : Int)) ∧
                   (yLt f (4 : Int) = false →
                     (yLt (64 : Int) f = true → wrongC s t f l p = (2 : Int)) ∧
                       (yLt (64 : Int) f = false →
                         (yLt l (1 : Int) = true → wrongC s t f l p = (3 : Int)) ∧
                           (yLt l (1 : Int) = false →
                             (yLt (64 : Int) l = true → wrongC s t f l p = (3 : Int)) ∧
                               (yLt (64 : Int) l = false →
                                 (yLt p (1 : Int) = true → wrongC s t f l p = (4 : Int)) ∧
                                   (yLt p (1 : Int) = false →
                                     (yLt (1048576 : Int) p = true → wrongC s t f l p = (4 : Int)) ∧
                                       (yLt (1048576 : Int) p = false → wrongC s t f l p = (-1 : Int)))))))))))) := by kernel_rfl
theorem goalWrong_ok : goalWrong := by
 refine kernel_go goalWrong_eq ?_
 intro s t f l p
 simp only [vS, forall_const]
 unfold wrongC
 repeat' (first | apply And.intro | intro _)
 all_goals (repeat' split)
 all_goals omega
theorem smRight (hm : Tryd.prog.follows .mixedOrders = true) : SmCall Tryd.prog 30 (fun args h => (ctS gConf fRight args h).sel) :=
 ctS_ok hm noSm_ok (by decide) (fun ds a h => by
   unfold fRight at h
   split at h
   · simp only [Option.some.injEq, Prod.mk.injEq, true_and] at h
     subst h
     exact ⟨_, 1000, goalRight_ok _ _ _ _ _⟩
   · cases h)
theorem smWrong (hm : Tryd.prog.follows .mixedOrders = true) : SmCall Tryd.prog 4 (fun args h => (ctS gConf fWrong args h).sel) :=
 ctS_ok hm noSm_ok (by decide) (fun ds a h => by
   unfold fWrong at h
   split at h
   · simp only [Option.some.injEq, Prod.mk.injEq, true_and] at h
     subst h
     exact ⟨_, 1000, goalWrong_ok _ _ _ _ _⟩
   · cases h)
theorem wrapU {n : Nat} (h : n < 18446744073709551616) : IntKind.wrap .u64 (n : Int) = n := wrapU64 (n := (n : Int)) (by omega) (by omega)
theorem bits_and {a b : Nat} (ha : a < 18446744073709551616) (hb : b < 18446744073709551616) : yBits .and .u64 (a : Int) (b : Int) = ((a &&& b : Nat) : Int) := by
 have h : (BitVec.ofNat 64 a &&& BitVec.ofNat 64 b).toNat = a &&& b := by
   rw [BitVec.toNat_and, BitVec.toNat_ofNat, BitVec.toNat_ofNat, Nat.mod_eq_of_lt ha, Nat.mod_eq_of_lt hb]
 show IntKind.wrap .u64 ((BitVec.ofInt 64 (a : Int) &&& BitVec.ofInt 64 (b : Int)).toNat : Int) = _
 rw [BitVec.ofInt_natCast, BitVec.ofInt_natCast, h]
 exact wrapU (Nat.lt_of_le_of_lt Nat.and_le_left ha)
theorem field_get {w at_ n : Nat} (hw : w < 18446744073709551616) (hn : n ≤ 64) (ha : at_ ≤ 64) {M : Int} (hM : M = ((2 ^ n - 1 : Nat) : Int)) : yBits .and .u64 (yShr .u64 (w : Int) (at_ : Int)) M = ((w / 2 ^ at_ % 2 ^ n : Nat) : Int) := by
 subst hM
 have e : yShr .u64 (w : Int) (at_ : Int) = ((w / 2 ^ at_ : Nat) : Int) := by
   unfold yShr
   have : min (Int.toNat (at_ : Int)) (IntKind.bits .u64) = at_ := by
     show min (Int.toNat (at_ : Int)) 64 = at_
     simp; omega
   rw [this]
   have : ((2 : Int) ^ at_) = ((2 ^ at_ : Nat) : Int) := by simp
   rw [this]
   rw [Int.fdiv_eq_ediv_of_nonneg _ (Int.natCast_nonneg _)]
   rfl
 have p1 : 2 ^ n ≤ 18446744073709551616 := Nat.pow_le_pow_right (n := 2) (by omega) hn
 have p3 : 0 < 2 ^ n := Nat.two_pow_pos _
 rw [e, bits_and (Nat.lt_of_le_of_lt (Nat.div_le_self _ _) hw) (by omega), Nat.and_two_pow_sub_one_eq_mod]
theorem quo_u {w c : Nat} (hw : w < 18446744073709551616) : yQuo .u64 (w : Int) (c : Int) = ((w / c : Nat) : Int) := by
 unfold yQuo
 rw [Int.tdiv_eq_ediv_of_nonneg (Int.natCast_nonneg _), ← Int.natCast_ediv]
 exact wrapU (Nat.lt_of_le_of_lt (Nat.div_le_self _ _) hw)
theorem rem_u {w c : Nat} : yRem (w : Int) (c : Int) = ((w % c : Nat) : Int) := by
 unfold yRem
 rw [Int.tmod_eq_emod_of_nonneg (Int.natCast_nonneg _)]; rfl
abbrev gW : List Ag := [.cell none]
abbrev dW (w : Int) : List Da := [.cell (.v (.y .u64 w))]
def inU (w : Int) : Bool := yAnd (yLe 0 w) (yLt w 18446744073709551616)
theorem inU_nat {w : Int} (h : inU w = true) : ∃ n : Nat, w = (n : Int) ∧ n < 18446744073709551616 := by
 simp only [inU, yAnd_t, yLe_t, yLt_t] at h
 exact ⟨w.toNat, by omega, by omega⟩
theorem yWrapN {n : Nat} (h : n < 18446744073709551616) : yWrap .u64 (n : Int) = (n : Int) := wrapU h
def nodeC (t f slot : Int) : Int := 3 + 3 * t + slot * (3 + 2 * f)
def verC (s t f slot : Int) : Int := if 0 ≤ slot ∧ slot ≤ s then nodeC t f slot else -1
def shapeC (s t f slot : Int) : Int := if 0 ≤ slot ∧ slot ≤ s then nodeC t f slot + 1 else -1
def keyC (s t f slot i : Int) : Int := if (0 ≤ slot ∧ slot ≤ s) ∧ 0 ≤ i ∧ i < f then nodeC t f slot + 3 + i else -1
def valC (s t f slot i : Int) : Int := if (0 ≤ slot ∧ slot ≤ s) ∧ 0 ≤ i ∧ i < f then nodeC t f slot + 3 + f + i else -1
abbrev gL1 : List Ag := [.agg [none, none, none, none, none], .cell none]
abbrev gL2 : List Ag := [.agg [none, none, none, none, none], .cell none, .cell none]
abbrev dL1 (s t f l p slot : Int) : List Da := [.agg [.v (.y .i64 s), .v (.y .i64 t), .v (.y .i64 f), .v (.y .i64 l), .v (.y .i64 p)], .cell (.v (.y .i64 slot))]
abbrev dL2 (s t f l p slot i : Int) : List Da := [.agg [.v (.y .i64 s), .v (.y .i64 t), .v (.y .i64 f), .v (.y .i64 l), .v (.y .i64 p)], .cell (.v (.y .i64 slot)), .cell (.v (.y .i64 i))]
def fL1 (F : Int → Int → Int → Int → Int) (ds : List Da) : Option (Bool × AV) :=
 match ds with
 | [.agg [.v (.y .i64 s), .v (.y .i64 t), .v (.y .i64 f), .v (.y .i64 l), .v (.y .i64 p)], .cell (.v (.y .i64 slot))] => some (rightC s t f l p, .y .i64 (F s t f slot))
 | _ => none
def fL2 (F : Int → Int → Int → Int → Int → Int) (ds : List Da) : Option (Bool × AV) :=
 match ds with
 | [.agg [.v (.y .i64 s), .v (.y .i64 t), .v (.y .i64 f), .v (.y .i64 l), .v (.y .i64 p)], .cell (.v (.y .i64 slot)), .cell (.v (.y .i64 i))] => some (rightC s t f l p, .y .i64 (F s t f slot i))
 | _ => none
def fR1 (F : Int → Int → Int → Int → Int) (ds : List Da) : Option (Bool × AV) :=
 match ds with
 | [.agg [.v (.y .i64 s), .v (.y .i64 t), .v (.y .i64 f), .v (.y .i64 l), .v (.y .i64 p)], .cell (.v (.y .i64 slot))] => some (yAnd (rightC s t f l p) (yAnd (yLe 0 slot) (yLe slot s)), .y .i64 (F s t f slot))
 | _ => none
def fR2 (F : Int → Int → Int → Int → Int → Int) (ds : List Da) : Option (Bool × AV) :=
 match ds with
 | [.agg [.v (.y .i64 s), .v (.y .i64 t), .v (.y .i64 f), .v (.y .i64 l), .v (.y .i64 p)], .cell (.v (.y .i64 slot)), .cell (.v (.y .i64 i))] => some (yAnd (yAnd (rightC s t f l p) (yAnd (yLe 0 slot) (yLe slot s))) (yAnd (yLe 0 i) (yLt i f)), .y .i64 (F s t f slot i))
 | _ => none
def gL1goal (P : Program) (f0 : FuncId) (F : Int → Int → Int → Int → Int) : Prop := ∀ (s t f l p slot : Int), rightC s t f l p = true → wxF P noSm (fun _ => none) 1000 f0 (canA gL1 (dL1 s t f l p slot) []).1 (heapOf (canA gL1 (dL1 s t f l p slot) []).2) (fun v _ => cmpC (.y .i64 (F s t f slot)) v)
def gL2goal (P : Program) (f0 : FuncId) (F : Int → Int → Int → Int → Int → Int) : Prop := ∀ (s t f l p slot i : Int), rightC s t f l p = true → wxF P noSm (fun _ => none) 1000 f0 (canA gL2 (dL2 s t f l p slot i) []).1 (heapOf (canA gL2 (dL2 s t f l p slot i) []).2) (fun v _ => cmpC (.y .i64 (F s t f slot i)) v)
def gR1goal (P : Program) (f0 : FuncId) (F : Int → Int → Int → Int → Int) : Prop := ∀ (s t f l p slot : Int), yAnd (rightC s t f l p) (yAnd (yLe 0 slot) (yLe slot s)) = true → wxF P noSm (fun _ => none) 1000 f0 (canA gL1 (dL1 s t f l p slot) []).1 (heapOf (canA gL1 (dL1 s t f l p slot) []).2) (fun v _ => cmpC (.y .i64 (F s t f slot)) v)
def gR2goal (P : Program) (f0 : FuncId) (F : Int → Int → Int → Int → Int → Int) : Prop := ∀ (s t f l p slot i : Int), yAnd (yAnd (rightC s t f l p) (yAnd (yLe 0 slot) (yLe slot s))) (yAnd (yLe 0 i) (yLt i f)) = true → wxF P noSm (fun _ => none) 1000 f0 (canA gL2 (dL2 s t f l p slot i) []).1 (heapOf (canA gL2 (dL2 s t f l p slot i) []).2) (fun v _ => cmpC (.y .i64 (F s t f slot i)) v)
def goalVer : Prop := gL1goal Tryd.prog 43 verC
def goalShp : Prop := gL1goal Tryd.prog 46 shapeC
def goalKey : Prop := gL2goal Tryd.prog 47 keyC
def goalVal : Prop := gL2goal Tryd.prog 44 valC
def goalVerR : Prop := gR1goal Tryd.prog 11 verC
def goalShpR : Prop := gR1goal Tryd.prog 21 shapeC
def goalKeyR : Prop := gR2goal Tryd.prog 51 keyC
def goalValR : Prop := gR2goal Tryd.prog 10 valC
theorem ft' {p : Prop} (h : p = True) : p := of_eq_true h
theorem prod_le' {a b A B : Int} (ha : 0 ≤ a) (hb : 0 ≤ b) (h1 : a ≤ A) (h2 : b ≤ B) : 0 ≤ a * b ∧ a * b ≤ A * B :=
 ⟨Int.mul_nonneg ha hb, Int.mul_le_mul h1 h2 hb (by omega)⟩
theorem lay_prod {s t f l p slot : Int} (h : rightC s t f l p = true) : 0 ≤ slot → slot ≤ s → 0 ≤ slot * (3 + 2 * f) ∧ slot * (3 + 2 * f) ≤ 131000 := fun h1 h2 => by
 have := rightC_iff.1 h
 exact prod_le' (A := 1000) (B := 131) h1 (by omega) (by omega) (by omega)
def goalVerV : Prop := (∀ (s t f l p slot : Int),
 rightC s t f l p = true →
   (yAnd (yEq s 0)
           (yAnd (yEq t 0) (yAnd (yEq f 0) (yAnd (yEq l 0) (yAnd (yEq p 0) true)))) =
         true →
       verC s t f slot = (-1 : Int)) ∧
     (yAnd (yEq s 0)
           (yAnd (yEq t 0) (yAnd (yEq f 0) (yAnd (yEq l 0) (yAnd (yEq p 0) true)))) =
         false →
       (yLe 0 slot = true →
           (yNot (yLt slot (yWrap IntKind.i64 (yAdd s 1))) = true → verC s t f slot = (-1 : Int)) ∧
             (yNot (yLt slot (yWrap IntKind.i64 (yAdd s 1))) = false →
               verC s t f slot =
                 yWrap IntKind.i64
                   (yAdd
                     (yWrap IntKind.i64
                       (yAdd
                         (yWrap IntKind.i64
                           (yAdd
                             (yWrap IntKind.i64
                               (yAdd (yWrap IntKind.i64 (yAdd 3 t)) (yWrap IntKind.i64 (yMul 2 t))))
                             (yWrap IntKind.i64
                               (yMul slot
                                 (yWrap IntKind.i64 (yAdd 3 (yWrap IntKind.i64 (yMul 2 f))))))))
                         (0 : Int)))
                     (0 : Int)))) ∧
         (yLe 0 slot = false → verC s t f slot = (-1 : Int))))
theorem goalVer_eq : goalVer = goalVerV := by kernel_rfl
theorem goalVer_vc : goalVerV := by
 unfold goalVerV
 intro s t f l p slot hr
 have h := rightC_iff.1 hr
 have hp := lay_prod (slot := slot) hr
 clear hr
 simp only [vS, forall_const]
 unfold verC nodeC
 repeat' (first | apply And.intro | intro _)
 all_goals (try simp (disch := omega) only [wrap64] at *)
 all_goals (try (have hq := hp (by omega) (by omega); clear hp; simp (disch := omega) only [wrap64]))
 all_goals (try split)
 all_goals omega
theorem goalVer_tt : (goalVer) = True := goalVer_eq.trans (eq_true goalVer_vc)
theorem goalVer_ok : goalVer := @ft' goalVer goalVer_tt
def goalVerRV : Prop := (∀ (s t f l p slot : Int),
 yAnd (rightC s t f l p) (yAnd (yLe 0 slot) (yLe slot s)) = true →
   verC s t f slot =
     yWrap IntKind.i64
       (yAdd (yWrap IntKind.i64 (yAdd 3 (yWrap IntKind.i64 (yMul 3 t))))
         (yWrap IntKind.i64 (yMul slot (yWrap IntKind.i64 (yAdd 3 (yWrap IntKind.i64 (yMul 2 f))))))))
theorem goalVerR_eq : goalVerR = goalVerRV := by kernel_rfl
theorem goalVerR_vc : goalVerRV := by
 unfold goalVerRV
 intro s t f l p slot hr
 simp only [yAnd_t, yLe_t] at hr
 have h := rightC_iff.1 hr.1
 have hp := lay_prod (slot := slot) hr.1
 have hr2 := hr.2
 have hr3 := hr.1
 simp only [vS, forall_const]
 unfold verC nodeC
 repeat' (first | apply And.intro | intro _)
 all_goals (try simp (disch := omega) only [wrap64] at *)
 all_goals (try (have hq := hp (by omega) (by omega); clear hp; simp (disch := omega) only [wrap64]))
 all_goals (try split)
 all_goals omega
theorem goalVerR_tt : (goalVerR) = True := goalVerR_eq.trans (eq_true goalVerR_vc)
theorem goalVerR_ok : goalVerR := @ft' goalVerR goalVerR_tt
def goalShpV : Prop := (∀ (s t f l p slot : Int),
 rightC s t f l p = true →
   (yAnd (yEq s 0)
           (yAnd (yEq t 0) (yAnd (yEq f 0) (yAnd (yEq l 0) (yAnd (yEq p 0) true)))) =
         true →
       shapeC s t f slot = (-1 : Int)) ∧
     (yAnd (yEq s 0)
           (yAnd (yEq t 0) (yAnd (yEq f 0) (yAnd (yEq l 0) (yAnd (yEq p 0) true)))) =
         false →
       (yLe 0 slot = true →
           (yNot (yLt slot (yWrap IntKind.i64 (yAdd s 1))) = true → shapeC s t f slot = (-1 : Int)) ∧
             (yNot (yLt slot (yWrap IntKind.i64 (yAdd s 1))) = false →
               shapeC s t f slot =
                 yWrap IntKind.i64
                   (yAdd
                     (yWrap IntKind.i64
                       (yAdd
                         (yWrap IntKind.i64
                           (yAdd
                             (yWrap IntKind.i64
                               (yAdd (yWrap IntKind.i64 (yAdd 3 t)) (yWrap IntKind.i64 (yMul 2 t))))
                             (yWrap IntKind.i64
                               (yMul slot
                                 (yWrap IntKind.i64 (yAdd 3 (yWrap IntKind.i64 (yMul 2 f))))))))
                         (1 : Int)))
                     (0 : Int)))) ∧
         (yLe 0 slot = false → shapeC s t f slot = (-1 : Int))))
theorem goalShp_eq : goalShp = goalShpV := by kernel_rfl
theorem goalShp_vc : goalShpV := by
 unfold goalShpV
 intro s t f l p slot hr
 have h := rightC_iff.1 hr
 have hp := lay_prod (slot := slot) hr
 clear hr
 simp only [vS, forall_const]
 unfold shapeC nodeC
 repeat' (first | apply And.intro | intro _)
 all_goals (try simp (disch := omega) only [wrap64] at *)
 all_goals (try (have hq := hp (by omega) (by omega); clear hp; simp (disch := omega) only [wrap64]))
 all_goals (try split)
 all_goals omega
theorem goalShp_tt : (goalShp) = True := goalShp_eq.trans (eq_true goalShp_vc)
theorem goalShp_ok : goalShp := @ft' goalShp goalShp_tt
def goalShpRV : Prop := (∀ (s t f l p slot : Int),
 yAnd (rightC s t f l p) (yAnd (yLe 0 slot) (yLe slot s)) = true →
   shapeC s t f slot =
     yWrap IntKind.i64
       (yAdd
         (yWrap IntKind.i64
           (yAdd (yWrap IntKind.i64 (yAdd 3 (yWrap IntKind.i64 (yMul 3 t))))
             (yWrap IntKind.i64
               (yMul slot (yWrap IntKind.i64 (yAdd 3 (yWrap IntKind.i64 (yMul 2 f))))))))
         (1 : Int)))
theorem goalShpR_eq : goalShpR = goalShpRV := by kernel_rfl
theorem goalShpR_vc : goalShpRV := by
 unfold goalShpRV
 intro s t f l p slot hr
 simp only [yAnd_t, yLe_t, yLt_t] at hr
 have h := rightC_iff.1 hr.1
 have hp := lay_prod (slot := slot) hr.1
 have hr2 := hr.2
 have hr3 := hr.1
 simp only [vS, forall_const]
 unfold shapeC nodeC
 repeat' (first | apply And.intro | intro _)
 all_goals (try simp (disch := omega) only [wrap64] at *)
 all_goals (try (have hq := hp (by omega) (by omega); clear hp; simp (disch := omega) only [wrap64]))
 all_goals (try split)
 all_goals omega
theorem goalShpR_tt : (goalShpR) = True := goalShpR_eq.trans (eq_true goalShpR_vc)
theorem goalShpR_ok : goalShpR := @ft' goalShpR goalShpR_tt
def goalKeyV : Prop := (∀ (s t f l p slot i : Int),
 rightC s t f l p = true →
   (yAnd (yEq s 0)
           (yAnd (yEq t 0) (yAnd (yEq f 0) (yAnd (yEq l 0) (yAnd (yEq p 0) true)))) =
         true →
       keyC s t f slot i = (-1 : Int)) ∧
     (yAnd (yEq s 0)
           (yAnd (yEq t 0) (yAnd (yEq f 0) (yAnd (yEq l 0) (yAnd (yEq p 0) true)))) =
         false →
       (yLe 0 slot = true →
           (yNot (yLt slot (yWrap IntKind.i64 (yAdd s 1))) = true → keyC s t f slot i = (-1 : Int)) ∧
             (yNot (yLt slot (yWrap IntKind.i64 (yAdd s 1))) = false →
               (yLe 0 i = true →
                   (yNot (yLt i f) = true → keyC s t f slot i = (-1 : Int)) ∧
                     (yNot (yLt i f) = false →
                       keyC s t f slot i =
                         yWrap IntKind.i64
                           (yAdd
                             (yWrap IntKind.i64
                               (yAdd
                                 (yWrap IntKind.i64
                                   (yAdd
                                     (yWrap IntKind.i64
                                       (yAdd (yWrap IntKind.i64 (yAdd 3 t))
                                         (yWrap IntKind.i64 (yMul 2 t))))
                                     (yWrap IntKind.i64
                                       (yMul slot
                                         (yWrap IntKind.i64
                                           (yAdd 3 (yWrap IntKind.i64 (yMul 2 f))))))))
                                 (3 : Int)))
                             i))) ∧
                 (yLe 0 i = false → keyC s t f slot i = (-1 : Int)))) ∧
         (yLe 0 slot = false → keyC s t f slot i = (-1 : Int))))
theorem goalKey_eq : goalKey = goalKeyV := by kernel_rfl
theorem goalKey_vc : goalKeyV := by
 unfold goalKeyV
 intro s t f l p slot i hr
 have h := rightC_iff.1 hr
 have hp := lay_prod (slot := slot) hr
 clear hr
 simp only [vS, forall_const]
 unfold keyC nodeC
 repeat' (first | apply And.intro | intro _)
 all_goals (try simp (disch := omega) only [wrap64] at *)
 all_goals (try (have hq := hp (by omega) (by omega); clear hp; simp (disch := omega) only [wrap64]))
 all_goals (try split)
 all_goals omega
theorem goalKey_tt : (goalKey) = True := goalKey_eq.trans (eq_true goalKey_vc)
theorem goalKey_ok : goalKey := @ft' goalKey goalKey_tt
def goalKeyRV : Prop := (∀ (s t f l p slot i : Int),
 yAnd (yAnd (rightC s t f l p) (yAnd (yLe 0 slot) (yLe slot s))) (yAnd (yLe 0 i) (yLt i f)) = true →
   keyC s t f slot i =
     yWrap IntKind.i64
       (yAdd
         (yWrap IntKind.i64
           (yAdd
             (yWrap IntKind.i64
               (yAdd (yWrap IntKind.i64 (yAdd 3 (yWrap IntKind.i64 (yMul 3 t))))
                 (yWrap IntKind.i64
                   (yMul slot (yWrap IntKind.i64 (yAdd 3 (yWrap IntKind.i64 (yMul 2 f))))))))
             (3 : Int)))
         i))
theorem goalKeyR_eq : goalKeyR = goalKeyRV := by kernel_rfl
theorem goalKeyR_vc : goalKeyRV := by
 unfold goalKeyRV
 intro s t f l p slot i hr
 simp only [yAnd_t, yLe_t, yLt_t] at hr
 have h := rightC_iff.1 hr.1.1
 have hp := lay_prod (slot := slot) hr.1.1
 have hr2 := hr.2
 have hr3 := hr.1.2
 simp only [vS, forall_const]
 unfold keyC nodeC
 repeat' (first | apply And.intro | intro _)
 all_goals (try simp (disch := omega) only [wrap64] at *)
 all_goals (try (have hq := hp (by omega) (by omega); clear hp; simp (disch := omega) only [wrap64]))
 all_goals (try split)
 all_goals omega
theorem goalKeyR_tt : (goalKeyR) = True := goalKeyR_eq.trans (eq_true goalKeyR_vc)
theorem goalKeyR_ok : goalKeyR := @ft' goalKeyR goalKeyR_tt
def goalValV : Prop := (∀ (s t f l p slot i : Int),
 rightC s t f l p = true →
   (yAnd (yEq s 0)
           (yAnd (yEq t 0) (yAnd (yEq f 0) (yAnd (yEq l 0) (yAnd (yEq p 0) true)))) =
         true →
       valC s t f slot i = (-1 : Int)) ∧
     (yAnd (yEq s 0)
           (yAnd (yEq t 0) (yAnd (yEq f 0) (yAnd (yEq l 0) (yAnd (yEq p 0) true)))) =
         false →
       (yLe 0 slot = true →
           (yNot (yLt slot (yWrap IntKind.i64 (yAdd s 1))) = true → valC s t f slot i = (-1 : Int)) ∧
             (yNot (yLt slot (yWrap IntKind.i64 (yAdd s 1))) = false →
               (yLe 0 i = true →
                   (yNot (yLt i f) = true → valC s t f slot i = (-1 : Int)) ∧
                     (yNot (yLt i f) = false →
                       valC s t f slot i =
                         yWrap IntKind.i64
                           (yAdd
                             (yWrap IntKind.i64
                               (yAdd
                                 (yWrap IntKind.i64
                                   (yAdd
                                     (yWrap IntKind.i64
                                       (yAdd (yWrap IntKind.i64 (yAdd 3 t))
                                         (yWrap IntKind.i64 (yMul 2 t))))
                                     (yWrap IntKind.i64
                                       (yMul slot
                                         (yWrap IntKind.i64
                                           (yAdd 3 (yWrap IntKind.i64 (yMul 2 f))))))))
                                 (yWrap IntKind.i64 (yAdd 3 f))))
                             i))) ∧
                 (yLe 0 i = false → valC s t f slot i = (-1 : Int)))) ∧
         (yLe 0 slot = false → valC s t f slot i = (-1 : Int))))
theorem goalVal_eq : goalVal = goalValV := by kernel_rfl
theorem goalVal_vc : goalValV := by
 unfold goalValV
 intro s t f l p slot i hr
 have h := rightC_iff.1 hr
 have hp := lay_prod (slot := slot) hr
 clear hr
 simp only [vS, forall_const]
 unfold valC nodeC
 repeat' (first | apply And.intro | intro _)
 all_goals (try simp (disch := omega) only [wrap64] at *)
 all_goals (try (have hq := hp (by omega) (by omega); clear hp; simp (disch := omega) only [wrap64]))
 all_goals (try split)
 all_goals omega
theorem goalVal_tt : (goalVal) = True := goalVal_eq.trans (eq_true goalVal_vc)
theorem goalVal_ok : goalVal := @ft' goalVal goalVal_tt
def goalValRV : Prop := (∀ (s t f l p slot i : Int),
 yAnd (yAnd (rightC s t f l p) (yAnd (yLe 0 slot) (yLe slot s))) (yAnd (yLe 0 i) (yLt i f)) = true →
   valC s t f slot i =
     yWrap IntKind.i64
       (yAdd
         (yWrap IntKind.i64
           (yAdd
             (yWrap IntKind.i64
               (yAdd
                 (yWrap IntKind.i64
                   (yAdd (yWrap IntKind.i64 (yAdd 3 (yWrap IntKind.i64 (yMul 3 t))))
                     (yWrap IntKind.i64
                       (yMul slot (yWrap IntKind.i64 (yAdd 3 (yWrap IntKind.i64 (yMul 2 f))))))))
                 (3 : Int)))
             f))
         i))
theorem goalValR_eq : goalValR = goalValRV := by kernel_rfl
theorem goalValR_vc : goalValRV := by
 unfold goalValRV
 intro s t f l p slot i hr
 simp only [yAnd_t, yLe_t, yLt_t] at hr
 have h := rightC_iff.1 hr.1.1
 have hp := lay_prod (slot := slot) hr.1.1
 have hr2 := hr.2
 have hr3 := hr.1.2
 simp only [vS, forall_const]
 unfold valC nodeC
 repeat' (first | apply And.intro | intro _)
 all_goals (try simp (disch := omega) only [wrap64] at *)
 all_goals (try (have hq := hp (by omega) (by omega); clear hp; simp (disch := omega) only [wrap64]))
 all_goals (try split)
 all_goals omega
theorem goalValR_tt : (goalValR) = True := goalValR_eq.trans (eq_true goalValR_vc)
theorem goalValR_ok : goalValR := @ft' goalValR goalValR_tt
theorem smL1 {f : FuncId} {F : Int → Int → Int → Int → Int} (hm : Tryd.prog.follows .mixedOrders = true) (hg : gL1goal Tryd.prog f F) : SmCall Tryd.prog f (fun args h => (ctS gL1 (fL1 F) args h).sel) :=
 ctS_ok hm noSm_ok (by decide) (fun ds a h => by
   unfold fL1 at h
   split at h
   · simp only [Option.some.injEq, Prod.mk.injEq] at h
     obtain ⟨h1, rfl⟩ := h
     exact ⟨_, 1000, hg _ _ _ _ _ _ h1⟩
   · cases h)
theorem smL2 {f : FuncId} {F : Int → Int → Int → Int → Int → Int} (hm : Tryd.prog.follows .mixedOrders = true) (hg : gL2goal Tryd.prog f F) : SmCall Tryd.prog f (fun args h => (ctS gL2 (fL2 F) args h).sel) :=
 ctS_ok hm noSm_ok (by decide) (fun ds a h => by
   unfold fL2 at h
   split at h
   · simp only [Option.some.injEq, Prod.mk.injEq] at h
     obtain ⟨h1, rfl⟩ := h
     exact ⟨_, 1000, hg _ _ _ _ _ _ _ h1⟩
   · cases h)
theorem smR1 {f : FuncId} {F : Int → Int → Int → Int → Int} (hm : Tryd.prog.follows .mixedOrders = true) (hg : gR1goal Tryd.prog f F) : SmCall Tryd.prog f (fun args h => (ctS gL1 (fR1 F) args h).sel) :=
 ctS_ok hm noSm_ok (by decide) (fun ds a h => by
   unfold fR1 at h
   split at h
   · simp only [Option.some.injEq, Prod.mk.injEq] at h
     obtain ⟨h1, rfl⟩ := h
     exact ⟨_, 1000, hg _ _ _ _ _ _ h1⟩
   · cases h)
theorem smR2 {f : FuncId} {F : Int → Int → Int → Int → Int → Int} (hm : Tryd.prog.follows .mixedOrders = true) (hg : gR2goal Tryd.prog f F) : SmCall Tryd.prog f (fun args h => (ctS gL2 (fR2 F) args h).sel) :=
 ctS_ok hm noSm_ok (by decide) (fun ds a h => by
   unfold fR2 at h
   split at h
   · simp only [Option.some.injEq, Prod.mk.injEq] at h
     obtain ⟨h1, rfl⟩ := h
     exact ⟨_, 1000, hg _ _ _ _ _ _ _ h1⟩
   · cases h)
def Rises (kf : Nat → Int) (n : Nat) : Prop := ∀ j, j + 1 < n → kf j < kf (j + 1)
def risesB (kf : Nat → Int) (n : Nat) : Bool := (List.range n).all fun j => decide (j + 1 < n → kf j < kf (j + 1))
theorem risesB_iff {kf : Nat → Int} {n : Nat} : risesB kf n = true ↔ Rises kf n := by
 simp only [risesB, List.all_eq_true, List.mem_range, decide_eq_true_eq, Rises]
 exact ⟨fun h j hj => h j (by omega) hj, fun h j _ hj => h j hj⟩
def msFit (n i : Nat) : Nat := n - i
abbrev cU : Cs := some (25, [.int .u64])
theorem yNatSub {i : Nat} (h : 1 ≤ i) : yNat ((i : Int) - 1) = i - 1 := by unfold yNat; omega
theorem Rises.step {kf : Nat → Int} {i : Nat} (h : Rises kf i) (k : 1 ≤ i → kf (i - 1) < kf i) : Rises kf (i + 1) := fun j hj => by
 by_cases e : j + 1 < i
 · exact h j e
 · have : i = j + 1 := by omega
   subst this
   have := k (by omega)
   simpa using this
theorem Rises.not {kf : Nat → Int} {i n : Nat} (h1 : 1 ≤ i) (h2 : i < n) (k : kf i ≤ kf (i - 1)) : ¬ Rises kf n := fun h => by
 have := h (i - 1) (by omega)
 rw [show i - 1 + 1 = i by omega] at this
 omega
abbrev wxP (P : Program) (sm : FuncId → Option Sm) (ann : Nat → Option (St → LoopA)) (f : FuncId) (ss : List Sx) (ds : List Dx) (rs : Sx) (r : Dx) (post : List (List Dx)) : Prop :=
 wxF P sm ann 1000 f (canXs nmI ss ds []).1 (heapOf (canXs nmI ss ds []).2)
   (postX (canXs nmI ss ds []).2.length (delX 0 (canXs nmI ss ds []).2 (ptrId ss (canXs nmI ss ds []).1)) (ptrId ss (canXs nmI ss ds []).1) (expR (fun j => (canXs nmI ss ds []).2.length + j) (ptrSh ss ds) rs r post))
abbrev sConf : Sx := .agg [.sc, .sc, .sc, .sc, .sc]
abbrev roU : Sx := .ro 25 [.int .u64]
abbrev dCf (s t f l p : Int) : Dx := .l [.v (.y .i64 s), .v (.y .i64 t), .v (.y .i64 f), .v (.y .i64 l), .v (.y .i64 p)]
def sizeC (s t f : Int) : Int := 3 + 3 * t + (s + 1) * (3 + 2 * f)
theorem smVer (hm : Tryd.prog.follows .mixedOrders = true) : SmCall Tryd.prog 43 (fun args h => (ctS gL1 (fL1 verC) args h).sel) := smL1 (f := 43) (F := verC) hm @goalVer_ok
theorem smVal (hm : Tryd.prog.follows .mixedOrders = true) : SmCall Tryd.prog 44 (fun args h => (ctS gL2 (fL2 valC) args h).sel) := smL2 (f := 44) (F := valC) hm @goalVal_ok
theorem smVerR (hm : Tryd.prog.follows .mixedOrders = true) : SmCall Tryd.prog 11 (fun args h => (ctS gL1 (fR1 verC) args h).sel) := smR1 (f := 11) (F := verC) hm @goalVerR_ok
theorem smValR (hm : Tryd.prog.follows .mixedOrders = true) : SmCall Tryd.prog 10 (fun args h => (ctS gL2 (fR2 valC) args h).sel) := smR2 (f := 10) (F := valC) hm @goalValR_ok
end Go.Proofs.YtinijejfhmcmdaaDoor.Ex
end
section
namespace Go.Proofs.YtinijejfhmcmdaaDoor.Ex
open Go
def tmpId (tm : Tr AV) (t : Nat) : List Nat := match evT tm (.tmp t) with | .ysl _ _ id _ _ _ => [id] | .sl id _ _ _ _ => [id] | _ => []
end Go.Proofs.YtinijejfhmcmdaaDoor.Ex
end
section
namespace Go.Proofs.YtinijejfhmcmdaaDoor.Ex
open Go
theorem yNat_yInt (m : Nat) : yNat (yInt m) = m := by unfold yNat yInt; omega
end Go.Proofs.YtinijejfhmcmdaaDoor.Ex
end
section
namespace Go.Proofs.YtinijejfhmcmdaaDoor.Ex
open Go
def slotC (h : Int) : Int := h % 65536
def hrC (h s : Int) : Bool := decide (1 ≤ h % 65536 ∧ h % 65536 ≤ s ∧ h < 1099511627776)
def fSl16 (ds : List Da) : Option (Bool × AV) :=
 match ds with
 | [.cell (.v (.y .u64 w))] => some (inU w, .y .i64 (slotC w))
 | _ => none
def gSlgoal (P : Program) (f : FuncId) : Prop := ∀ (w : Int), inU w = true → wxF P noSm (fun _ => none) 1000 f (canA gW (dW w) []).1 (heapOf (canA gW (dW w) []).2) (fun v _ => cmpC (.y .i64 (slotC w)) v)
abbrev gHr : List Ag := [.cell none, .cell none]
abbrev dHr (w s : Int) : List Da := [.cell (.v (.y .u64 w)), .cell (.v (.y .i64 s))]
def fHr (ds : List Da) : Option (Bool × AV) :=
 match ds with
 | [.cell (.v (.y .u64 w)), .cell (.v (.y .i64 s))] => some (inU w, .yb (hrC w s))
 | _ => none
def lSl16 : List (Nat × Sm) := [(41, .ct (ctS gW fSl16)), (17, .ct (ctS gW fSl16))]
def gHrgoal (P : Program) (f : FuncId) : Prop := ∀ (w s : Int), inU w = true → wxF P (smL lSl16) (fun _ => none) 1000 f (canA gHr (dHr w s) []).1 (heapOf (canA gHr (dHr w s) []).2) (fun v _ => cmpC (.yb (hrC w s)) v)
def goalSl16 : Prop := gSlgoal Tryd.prog 41
def goalSl16R : Prop := gSlgoal Tryd.prog 17
def goalHr : Prop := gHrgoal Tryd.prog 56
def goalHrR : Prop := gHrgoal Tryd.prog 24
def goalSl16V : Prop := (∀ (w : Int), yAnd (yLe 0 w) (yLt w 18446744073709551616) = true → (yLe 0 (0 : Int) = true → slotC w = yWrap IntKind.i64 (yBits BinOp.and IntKind.u64 (yShr IntKind.u64 w 0) 65535)) ∧ (yLe 0 (0 : Int) = false → False))
theorem goalSl16_eq : goalSl16 = goalSl16V := by kernel_rfl
theorem goalSl16_vc : goalSl16V := by
 unfold goalSl16V
 intro w h
 obtain ⟨n, rfl, hn⟩ := inU_nat h
 have e : yBits .and .u64 (yShr .u64 (n : Int) 0) 65535 = ((n / 2 ^ 0 % 2 ^ 16 : Nat) : Int) := field_get (at_ := 0) (n := 16) hn (by omega) (by omega) rfl
 rw [e]
 refine ⟨fun _ => ?_, fun h => by cases h⟩
 rw [wrap64 (by omega) (by omega)]
 unfold slotC; omega
theorem goalSl16_tt : (goalSl16) = True := goalSl16_eq.trans (eq_true goalSl16_vc)
theorem goalSl16_ok : goalSl16 := @ft' goalSl16 goalSl16_tt
def goalSl16RV : Prop := (∀ (w : Int), yAnd (yLe 0 w) (yLt w 18446744073709551616) = true → (yEq 65536 (0 : Int) = true → False) ∧ (yEq 65536 (0 : Int) = false → slotC w = yWrap IntKind.i64 (yRem w 65536)))
theorem goalSl16R_eq : goalSl16R = goalSl16RV := by kernel_rfl
theorem goalSl16R_vc : goalSl16RV := by
 unfold goalSl16RV
 intro w h
 obtain ⟨n, rfl, hn⟩ := inU_nat h
 have e : yRem (n : Int) 65536 = ((n % 65536 : Nat) : Int) := rem_u (c := 65536)
 rw [e]
 refine ⟨fun h => by rw [yEq_t] at h; omega, fun _ => ?_⟩
 rw [wrap64 (by omega) (by omega)]
 unfold slotC; omega
theorem goalSl16R_tt : (goalSl16R) = True := goalSl16R_eq.trans (eq_true goalSl16R_vc)
theorem goalSl16R_ok : goalSl16R := @ft' goalSl16R goalSl16R_tt
theorem shr40 {w : Nat} : yShr .u64 (w : Int) 40 = ((w / 1099511627776 : Nat) : Int) := by
 have h : (2 : Int) ^ (min (40 : Int).toNat (IntKind.bits .u64)) = 1099511627776 := by decide
 unfold yShr
 rw [h, Int.fdiv_eq_ediv_of_nonneg _ (by omega)]
 omega
theorem hrC_t {w s : Int} : hrC w s = true ↔ (1 ≤ w % 65536 ∧ w % 65536 ≤ s ∧ w < 1099511627776) := decide_eq_true_iff
theorem hrC_f {w s : Int} : hrC w s = false ↔ ¬ (1 ≤ w % 65536 ∧ w % 65536 ≤ s ∧ w < 1099511627776) := decide_eq_false_iff_not
def goalHrV : Prop := (∀ (w s : Int), yAnd (yLe 0 w) (yLt w 18446744073709551616) = true → (yAnd (yLe 0 w) (yLt w 18446744073709551616) = true → (yLe 1 (slotC w) = true → (yAnd (yLe 0 w) (yLt w 18446744073709551616) = true → (yLe (slotC w) s = true → (yLe 0 (40 : Int) = true → hrC w s = yEq (yShr IntKind.u64 w 40) 0) ∧ (yLe 0 (40 : Int) = false → False)) ∧ (yLe (slotC w) s = false → hrC w s = false)) ∧ (yAnd (yLe 0 w) (yLt w 18446744073709551616) = false → False)) ∧ (yLe 1 (slotC w) = false → hrC w s = false)) ∧ (yAnd (yLe 0 w) (yLt w 18446744073709551616) = false → False))
theorem goalHr_eq : goalHr = goalHrV := by kernel_rfl
theorem goalHr_vc : goalHrV := by
 unfold goalHrV
 intro w s h
 obtain ⟨n, rfl, hn⟩ := inU_nat h
 rw [shr40]
 have hs : slotC (n : Int) = (n : Int) % 65536 := rfl
 simp only [vS, forall_const, hs, hrC_f]
 repeat' (first | apply And.intro | intro _)
 all_goals first
   | (exfalso; omega)
   | omega
   | (cases hq : yEq ((n / 1099511627776 : Nat) : Int) 0 with
      | true => rw [yEq_t] at hq; rw [hrC_t]; omega
      | false => rw [yEq_f] at hq; rw [hrC_f]; omega)
theorem goalHr_tt : (goalHr) = True := goalHr_eq.trans (eq_true goalHr_vc)
theorem goalHr_ok : goalHr := @ft' goalHr goalHr_tt
def goalHrRV : Prop := (∀ (w s : Int), yAnd (yLe 0 w) (yLt w 18446744073709551616) = true → (yAnd (yLe 0 w) (yLt w 18446744073709551616) = true → (yLe 1 (slotC w) = true → (yAnd (yLe 0 w) (yLt w 18446744073709551616) = true → (yLe (slotC w) s = true → hrC w s = yLt w 1099511627776) ∧ (yLe (slotC w) s = false → hrC w s = false)) ∧ (yAnd (yLe 0 w) (yLt w 18446744073709551616) = false → False)) ∧ (yLe 1 (slotC w) = false → hrC w s = false)) ∧ (yAnd (yLe 0 w) (yLt w 18446744073709551616) = false → False))
theorem goalHrR_eq : goalHrR = goalHrRV := by kernel_rfl
theorem goalHrR_vc : goalHrRV := by
 unfold goalHrRV
 intro w s h
 obtain ⟨n, rfl, hn⟩ := inU_nat h
 have hs : slotC (n : Int) = (n : Int) % 65536 := rfl
 simp only [vS, forall_const, hs, hrC_f]
 repeat' (first | apply And.intro | intro _)
 all_goals first
   | (exfalso; omega)
   | omega
   | (cases hq : yLt (n : Int) 1099511627776 with
      | true => rw [yLt_t] at hq; rw [hrC_t]; omega
      | false => rw [yLt_f] at hq; rw [hrC_f]; omega)
theorem goalHrR_tt : (goalHrR) = True := goalHrR_eq.trans (eq_true goalHrR_vc)
theorem goalHrR_ok : goalHrR := @ft' goalHrR goalHrR_tt
theorem smSl16 {f : FuncId} (hm : Tryd.prog.follows .mixedOrders = true) (h : gSlgoal Tryd.prog f) : SmCall Tryd.prog f (fun args h => (ctS gW fSl16 args h).sel) :=
 ctS_ok hm noSm_ok (by decide) (fun ds a hd => by
   unfold fSl16 at hd
   split at hd
   · simp only [Option.some.injEq, Prod.mk.injEq] at hd
     obtain ⟨h1, rfl⟩ := hd
     exact ⟨_, 1000, h _ h1⟩
   · cases hd)
theorem lSl16_ok (hm : Tryd.prog.follows .mixedOrders = true) : SmAll Tryd.prog lSl16 := ⟨smSl16 hm @goalSl16_ok, smSl16 hm @goalSl16R_ok, trivial⟩
theorem smHr {f : FuncId} (hm : Tryd.prog.follows .mixedOrders = true) (h : gHrgoal Tryd.prog f) : SmCall Tryd.prog f (fun args h => (ctS gHr fHr args h).sel) :=
 ctS_ok hm (smL_ok (lSl16_ok hm)) (by decide) (fun ds a hd => by
   unfold fHr at hd
   split at hd
   · simp only [Option.some.injEq, Prod.mk.injEq] at hd
     obtain ⟨h1, rfl⟩ := hd
     exact ⟨_, 1000, h _ _ h1⟩
   · cases hd)
structure EdS where
 h : Int
 v : Int
 n : Int
 kd : Int
 ix : Int
 key : Int
 val : Int
 at_ : Int
 nb : Bool
 kn : Bool
 nk : Nat
 k : Nat → Int
 vn : Bool
 nv : Nat
 w : Nat → Int
 lk : Int
 wn : Bool
 nw : Nat
 wa : Nat → Int
 wb : Nat → Int
instance : Inhabited EdS := ⟨⟨0, 0, 0, 0, 0, 0, 0, 0, false, true, 0, fun _ => 0, true, 0, fun _ => 0, 0, true, 0, fun _ => 0, fun _ => 0⟩⟩
abbrev plU : Sx := .pl [.int .u64]
abbrev rW4 : Sx := .agg [.sc, .sc, .sc, .sc]
end Go.Proofs.YtinijejfhmcmdaaDoor.Ex
end
section
namespace Go.Proofs.YtinijejfhmcmdaaDoor.Ex
open Go
def prFd (n i : Nat) : Prop := i ≤ n
def updW (w : Nat → Int) (a : Nat) (v : Int) (j : Nat) : Int := if j = a then v else w j
def lkC (s t f slot : Int) : Int := if 0 ≤ slot ∧ slot ≤ s then nodeC t f slot + 2 else -1
def nB (t f s : Int) : Nat := yNat (nodeC t f s)
def sizeN (s t f : Int) : Nat := yNat (sizeC s t f)
abbrev mutU : Sx := .mut 25 [.int .u64]
abbrev ownU : Sx := .own 25 [.int .u64]
abbrev sNdP : Sx := .agg [.sc, plU, plU, .sc]
abbrev dNo (i kn : Bool) (nk : Nat) (k : Nat → Int) (vn : Bool) (nv : Nat) (v : Nat → Int) (l : Int) : Dx := .l [.v (.yb i), .rows kn nk [.int .u64 k], .rows vn nv [.int .u64 v], .v (.y .u64 l)]
abbrev arM (n : Nat) (w : Nat → Int) : AO := .arr false 25 1 n (colF [.int .u64 w])
abbrev slM (id n : Nat) : AV := .ysl false (yNeq n 0) id 1 0 n
def fWrgT (ds : List Da) : Option (Bool × AV) :=
 match ds with
 | [.agg [.v (.y .i64 s), .v (.y .i64 t), .v (.y .i64 f), .v (.y .i64 l), .v (.y .i64 p)]] => some (rightC s t f l p, .i .i64 (-1))
 | _ => none
def fSz (ds : List Da) : Option (Bool × AV) :=
 match ds with
 | [.agg [.v (.y .i64 s), .v (.y .i64 t), .v (.y .i64 f), .v (.y .i64 l), .v (.y .i64 p)]] => some (rightC s t f l p, .y .i64 (sizeC s t f))
 | _ => none
def lMe0 : List (Nat × Sm) := [(4, .ct (ctS gConf fWrgT))]
def lMe : List (Nat × Sm) := [(11, .ct (ctS gL1 (fR1 verC))), (21, .ct (ctS gL1 (fR1 shapeC))), (23, .ct (ctS gL1 (fR1 lkC))), (51, .ct (ctS gL2 (fR2 keyC))), (10, .ct (ctS gL2 (fR2 valC))), (5, .ct (ctS gConf fSz))]
def goalSz : Prop := ∀ (s t f l p : Int), rightC s t f l p = true → wxF Tryd.prog (smL lMe0) (fun _ => none) 1000 5 (canA gConf (dConf s t f l p) []).1 (heapOf (canA gConf (dConf s t f l p) []).2) (fun v _ => cmpC (.y .i64 (sizeC s t f)) v)
def goalLk8 : Prop := gR1goal Tryd.prog 23 lkC
def wordC (l d : Bool) (c g : Int) : Int := g % 16777216 * 1099511627776 + c % 274877906944 * 4 + (if d then 2 else 0) + (if l then 1 else 0)
abbrev gWd : List Ag := [.agg [none, none, none, none]]
abbrev dWd (l d : Bool) (c g : Int) : List Da := [.agg [.v (.yb l), .v (.yb d), .v (.y .u64 c), .v (.y .u64 g)]]
def fWd (ds : List Da) : Option (Bool × AV) :=
 match ds with
 | [.agg [.v (.yb l), .v (.yb d), .v (.y .u64 c), .v (.y .u64 g)]] => some (yAnd (inU c) (inU g), .y .u64 (wordC l d c g))
 | _ => none
def goalWd : Prop := ∀ (l d : Bool) (c g : Int), yAnd (inU c) (inU g) = true → wxF Tryd.prog noSm (fun _ => none) 1000 22 (canA gWd (dWd l d c g) []).1 (heapOf (canA gWd (dWd l d c g) []).2) (fun v _ => cmpC (.y .u64 (wordC l d c g)) v)
def new0 (s t f : Int) : Nat → Int := updW (updW (updW (fun _ => 0) (yNat (shapeC s t f 0)) 3) (yNat (valC s t f 0 0)) 65537) (yNat (verC s t f 1)) (wordC false false 0 1)
def newI (s t f : Int) : Nat → Nat → Int
 | 0 => new0 s t f
 | i + 1 => if ((2 + i : Nat) : Int) < s then updW (updW (newI s t f i) (yNat (verC s t f ((2 + i : Nat) : Int))) 2) (yNat (lkC s t f ((2 + i : Nat) : Int))) (((2 + i : Nat) : Int) + 1) else updW (newI s t f i) (yNat (verC s t f ((2 + i : Nat) : Int))) 2
def newW (s t f : Int) : Nat → Int := if 2 ≤ s then updW (newI s t f (yNat s - 1)) 2 2 else newI s t f (yNat s - 1)
def prNw (s : Int) (i : Nat) : Prop := (i : Int) + 1 ≤ s
def msNw (s : Int) (i : Nat) : Nat := yNat s - i
def annNw (s t f : Int) (b : Nat) : Option (St → LoopA) :=
 match b with
 | 0 => some fun z => { ι := Nat, tms := [4], tmU := fun i => [.y .i64 (yInt (yNadd 2 i))], ids := tmpId z.tm 3, hpU := fun i => [arM (sizeN s t f) (newI s t f i)], del := [], ex := 0, pre := prNw s, ms := msNw s }
 | _ => none
def lNw : List (Nat × Sm) := (22, .ct (ctS gWd fWd)) :: lMe
def goalNw : Prop := ∀ (s t f l p : Int), rightC s t f l p = true → wxP Tryd.prog (smL lNw) (annNw s t f) 7 [sConf] [dCf s t f l p] ownU (.rows false (sizeN s t f) [.int .u64 (newW s t f)]) []
def doW (k a : Int) (old new : Int) (n : Nat) (w : Nat → Int) : Nat → Int := if 0 ≤ a ∧ a < (n : Int) ∧ (k = 2 ∨ k = 3 ∧ w (yNat a) = old) then updW w (yNat a) new else w
def doR (k a : Int) (old : Int) (n : Nat) (w : Nat → Int) : Int := if 0 ≤ a ∧ a < (n : Int) then (if k = 1 then w (yNat a) else if k = 3 ∧ w (yNat a) = old then 1 else 0) else 0
def goalDo : Prop := ∀ (mn : Bool) (n : Nat) (w : Nat → Int) (k a o v : Int), yNle n 1000000 = true →
 wxP Tryd.prog noSm (fun _ => none) 8 [mutU, rW4] [.rows mn n [.int .u64 w], .l [.v (.y .i64 k), .v (.y .i64 a), .v (.y .u64 o), .v (.y .u64 v)]]
   .sc (.v (.y .u64 (doR k a o n w))) [[.rows mn n [.int .u64 (doW k a o v n w)]]]
def entC (w f : Int) : Int := if f < 0 then 0 else if w / 2 % 256 > f then f else w / 2 % 256
def innC (w : Int) : Bool := decide (w % 2 = 1)
abbrev gEnt : List Ag := [.cell none, .cell none]
abbrev dEn (w f : Int) : List Da := [.cell (.v (.y .u64 w)), .cell (.v (.y .i64 f))]
def fEn (ds : List Da) : Option (Bool × AV) :=
 match ds with
 | [.cell (.v (.y .u64 w)), .cell (.v (.y .i64 f))] => some (inU w, .y .i64 (entC w f))
 | _ => none
def fIn (ds : List Da) : Option (Bool × AV) :=
 match ds with
 | [.cell (.v (.y .u64 w))] => some (inU w, .yb (innC w))
 | _ => none
def goalEn : Prop := ∀ (w f : Int), inU w = true → wxF Tryd.prog noSm (fun _ => none) 1000 49 (canA gEnt (dEn w f) []).1 (heapOf (canA gEnt (dEn w f) []).2) (fun v _ => cmpC (.y .i64 (entC w f)) v)
def goalIn : Prop := ∀ (w : Int), inU w = true → wxF Tryd.prog noSm (fun _ => none) 1000 50 (canA gW (dW w) []).1 (heapOf (canA gW (dW w) []).2) (fun v _ => cmpC (.yb (innC w)) v)
def ndS (t f s : Int) (w : Nat → Int) : Int := w (nB t f s + 1)
def ndI (t f s : Int) (w : Nat → Int) : Bool := innC (ndS t f s w)
def ndN (t f s : Int) (w : Nat → Int) : Nat := yNat (entC (ndS t f s w) f)
def ndM (b : Bool) (i : Nat) : Nat := if b then i - 1 else i
def ndK (t f s : Int) (w : Nat → Int) (j : Nat) : Int := w (nB t f s + 3 + j)
def ndVl (t f s : Int) (w : Nat → Int) (j : Nat) : Int := w (nB t f s + 3 + yNat f + j)
def ndL (t f s : Int) (w : Nat → Int) : Int := w (nB t f s + 2)
def annNd (t f s : Int) (w : Nat → Int) (b : Nat) : Option (St → LoopA) :=
 match b with
 | 0 => some fun z => { ι := Nat, tms := [10], tmU := fun i => [.y .i64 (yInt i)], ids := [3, z.h.nx, Nat.succ z.h.nx], hpU := fun i => [.cells [.yb (ndI t f s w), slM z.h.nx (ndM (ndI t f s w) i), slM (Nat.succ z.h.nx) i, .y .u64 (ndL t f s w)] 57 none, arM (ndM (ndI t f s w) i) (ndK t f s w), arM i (ndVl t f s w)], del := [], ex := 2, pre := prFd (ndN t f s w), ms := msFit (ndN t f s w) }
 | _ => none
def preNd (s t f l p slot : Int) (n : Nat) (w : Nat → Int) : Bool := yAnd (rightC s t f l p) (yAnd (yAnd (yLe 0 slot) (yLe slot s)) (yAnd (yNeq n (sizeN s t f)) (inU (ndS t f slot w))))
def lNd : List (Nat × Sm) := (49, .ct (ctS gEnt fEn)) :: (50, .ct (ctS gW fIn)) :: lMe
def goalNd : Prop := ∀ (s t f l p slot : Int) (mn : Bool) (n : Nat) (w : Nat → Int), preNd s t f l p slot n w = true →
 wxP Tryd.prog (smL lNd) (annNd t f slot w) 18 [sConf, roU, .sc] [dCf s t f l p, .rows mn n [.int .u64 w], .v (.y .i64 slot)]
   sNdP (dNo (ndI t f slot w) (yNeq (ndM (ndI t f slot w) (ndN t f slot w)) 0) (ndM (ndI t f slot w) (ndN t f slot w)) (ndK t f slot w) (yNeq (ndN t f slot w) 0) (ndN t f slot w) (ndVl t f slot w) (ndL t f slot w)) []
end Go.Proofs.YtinijejfhmcmdaaDoor.Ex
end
section
namespace Go.Proofs.YtinijejfhmcmdaaDoor.Ex
open Go
def goalSzV : Prop := (∀ (s t f l p : Int), rightC s t f l p = true → (rightC s t f l p = true → sizeC s t f = yWrap IntKind.i64 (yAdd (yWrap IntKind.i64 (yAdd 3 (yWrap IntKind.i64 (yMul 3 t)))) (yWrap IntKind.i64 (yMul (yWrap IntKind.i64 (yAdd s 1)) (yWrap IntKind.i64 (yAdd 3 (yWrap IntKind.i64 (yMul 2 f)))))))) ∧ (rightC s t f l p = false → False))
theorem goalSz_eq : goalSz = goalSzV := by kernel_rfl
set_option maxHeartbeats 8000000 in
theorem goalSz_vc : goalSzV := by
 unfold goalSzV
 intro s t f l p hr
 have h := rightC_iff.1 hr
 have hp : 0 ≤ (s + 1) * (3 + 2 * f) ∧ (s + 1) * (3 + 2 * f) ≤ 131131 := prod_le' (A := 1001) (B := 131) (by omega) (by omega) (by omega) (by omega)
 simp only [vS, forall_const]
 refine ⟨fun _ => ?_, fun e => by rw [hr] at e; cases e⟩
 unfold sizeC
 simp (disch := omega) only [wrap64]
theorem goalSz_tt : (goalSz) = True := goalSz_eq.trans (eq_true goalSz_vc)
theorem goalSz_ok : goalSz := @ft' goalSz goalSz_tt
def goalLk8V : Prop := (∀ (s t f l p slot : Int), yAnd (rightC s t f l p) (yAnd (yLe 0 slot) (yLe slot s)) = true → lkC s t f slot = yWrap IntKind.i64 (yAdd (yWrap IntKind.i64 (yAdd (yWrap IntKind.i64 (yAdd 3 (yWrap IntKind.i64 (yMul 3 t)))) (yWrap IntKind.i64 (yMul slot (yWrap IntKind.i64 (yAdd 3 (yWrap IntKind.i64 (yMul 2 f)))))))) 2))
theorem goalLk8_eq : goalLk8 = goalLk8V := by kernel_rfl
set_option maxHeartbeats 8000000 in
theorem goalLk8_vc : goalLk8V := by
 unfold goalLk8V
 intro s t f l p slot hr
 simp only [yAnd_t, yLe_t, yLt_t] at hr
 have h := rightC_iff.1 hr.1
 have hp := lay_prod (slot := slot) hr.1
 have hr2 := hr.2
 simp only [vS, forall_const]
 have hq := hp (by omega) (by omega)
 unfold lkC nodeC
 rw [if_pos (by omega)]
 simp (disch := omega) only [wrap64]
theorem goalLk8_tt : (goalLk8) = True := goalLk8_eq.trans (eq_true goalLk8_vc)
theorem goalLk8_ok : goalLk8 := @ft' goalLk8 goalLk8_tt
def goalWdV : Prop := (∀ (l d : Bool) (c g : Int), yAnd (yAnd (yLe 0 c) (yLt c 18446744073709551616)) (yAnd (yLe 0 g) (yLt g 18446744073709551616)) = true → (yEq 16777216 (0 : Int) = true → False) ∧ (yEq 16777216 (0 : Int) = false → (yEq 274877906944 (0 : Int) = true → False) ∧ (yEq 274877906944 (0 : Int) = false → (d = true → (l = true → wordC l d c g = yWrap IntKind.u64 (yAdd (yWrap IntKind.u64 (yAdd (yWrap IntKind.u64 (yAdd (yWrap IntKind.u64 (yMul (yRem g 16777216) 1099511627776)) (yWrap IntKind.u64 (yMul (yRem c 274877906944) 4)))) 2)) 1)) ∧ (l = false → wordC l d c g = yWrap IntKind.u64 (yAdd (yWrap IntKind.u64 (yAdd (yWrap IntKind.u64 (yMul (yRem g 16777216) 1099511627776)) (yWrap IntKind.u64 (yMul (yRem c 274877906944) 4)))) 2))) ∧ (d = false → (l = true → wordC l d c g = yWrap IntKind.u64 (yAdd (yWrap IntKind.u64 (yAdd (yWrap IntKind.u64 (yMul (yRem g 16777216) 1099511627776)) (yWrap IntKind.u64 (yMul (yRem c 274877906944) 4)))) 1)) ∧ (l = false → wordC l d c g = yWrap IntKind.u64 (yAdd (yWrap IntKind.u64 (yMul (yRem g 16777216) 1099511627776)) (yWrap IntKind.u64 (yMul (yRem c 274877906944) 4))))))))
theorem goalWd_eq : goalWd = goalWdV := by kernel_rfl
set_option maxHeartbeats 8000000 in
theorem goalWd_vc : goalWdV := by
 unfold goalWdV
 intro l d c g h
 rw [yAnd_t] at h
 obtain ⟨n, rfl, hn⟩ := inU_nat (w := c) h.1
 obtain ⟨m, rfl, hm⟩ := inU_nat (w := g) h.2
 have a5 : yRem (n : Int) 274877906944 = ((n % 274877906944 : Nat) : Int) := rem_u (c := 274877906944)
 have a6 : yRem (m : Int) 16777216 = ((m % 16777216 : Nat) : Int) := rem_u (c := 16777216)
 simp only [a5, a6]
 have b1 : yWrap .u64 (yMul ((m % 16777216 : Nat) : Int) 1099511627776) = ((m % 16777216 * 1099511627776 : Nat) : Int) := yWrapN (n := m % 16777216 * 1099511627776) (by omega)
 have b2 : yWrap .u64 (yMul ((n % 274877906944 : Nat) : Int) 4) = ((n % 274877906944 * 4 : Nat) : Int) := yWrapN (n := n % 274877906944 * 4) (by omega)
 have b3 : yWrap .u64 (yAdd ((m % 16777216 * 1099511627776 : Nat) : Int) ((n % 274877906944 * 4 : Nat) : Int)) = ((m % 16777216 * 1099511627776 + n % 274877906944 * 4 : Nat) : Int) := yWrapN (n := m % 16777216 * 1099511627776 + n % 274877906944 * 4) (by omega)
 have b4 : yWrap .u64 (yAdd ((m % 16777216 * 1099511627776 + n % 274877906944 * 4 : Nat) : Int) 2) = ((m % 16777216 * 1099511627776 + n % 274877906944 * 4 + 2 : Nat) : Int) := yWrapN (n := m % 16777216 * 1099511627776 + n % 274877906944 * 4 + 2) (by omega)
 have b5 : yWrap .u64 (yAdd ((m % 16777216 * 1099511627776 + n % 274877906944 * 4 : Nat) : Int) 1) = ((m % 16777216 * 1099511627776 + n % 274877906944 * 4 + 1 : Nat) : Int) := yWrapN (n := m % 16777216 * 1099511627776 + n % 274877906944 * 4 + 1) (by omega)
 have b6 : yWrap .u64 (yAdd ((m % 16777216 * 1099511627776 + n % 274877906944 * 4 + 2 : Nat) : Int) 1) = ((m % 16777216 * 1099511627776 + n % 274877906944 * 4 + 2 + 1 : Nat) : Int) := yWrapN (n := m % 16777216 * 1099511627776 + n % 274877906944 * 4 + 2 + 1) (by omega)
 simp only [b1, b2, b3, b4, b5, b6]
 simp only [vS, forall_const]
 clear b1 b2 b3 b4 b5 b6 a5 a6
 unfold wordC
 cases l <;> cases d <;> (repeat' (first | apply And.intro | intro _)) <;> first | (exfalso; omega) | (simp at *; done) | (simp; done) | (simp; omega)
theorem goalWd_tt : (goalWd) = True := goalWd_eq.trans (eq_true goalWd_vc)
theorem goalWd_ok : goalWd := @ft' goalWd goalWd_tt
def goalDoV : Prop := (∀ (mn : Bool) (n : Nat) (w : Nat → Int) (k a o v : Int), yNle n (nat_lit 1000000) = true → (yLt a (0 : Int) = true → doR k a o n w = (0 : Int) ∧ n = n ∧ (∀ (i : Nat), Nat.succ i ≤ n → doW k a o v n w i = w i ∧ True) ∧ true = true) ∧ (yLt a (0 : Int) = false → (yLe (yInt n) a = true → doR k a o n w = (0 : Int) ∧ n = n ∧ (∀ (i : Nat), Nat.succ i ≤ n → doW k a o v n w i = w i ∧ True) ∧ true = true) ∧ (yLe (yInt n) a = false → (yLt k (1 : Int) = true → doR k a o n w = (0 : Int) ∧ n = n ∧ (∀ (i : Nat), Nat.succ i ≤ n → doW k a o v n w i = w i ∧ True) ∧ true = true) ∧ (yLt k (1 : Int) = false → (yLt 3 k = true → doR k a o n w = (0 : Int) ∧ n = n ∧ (∀ (i : Nat), Nat.succ i ≤ n → doW k a o v n w i = w i ∧ True) ∧ true = true) ∧ (yLt 3 k = false → mst (yIn a n) (mst (yNlt (yNadd 0 (yNat a)) n) ((yEq k (1 : Int) = true → doR k a o n w = w (yNadd 0 (yNat a)) ∧ n = n ∧ (∀ (i : Nat), Nat.succ i ≤ n → doW k a o v n w i = w i ∧ True) ∧ true = true) ∧ (yEq k (1 : Int) = false → (yEq k (2 : Int) = true → mst (yIn a n) (mst (yNlt (yNadd 0 (yNat a)) n) (doR k a o n w = (0 : Int) ∧ n = n ∧ (∀ (i : Nat), Nat.succ i ≤ n → doW k a o v n w i = ySel (yNeq i (yNadd 0 (yNat a))) v (w i) ∧ True) ∧ true = true))) ∧ (yEq k (2 : Int) = false → (yNot (yEq (w (yNadd 0 (yNat a))) o) = true → doR k a o n w = (0 : Int) ∧ n = n ∧ (∀ (i : Nat), Nat.succ i ≤ n → doW k a o v n w i = w i ∧ True) ∧ true = true) ∧ (yNot (yEq (w (yNadd 0 (yNat a))) o) = false → mst (yIn a n) (mst (yNlt (yNadd 0 (yNat a)) n) (doR k a o n w = (1 : Int) ∧ n = n ∧ (∀ (i : Nat), Nat.succ i ≤ n → doW k a o v n w i = ySel (yNeq i (yNadd 0 (yNat a))) v (w i) ∧ True) ∧ true = true))))))))))))
theorem goalDo_eq : goalDo = goalDoV := by kernel_rfl
set_option maxHeartbeats 8000000 in
theorem goalDo_vc : goalDoV := by
 unfold goalDoV
 intro mn n w k a o v hn
 have e : ∀ i, updW w (yNat a) v i = ySel (yNeq i (yNat a)) v (w i) := fun i => by
   unfold updW ySel yNeq
   by_cases h : i = yNat a <;> simp [h]
 simp only [vS, forall_const] at hn ⊢
 repeat' (first | apply And.intro | intro _)
 all_goals first
   | (exfalso; omega)
   | (exfalso; unfold yNat at *; omega)
   | skip
 all_goals first
   | (unfold doW; rw [if_neg (by omega)]; done)
   | (unfold doR; rw [if_neg (by omega)]; done)
   | (unfold doR; rw [if_pos (by omega), if_pos (by omega)]; done)
   | (unfold doR; rw [if_pos (by omega), if_neg (by omega), if_neg (by omega)]; done)
   | (unfold doR; rw [if_pos (by omega), if_neg (by omega), if_pos ⟨by omega, by assumption⟩]; done)
   | (unfold doW; rw [if_neg (by rintro ⟨_, _, h | ⟨h, h2⟩⟩ <;> first | omega | exact absurd h2 (by assumption))]; done)
   | (unfold doW; rw [if_pos ⟨by omega, by omega, .inl (by omega)⟩]; exact e _)
   | (unfold doW; rw [if_pos ⟨by omega, by omega, .inr ⟨by omega, by assumption⟩⟩]; exact e _)
theorem goalDo_tt : (goalDo) = True := goalDo_eq.trans (eq_true goalDo_vc)
theorem goalDo_ok : goalDo := @ft' goalDo goalDo_tt
def goalInV : Prop := (∀ (w : Int), yAnd (yLe 0 w) (yLt w 18446744073709551616) = true → (yEq 2 (0 : Int) = true → False) ∧ (yEq 2 (0 : Int) = false → innC w = yEq (yRem w 2) 1))
theorem goalIn_eq : goalIn = goalInV := by kernel_rfl
set_option maxHeartbeats 8000000 in
theorem goalIn_vc : goalInV := by
 unfold goalInV
 intro w h
 obtain ⟨n, rfl, hn⟩ := inU_nat h
 have a1 : yRem (n : Int) 2 = ((n % 2 : Nat) : Int) := rem_u (c := 2)
 simp only [a1, vS, forall_const]
 refine ⟨fun e => by omega, fun _ => ?_⟩
 unfold innC yEq
 rw [decide_eq_decide]; omega
theorem goalIn_tt : (goalIn) = True := goalIn_eq.trans (eq_true goalIn_vc)
theorem goalIn_ok : goalIn := @ft' goalIn goalIn_tt
def goalEnV : Prop := (∀ (w f : Int), yAnd (yLe 0 w) (yLt w 18446744073709551616) = true → (yEq 2 (0 : Int) = true → False) ∧ (yEq 2 (0 : Int) = false → (yEq 256 (0 : Int) = true → False) ∧ (yEq 256 (0 : Int) = false → (yLt f (0 : Int) = true → entC w f = (0 : Int)) ∧ (yLt f (0 : Int) = false → (yLt f (yWrap IntKind.i64 (yRem (yQuo IntKind.u64 w 2) 256)) = true → entC w f = f) ∧ (yLt f (yWrap IntKind.i64 (yRem (yQuo IntKind.u64 w 2) 256)) = false → entC w f = yWrap IntKind.i64 (yRem (yQuo IntKind.u64 w 2) 256))))))
theorem goalEn_eq : goalEn = goalEnV := by kernel_rfl
set_option maxHeartbeats 8000000 in
theorem goalEn_vc : goalEnV := by
 unfold goalEnV
 intro w f h
 obtain ⟨n, rfl, hn⟩ := inU_nat h
 have a1 : yQuo .u64 (n : Int) 2 = ((n / 2 : Nat) : Int) := quo_u (c := 2) hn
 have a2 : yRem ((n / 2 : Nat) : Int) 256 = ((n / 2 % 256 : Nat) : Int) := rem_u (c := 256)
 simp only [a1, a2]
 rw [wrap64 (n := ((n / 2 % 256 : Nat) : Int)) (by omega) (by omega)]
 simp only [vS, forall_const]
 unfold entC
 repeat' (first | apply And.intro | intro _)
 all_goals first
   | (exfalso; omega)
   | (rw [if_pos (by omega)]; done)
   | (rw [if_neg (by omega), if_pos (by omega)]; done)
   | (rw [if_neg (by omega), if_neg (by omega)]; omega)
theorem goalEn_tt : (goalEn) = True := goalEn_eq.trans (eq_true goalEn_vc)
theorem goalEn_ok : goalEn := @ft' goalEn goalEn_tt
end Go.Proofs.YtinijejfhmcmdaaDoor.Ex
end
section
namespace Go.Proofs.YtinijejfhmcmdaaDoor.Ex
open Go
section
variable {cs ct cf s : Int} {B F : Nat}
theorem verN (hB : (B : Int) = nodeC ct cf s) (hs : 0 ≤ s ∧ s ≤ cs) : verC cs ct cf s = B := by unfold verC; rw [if_pos hs]; omega
theorem shapeN (hB : (B : Int) = nodeC ct cf s) (hs : 0 ≤ s ∧ s ≤ cs) : shapeC cs ct cf s = (B + 1 : Nat) := by unfold shapeC; rw [if_pos hs]; omega
theorem lkN (hB : (B : Int) = nodeC ct cf s) (hs : 0 ≤ s ∧ s ≤ cs) : lkC cs ct cf s = (B + 2 : Nat) := by unfold lkC; rw [if_pos hs]; omega
theorem keyN (hB : (B : Int) = nodeC ct cf s) (hs : 0 ≤ s ∧ s ≤ cs) (hF : (F : Int) = cf) {j : Nat} (hj : j < F) : keyC cs ct cf s j = (B + 3 + j : Nat) := by
 unfold keyC; rw [if_pos ⟨hs, by omega, by omega⟩]; omega
theorem valN (hB : (B : Int) = nodeC ct cf s) (hs : 0 ≤ s ∧ s ≤ cs) (hF : (F : Int) = cf) {j : Nat} (hj : j < F) : valC cs ct cf s j = (B + 3 + F + j : Nat) := by
 unfold valC; rw [if_pos ⟨hs, by omega, by omega⟩]; omega
theorem yNatN {n : Nat} : yNat (n : Int) = n := by unfold yNat; omega
end
theorem slot_room {s t f l p slot : Int} (hr : rightC s t f l p = true) (h0 : 0 ≤ slot) (h1 : slot ≤ s) :
   ((nB t f slot : Nat) : Int) = nodeC t f slot ∧ nB t f slot + 3 + 2 * yNat f ≤ sizeN s t f ∧ 3 ≤ nB t f slot ∧ sizeN s t f ≤ 131400 ∧ ((yNat f : Nat) : Int) = f ∧ ((sizeN s t f : Nat) : Int) = sizeC s t f ∧ 4 ≤ yNat f ∧ yNat f ≤ 64 := by
 have h := rightC_iff.1 hr
 have hp := lay_prod (slot := slot) hr h0 h1
 have h2 : slot * (3 + 2 * f) ≤ s * (3 + 2 * f) := Int.mul_le_mul_of_nonneg_right h1 (by omega)
 have h3 : (s + 1) * (3 + 2 * f) = s * (3 + 2 * f) + (3 + 2 * f) := by rw [Int.add_mul, Int.one_mul]
 have h4 : 0 ≤ (s + 1) * (3 + 2 * f) ∧ (s + 1) * (3 + 2 * f) ≤ 131131 := prod_le' (A := 1001) (B := 131) (by omega) (by omega) (by omega) (by omega)
 have eB : (nB t f slot : Int) = nodeC t f slot := by
   have : 0 ≤ nodeC t f slot := by unfold nodeC; omega
   unfold nB yNat; omega
 have eS : (sizeN s t f : Int) = sizeC s t f := by
   have : 0 ≤ sizeC s t f := by unfold sizeC; omega
   unfold sizeN yNat; omega
 have eF : ((yNat f : Nat) : Int) = f := by unfold yNat; omega
 have eN : nodeC t f slot = 3 + 3 * t + slot * (3 + 2 * f) := rfl
 have eC : sizeC s t f = 3 + 3 * t + (s + 1) * (3 + 2 * f) := rfl
 refine ⟨eB, by omega, by omega, by omega, eF, eS, by omega, by omega⟩
theorem updSel {w : Nat → Int} {a i : Nat} {v : Int} : updW w a v i = ySel (yNeq i a) v (w i) := by
 unfold updW ySel yNeq
 by_cases h : i = a <;> simp [h]
theorem ver_in {s t f l p slot : Int} (hr : rightC s t f l p = true) (h0 : 0 ≤ slot) (h1 : slot ≤ s) : 0 ≤ verC s t f slot ∧ verC s t f slot < sizeC s t f := by
 obtain ⟨eB, room, h3, hbig, eF, eS, f4, f64⟩ := slot_room hr h0 h1
 rw [verN eB ⟨h0, h1⟩]; omega
theorem lk_in {s t f l p slot : Int} (hr : rightC s t f l p = true) (h0 : 0 ≤ slot) (h1 : slot ≤ s) : 0 ≤ lkC s t f slot ∧ lkC s t f slot < sizeC s t f := by
 obtain ⟨eB, room, h3, hbig, eF, eS, f4, f64⟩ := slot_room hr h0 h1
 rw [lkN eB ⟨h0, h1⟩]; omega
def goalNwV : Prop := (∀ (s t f l p : Int), rightC s t f l p = true → mst (rightC s t f l p) (mst (yLe 0 (sizeC s t f)) (mst (yEq (sizeC s t f) (sizeC s t f)) (mst (yGrow (yNat (sizeC s t f)) 8) ((yEq (yInt (yNat (sizeC s t f))) (0 : Int) = true → false = false ∧ nat_lit 0 = nat_lit 0 ∧ sizeN s t f = yNat (sizeC s t f) ∧ sizeN s t f = yNat (sizeC s t f) ∧ (∀ (i : Nat), Nat.succ i ≤ sizeN s t f → newW s t f i = (0 : Int) ∧ True) ∧ true = true) ∧ (yEq (yInt (yNat (sizeC s t f))) (0 : Int) = false → mst (yAnd (rightC s t f l p) (yAnd (yLe 0 0) (yLe 0 s))) (mst (yIn (shapeC s t f 0) (yNat (sizeC s t f))) (mst (yNlt (yNadd 0 (yNat (shapeC s t f 0))) (yNat (sizeC s t f))) (mst (yAnd (yAnd (rightC s t f l p) (yAnd (yLe 0 0) (yLe 0 s))) (yAnd (yLe 0 0) (yLt 0 f))) (mst (yIn (valC s t f 0 0) (yNat (sizeC s t f))) (mst (yNlt (yNadd 0 (yNat (valC s t f 0 0))) (yNat (sizeC s t f))) (mst (yAnd (rightC s t f l p) (yAnd (yLe 0 1) (yLe 1 s))) (mst (yAnd (yAnd (yLe 0 0) (yLt 0 18446744073709551616)) (yAnd (yLe 0 1) (yLt 1 18446744073709551616))) (mst (yIn (verC s t f 1) (yNat (sizeC s t f))) (mst (yNlt (yNadd 0 (yNat (verC s t f 1))) (yNat (sizeC s t f))) (true = true ∧ (∃ (i0 : Nat), prNw s i0 ∧ true = true ∧ yInt (yNadd 2 i0) = (2 : Int) ∧ sizeN s t f = yNat (sizeC s t f) ∧ (∀ (i : Nat), Nat.succ i ≤ sizeN s t f → newI s t f i0 i = ySel (yNeq i (yNadd 0 (yNat (verC s t f 1)))) (wordC false false 0 1) (ySel (yNeq i (yNadd 0 (yNat (valC s t f 0 0)))) 65537 (ySel (yNeq i (yNadd 0 (yNat (shapeC s t f 0)))) 3 0)) ∧ True) ∧ true = true) ∧ ∀ (g : Nat → AV) (i : Nat), prNw s i → (yLe (yInt (yNadd 2 i)) s = true → mst (yAnd (rightC s t f l p) (yAnd (yLe 0 (yInt (yNadd 2 i))) (yLe (yInt (yNadd 2 i)) s))) (mst (yIn (verC s t f (yInt (yNadd 2 i))) (yNat (sizeC s t f))) (mst (yNlt (yNadd 0 (yNat (verC s t f (yInt (yNadd 2 i))))) (sizeN s t f)) ((yLt (yInt (yNadd 2 i)) s = true → mst (yAnd (rightC s t f l p) (yAnd (yLe 0 (yInt (yNadd 2 i))) (yLe (yInt (yNadd 2 i)) s))) (mst (yIn (lkC s t f (yInt (yNadd 2 i))) (yNat (sizeC s t f))) (mst (yNlt (yNadd 0 (yNat (lkC s t f (yInt (yNadd 2 i))))) (sizeN s t f)) (true = true ∧ ∃ (i' : Nat), prNw s i' ∧ Nat.succ (msNw s i') ≤ msNw s i ∧ true = true ∧ yInt (yNadd 2 i') = yWrap IntKind.i64 (yAdd (yInt (yNadd 2 i)) 1) ∧ sizeN s t f = sizeN s t f ∧ (∀ (i_1 : Nat), Nat.succ i_1 ≤ sizeN s t f → newI s t f i' i_1 = ySel (yNeq i_1 (yNadd 0 (yNat (lkC s t f (yInt (yNadd 2 i)))))) (yWrap IntKind.u64 (yAdd (yWrap IntKind.u64 (yInt (yNadd 2 i))) 1)) (ySel (yNeq i_1 (yNadd 0 (yNat (verC s t f (yInt (yNadd 2 i)))))) 2 (newI s t f i i_1)) ∧ True) ∧ true = true)))) ∧ (yLt (yInt (yNadd 2 i)) s = false → true = true ∧ ∃ (i' : Nat), prNw s i' ∧ Nat.succ (msNw s i') ≤ msNw s i ∧ true = true ∧ yInt (yNadd 2 i') = yWrap IntKind.i64 (yAdd (yInt (yNadd 2 i)) 1) ∧ sizeN s t f = sizeN s t f ∧ (∀ (i_1 : Nat), Nat.succ i_1 ≤ sizeN s t f → newI s t f i' i_1 = ySel (yNeq i_1 (yNadd 0 (yNat (verC s t f (yInt (yNadd 2 i)))))) 2 (newI s t f i i_1) ∧ True) ∧ true = true))))) ∧ (yLe (yInt (yNadd 2 i)) s = false → (yLe 2 s = true → mst (yIn 2 (yNat (sizeC s t f))) (mst (yNlt (yNadd 0 2) (sizeN s t f)) (false = false ∧ nat_lit 0 = nat_lit 0 ∧ sizeN s t f = yNat (sizeC s t f) ∧ sizeN s t f = sizeN s t f ∧ (∀ (i_1 : Nat), Nat.succ i_1 ≤ sizeN s t f → newW s t f i_1 = ySel (yNeq i_1 (yNadd 0 2)) 2 (newI s t f i i_1) ∧ True) ∧ true = true))) ∧ (yLe 2 s = false → false = false ∧ nat_lit 0 = nat_lit 0 ∧ sizeN s t f = yNat (sizeC s t f) ∧ sizeN s t f = sizeN s t f ∧ (∀ (i_1 : Nat), Nat.succ i_1 ≤ sizeN s t f → newW s t f i_1 = newI s t f i i_1 ∧ True) ∧ true = true))))))))))))))))))
theorem goalNw_eq : goalNw = goalNwV := by kernel_rfl
set_option maxHeartbeats 8000000 in
theorem goalNw_vc : goalNwV := by
 unfold goalNwV
 intro s t f l p hr
 have h := rightC_iff.1 hr
 obtain ⟨eB, room, h3, hbig, eF, eS, f4, f64⟩ := slot_room hr (slot := 0) (by omega) (by omega)
 have z1 : 0 ≤ shapeC s t f 0 ∧ shapeC s t f 0 < sizeC s t f := by rw [shapeN eB ⟨by omega, by omega⟩]; omega
 have z2 : 0 ≤ valC s t f 0 0 ∧ valC s t f 0 0 < sizeC s t f := by
   have := valN eB ⟨by omega, by omega⟩ eF (j := 0) (cs := s) (by omega)
   have e0 : ((0 : Nat) : Int) = 0 := rfl
   rw [e0] at this; rw [this]; omega
 have z3 := ver_in hr (slot := 1) (by omega) (by omega)
 have hv : ∀ i : Nat, (i : Int) + 2 ≤ s → 0 ≤ verC s t f ((2 + i : Nat) : Int) ∧ verC s t f ((2 + i : Nat) : Int) < sizeC s t f := fun i hi => ver_in hr (by omega) (by omega)
 have hl : ∀ i : Nat, (i : Int) + 2 ≤ s → 0 ≤ lkC s t f ((2 + i : Nat) : Int) ∧ lkC s t f ((2 + i : Nat) : Int) < sizeC s t f := fun i hi => lk_in hr (by omega) (by omega)
 have eY : yNat (sizeC s t f) = sizeN s t f := rfl
 have h5 : 3 < sizeN s t f := by omega
 clear eB room h3
 simp only [vS, forall_const, prNw, msNw, hr, false_or, eY]
 repeat' (first | apply And.intro | intro (_ : Nat → AV) i hi | intro _)
 all_goals first
   | trivial
   | assumption
   | omega
   | (exfalso; omega)
   | (exfalso; unfold yNat at *; omega)
   | (have a1 := hv i (by omega); exfalso; unfold yNat at *; omega)
   | (have a1 := hl i (by omega); exfalso; unfold yNat at *; omega)
   | (refine ⟨0, by omega, rfl, fun a _ => ?_⟩
      show new0 s t f a = _
      unfold new0
      rw [updSel, updSel, updSel])
   | (refine ⟨i + 1, by omega, by unfold yNat; omega, by rw [wrap64 (by omega) (by omega)]; omega, fun a _ => ?_⟩
      have w1 : yWrap .u64 ((2 + i : Nat) : Int) = ((2 + i : Nat) : Int) := yWrapN (n := 2 + i) (by omega)
      have w2 : yWrap .u64 (((2 + i : Nat) : Int) + 1) = ((2 + i : Nat) : Int) + 1 := yWrapN (n := 2 + i + 1) (by omega)
      rw [newI]
      first
        | (rw [if_pos (by omega), updSel, updSel, w1, w2])
        | (rw [if_neg (by omega), updSel]))
   | (have e : i = yNat s - 1 := by unfold yNat; omega
      unfold newW
      first
        | (rw [if_pos (by omega), updSel, e]; done)
        | (rw [if_neg (by omega), e]))
   | (trace_state; fail)
theorem goalNw_tt : (goalNw) = True := goalNw_eq.trans (eq_true goalNw_vc)
theorem goalNw_ok : goalNw := @ft' goalNw goalNw_tt
theorem entC_in {w f : Int} (hw : 0 ≤ w) (hf : 0 ≤ f) : 0 ≤ entC w f ∧ entC w f ≤ f := by unfold entC; (repeat' split) <;> omega
theorem ySelAt {q n : Nat} {f : Nat → Int} {x : Int} (h : ¬ q < n → f q = x) : f q = ySel (yNlt q n) (f q) x := by
 by_cases hq : q < n
 · simp [ySel, yNlt, hq]
 · simp [ySel, yNlt, hq, h hq]
theorem nilStep' {a b : Nat} (h : a ≠ 0) : yNeq a 0 = yAnd (yNeq b 0) (yNeq 1 0) := by simp [yAnd, yNeq, h]
def goalNdV : Prop := (∀ (s t f l p slot : Int) (mn : Bool) (n : Nat) (w : Nat → Int), yAnd (rightC s t f l p) (yAnd (yAnd (yLe 0 slot) (yLe slot s)) (yAnd (yNeq n (sizeN s t f)) (yAnd (yLe 0 (ndS t f slot w)) (yLt (ndS t f slot w) 18446744073709551616)))) = true → (yEq (yInt n) (0 : Int) = true → ndI t f slot w = false ∧ yNeq (ndM (ndI t f slot w) (ndN t f slot w)) (nat_lit 0) = true ∧ ndM (ndI t f slot w) (ndN t f slot w) = nat_lit 0 ∧ yNeq (ndN t f slot w) (nat_lit 0) = true ∧ ndN t f slot w = nat_lit 0 ∧ ndL t f slot w = (0 : Int) ∧ true = true) ∧ (yEq (yInt n) (0 : Int) = false → (yLt slot (0 : Int) = true → ndI t f slot w = false ∧ yNeq (ndM (ndI t f slot w) (ndN t f slot w)) (nat_lit 0) = true ∧ ndM (ndI t f slot w) (ndN t f slot w) = nat_lit 0 ∧ yNeq (ndN t f slot w) (nat_lit 0) = true ∧ ndN t f slot w = nat_lit 0 ∧ ndL t f slot w = (0 : Int) ∧ true = true) ∧ (yLt slot (0 : Int) = false → (yLt s slot = true → ndI t f slot w = false ∧ yNeq (ndM (ndI t f slot w) (ndN t f slot w)) (nat_lit 0) = true ∧ ndM (ndI t f slot w) (ndN t f slot w) = nat_lit 0 ∧ yNeq (ndN t f slot w) (nat_lit 0) = true ∧ ndN t f slot w = nat_lit 0 ∧ ndL t f slot w = (0 : Int) ∧ true = true) ∧ (yLt s slot = false → mst (yAnd (rightC s t f l p) (yAnd (yLe 0 slot) (yLe slot s))) (mst (yIn (shapeC s t f slot) n) (mst (yNlt (yNadd 0 (yNat (shapeC s t f slot))) n) (mst (yAnd (yLe 0 (w (yNadd 0 (yNat (shapeC s t f slot))))) (yLt (w (yNadd 0 (yNat (shapeC s t f slot)))) 18446744073709551616)) (mst (yAnd (yLe 0 (w (yNadd 0 (yNat (shapeC s t f slot))))) (yLt (w (yNadd 0 (yNat (shapeC s t f slot)))) 18446744073709551616)) (mst (yAnd (rightC s t f l p) (yAnd (yLe 0 slot) (yLe slot s))) (mst (yIn (lkC s t f slot) n) (mst (yNlt (yNadd 0 (yNat (lkC s t f slot))) n) (true = true ∧ (∃ (i0 : Nat), prFd (ndN t f slot w) i0 ∧ true = true ∧ yInt i0 = (0 : Int) ∧ ndI t f slot w = innC (w (yNadd 0 (yNat (shapeC s t f slot)))) ∧ yNeq (ndM (ndI t f slot w) i0) (nat_lit 0) = true ∧ ndM (ndI t f slot w) i0 = nat_lit 0 ∧ yNeq i0 (nat_lit 0) = true ∧ i0 = nat_lit 0 ∧ ndL t f slot w = w (yNadd 0 (yNat (lkC s t f slot))) ∧ ndM (ndI t f slot w) i0 = nat_lit 0 ∧ i0 = nat_lit 0 ∧ true = true ∧ true = true ∧ true = true) ∧ ∀ (g : Nat → AV) (i : Nat), prFd (ndN t f slot w) i → (yLt (yInt i) (entC (w (yNadd 0 (yNat (shapeC s t f slot)))) f) = true → mst (yAnd (yAnd (rightC s t f l p) (yAnd (yLe 0 slot) (yLe slot s))) (yAnd (yLe 0 (yInt i)) (yLt (yInt i) f))) (mst (yIn (valC s t f slot (yInt i)) n) (mst (yNlt (yNadd 0 (yNat (valC s t f slot (yInt i)))) n) (mst (yNeq i i) (mst (yGrow (yNadd i 1) 8) ((yNot (ndI t f slot w) = true → mst (yAnd (yAnd (rightC s t f l p) (yAnd (yLe 0 slot) (yLe slot s))) (yAnd (yLe 0 (yInt (ndM (ndI t f slot w) i))) (yLt (yInt (ndM (ndI t f slot w) i)) f))) (mst (yIn (keyC s t f slot (yInt (ndM (ndI t f slot w) i))) n) (mst (yNlt (yNadd 0 (yNat (keyC s t f slot (yInt (ndM (ndI t f slot w) i))))) n) (mst (yNeq (ndM (ndI t f slot w) i) (ndM (ndI t f slot w) i)) (mst (yGrow (yNadd (ndM (ndI t f slot w) i) 1) 8) (true = true ∧ ∃ (i' : Nat), prFd (ndN t f slot w) i' ∧ Nat.succ (msFit (ndN t f slot w) i') ≤ msFit (ndN t f slot w) i ∧ true = true ∧ yInt i' = yWrap IntKind.i64 (yAdd (yInt i) 1) ∧ ndI t f slot w = ndI t f slot w ∧ yNeq (ndM (ndI t f slot w) i') (nat_lit 0) = yAnd (yNeq (ndM (ndI t f slot w) i) 0) (yNeq 1 0) ∧ nat_lit 0 = nat_lit 0 ∧ ndM (ndI t f slot w) i' = yNadd (ndM (ndI t f slot w) i) 1 ∧ yNeq i' (nat_lit 0) = yAnd (yNeq i 0) (yNeq 1 0) ∧ nat_lit 0 = nat_lit 0 ∧ i' = yNadd i 1 ∧ ndL t f slot w = ndL t f slot w ∧ ndM (ndI t f slot w) i' = yNadd (ndM (ndI t f slot w) i) 1 ∧ (∀ (i_1 : Nat), Nat.succ i_1 ≤ ndM (ndI t f slot w) i' → ndK t f slot w i_1 = ySel (yNlt i_1 (ndM (ndI t f slot w) i)) (ndK t f slot w i_1) (w (yNadd 0 (yNat (keyC s t f slot (yInt (ndM (ndI t f slot w) i)))))) ∧ True) ∧ i' = yNadd i 1 ∧ (∀ (i_1 : Nat), Nat.succ i_1 ≤ i' → ndVl t f slot w i_1 = ySel (yNlt i_1 i) (ndVl t f slot w i_1) (w (yNadd 0 (yNat (valC s t f slot (yInt i))))) ∧ True) ∧ true = true)))))) ∧ (yNot (ndI t f slot w) = false → (yLt 0 (yInt i) = true → mst (yAnd (yAnd (rightC s t f l p) (yAnd (yLe 0 slot) (yLe slot s))) (yAnd (yLe 0 (yInt (ndM (ndI t f slot w) i))) (yLt (yInt (ndM (ndI t f slot w) i)) f))) (mst (yIn (keyC s t f slot (yInt (ndM (ndI t f slot w) i))) n) (mst (yNlt (yNadd 0 (yNat (keyC s t f slot (yInt (ndM (ndI t f slot w) i))))) n) (mst (yNeq (ndM (ndI t f slot w) i) (ndM (ndI t f slot w) i)) (mst (yGrow (yNadd (ndM (ndI t f slot w) i) 1) 8) (true = true ∧ ∃ (i' : Nat), prFd (ndN t f slot w) i' ∧ Nat.succ (msFit (ndN t f slot w) i') ≤ msFit (ndN t f slot w) i ∧ true = true ∧ yInt i' = yWrap IntKind.i64 (yAdd (yInt i) 1) ∧ ndI t f slot w = ndI t f slot w ∧ yNeq (ndM (ndI t f slot w) i') (nat_lit 0) = yAnd (yNeq (ndM (ndI t f slot w) i) 0) (yNeq 1 0) ∧ nat_lit 0 = nat_lit 0 ∧ ndM (ndI t f slot w) i' = yNadd (ndM (ndI t f slot w) i) 1 ∧ yNeq i' (nat_lit 0) = yAnd (yNeq i 0) (yNeq 1 0) ∧ nat_lit 0 = nat_lit 0 ∧ i' = yNadd i 1 ∧ ndL t f slot w = ndL t f slot w ∧ ndM (ndI t f slot w) i' = yNadd (ndM (ndI t f slot w) i) 1 ∧ (∀ (i_1 : Nat), Nat.succ i_1 ≤ ndM (ndI t f slot w) i' → ndK t f slot w i_1 = ySel (yNlt i_1 (ndM (ndI t f slot w) i)) (ndK t f slot w i_1) (w (yNadd 0 (yNat (keyC s t f slot (yInt (ndM (ndI t f slot w) i)))))) ∧ True) ∧ i' = yNadd i 1 ∧ (∀ (i_1 : Nat), Nat.succ i_1 ≤ i' → ndVl t f slot w i_1 = ySel (yNlt i_1 i) (ndVl t f slot w i_1) (w (yNadd 0 (yNat (valC s t f slot (yInt i))))) ∧ True) ∧ true = true)))))) ∧ (yLt 0 (yInt i) = false → true = true ∧ ∃ (i' : Nat), prFd (ndN t f slot w) i' ∧ Nat.succ (msFit (ndN t f slot w) i') ≤ msFit (ndN t f slot w) i ∧ true = true ∧ yInt i' = yWrap IntKind.i64 (yAdd (yInt i) 1) ∧ ndI t f slot w = ndI t f slot w ∧ yNeq (ndM (ndI t f slot w) i') (nat_lit 0) = yNeq (ndM (ndI t f slot w) i) 0 ∧ nat_lit 0 = nat_lit 0 ∧ ndM (ndI t f slot w) i' = ndM (ndI t f slot w) i ∧ yNeq i' (nat_lit 0) = yAnd (yNeq i 0) (yNeq 1 0) ∧ nat_lit 0 = nat_lit 0 ∧ i' = yNadd i 1 ∧ ndL t f slot w = ndL t f slot w ∧ ndM (ndI t f slot w) i' = ndM (ndI t f slot w) i ∧ (∀ (i : Nat), Nat.succ i ≤ ndM (ndI t f slot w) i' → ndK t f slot w i = ndK t f slot w i ∧ True) ∧ i' = yNadd i 1 ∧ (∀ (i_1 : Nat), Nat.succ i_1 ≤ i' → ndVl t f slot w i_1 = ySel (yNlt i_1 i) (ndVl t f slot w i_1) (w (yNadd 0 (yNat (valC s t f slot (yInt i))))) ∧ True) ∧ true = true)))))))) ∧ (yLt (yInt i) (entC (w (yNadd 0 (yNat (shapeC s t f slot)))) f) = false → ndI t f slot w = ndI t f slot w ∧ yNeq (ndM (ndI t f slot w) (ndN t f slot w)) (nat_lit 0) = yNeq (ndM (ndI t f slot w) i) 0 ∧ ndM (ndI t f slot w) (ndN t f slot w) = ndM (ndI t f slot w) i ∧ yNadd 0 (ndM (ndI t f slot w) i) ≤ ndM (ndI t f slot w) i ∧ (∀ (i : Nat), Nat.succ i ≤ ndM (ndI t f slot w) (ndN t f slot w) → ndK t f slot w i = ndK t f slot w (yNadd 0 i) ∧ True) ∧ yNeq (ndN t f slot w) (nat_lit 0) = yNeq i 0 ∧ ndN t f slot w = i ∧ yNadd 0 i ≤ i ∧ (∀ (i : Nat), Nat.succ i ≤ ndN t f slot w → ndVl t f slot w i = ndVl t f slot w (yNadd 0 i) ∧ True) ∧ ndL t f slot w = ndL t f slot w ∧ true = true)))))))))))))
theorem goalNd_eq : goalNd = goalNdV := by kernel_rfl
set_option maxHeartbeats 8000000 in
theorem goalNd_vc : goalNdV := by
 unfold goalNdV
 intro s t f l p slot mn n w hpre
 simp only [vS, forall_const] at hpre
 obtain ⟨hr, ⟨h0, h1⟩, rfl, hu⟩ := hpre
 obtain ⟨eB, room, h3, hbig, eF, eS, f4, f64⟩ := slot_room hr h0 h1
 have hs : 0 ≤ slot ∧ slot ≤ s := ⟨h0, h1⟩
 have ek : ∀ j : Nat, j < yNat f → keyC s t f slot j = (nB t f slot + 3 + j : Nat) := fun j hj => keyN eB hs eF hj
 have ev : ∀ j : Nat, j < yNat f → valC s t f slot j = (nB t f slot + 3 + yNat f + j : Nat) := fun j hj => valN eB hs eF hj
 have el := lkN eB hs
 have es := shapeN eB hs
 obtain ⟨x0, x1⟩ := entC_in (w := ndS t f slot w) (f := f) hu.1 (by omega)
 have eN : ((ndN t f slot w : Nat) : Int) = entC (ndS t f slot w) f := by unfold ndN yNat; omega
 have g1 : w (nB t f slot + 1) = ndS t f slot w := rfl
 have g2 : w (nB t f slot + 2) = ndL t f slot w := rfl
 have g3 : innC (ndS t f slot w) = ndI t f slot w := rfl
 have n0 : sizeN s t f ≠ 0 := by omega
 clear eS
 have hK : ∀ j, ndK t f slot w j = w (nB t f slot + 3 + j) := fun _ => rfl
 have hV : ∀ j, ndVl t f slot w j = w (nB t f slot + 3 + yNat f + j) := fun _ => rfl
 simp only [vS, forall_const, prFd, msFit, hr, false_or, es, el, yNatN, g1, g2, g3]
 revert eN x0 x1
 generalize entC (ndS t f slot w) f = X
 generalize ndN t f slot w = N
 generalize ndI t f slot w = I
 generalize ndK t f slot w = KK at hK ⊢
 generalize ndVl t f slot w = VV at hV ⊢
 generalize ndL t f slot w = LL at g2 ⊢
 intro x0 x1 eN
 have key : ∀ i j : Nat, i < N → j ≤ i → 0 ≤ keyC s t f slot j ∧ keyC s t f slot j < (sizeN s t f : Int) ∧ w (yNat (keyC s t f slot j)) = KK j := fun i j h h' => by rw [ek j (by omega), yNatN, hK]; exact ⟨by omega, by omega, rfl⟩
 have val : ∀ i : Nat, i < N → 0 ≤ valC s t f slot i ∧ valC s t f slot i < (sizeN s t f : Int) ∧ w (yNat (valC s t f slot i)) = VV i := fun i h => by rw [ev i (by omega), yNatN, hV]; exact ⟨by omega, by omega, rfl⟩
 cases I with
 | true =>
   have m1 : ∀ i, ndM true i = i - 1 := fun _ => rfl
   simp only [m1]
   repeat' (first | apply And.intro | intro (_ : Nat → AV) i hi | intro _)
   all_goals first
     | trivial
     | assumption
     | omega
     | (exfalso; omega)
     | exact ⟨0, by omega, rfl, by omega, by omega, by omega, by omega, by omega, by omega⟩
     | (have a1 := key i (i - 1) (by omega) (by omega); have a2 := val i (by omega); exfalso; unfold yNat at *; omega)
     | (have a2 := val i (by omega)
        refine ⟨i + 1, by omega, by omega, by rw [wrap64 (by omega) (by omega)]; omega, ?_⟩
        repeat' (first | apply And.intro | intro q hq)
        all_goals first
          | rfl
          | omega
          | trivial
          | exact nilStep' (by omega)
          | (congr 1; omega)
          | (show yNeq _ _ = yAnd _ _; simp [yNeq, yAnd]; omega)
          | (refine ySelAt fun h => ?_
             have e : q = i := by omega
             rw [e]; exact a2.2.2.symm)
          | (refine ySelAt fun h => ?_
             have e : q = i - 1 := by omega
             rw [e]; exact (key i (i - 1) (by omega) (by omega)).2.2.symm))
     | (have e : N = i := by omega
        subst e
        repeat' (first | apply And.intro | intro q hq)
        all_goals first | rfl | omega | trivial)
     | (trace_state; fail)
 | false =>
   have m1 : ∀ i, ndM false i = i := fun _ => rfl
   simp only [m1]
   repeat' (first | apply And.intro | intro (_ : Nat → AV) i hi | intro _)
   all_goals first
     | trivial
     | assumption
     | omega
     | (exfalso; omega)
     | exact ⟨0, by omega, rfl, by omega, by omega, by omega, by omega, by omega, by omega⟩
     | (have a1 := key i (i) (by omega) (by omega); have a2 := val i (by omega); exfalso; unfold yNat at *; omega)
     | (have a2 := val i (by omega)
        refine ⟨i + 1, by omega, by omega, by rw [wrap64 (by omega) (by omega)]; omega, ?_⟩
        repeat' (first | apply And.intro | intro q hq)
        all_goals first
          | rfl
          | omega
          | trivial
          | exact nilStep' (by omega)
          | (congr 1; omega)
          | (show yNeq _ _ = yAnd _ _; simp [yNeq, yAnd]; omega)
          | (refine ySelAt fun h => ?_
             have e : q = i := by omega
             rw [e]; exact a2.2.2.symm)
          | (refine ySelAt fun h => ?_
             have e : q = i := by omega
             rw [e]; exact (key i (i) (by omega) (by omega)).2.2.symm))
     | (have e : N = i := by omega
        subst e
        repeat' (first | apply And.intro | intro q hq)
        all_goals first | rfl | omega | trivial)
     | (trace_state; fail)
theorem goalNd_tt : (goalNd) = True := goalNd_eq.trans (eq_true goalNd_vc)
theorem goalNd_ok : goalNd := @ft' goalNd goalNd_tt
end Go.Proofs.YtinijejfhmcmdaaDoor.Ex
end
section
namespace Go.Proofs.YtinijejfhmcmdaaDoor.Ex
open Go
def fNw (ds : List Dx) : Option (Bool × Dx × List (List Dx)) :=
 match ds with
 | [.l [.v (.y .i64 s), .v (.y .i64 t), .v (.y .i64 f), .v (.y .i64 l), .v (.y .i64 p)]] => some (rightC s t f l p, .rows false (sizeN s t f) [.int .u64 (newW s t f)], [])
 | _ => none
def fDo (ds : List Dx) : Option (Bool × Dx × List (List Dx)) :=
 match ds with
 | [.rows mn n [.int .u64 w], .l [.v (.y .i64 k), .v (.y .i64 a), .v (.y .u64 o), .v (.y .u64 v)]] => some (yNle n 1000000, .v (.y .u64 (doR k a o n w)), [[.rows mn n [.int .u64 (doW k a o v n w)]]])
 | _ => none
def fNd (ds : List Dx) : Option (Bool × Dx × List (List Dx)) :=
 match ds with
 | [.l [.v (.y .i64 s), .v (.y .i64 t), .v (.y .i64 f), .v (.y .i64 l), .v (.y .i64 p)], .rows _ n [.int .u64 w], .v (.y .i64 slot)] =>
   some (preNd s t f l p slot n w, dNo (ndI t f slot w) (yNeq (ndM (ndI t f slot w) (ndN t f slot w)) 0) (ndM (ndI t f slot w) (ndN t f slot w)) (ndK t f slot w) (yNeq (ndN t f slot w) 0) (ndN t f slot w) (ndVl t f slot w) (ndL t f slot w), [])
 | _ => none
theorem smWrgT (hm : Tryd.prog.follows .mixedOrders = true) : SmCall Tryd.prog 4 (fun args h => (ctS gConf fWrgT args h).sel) :=
 ctS_weak (smWrong hm) (fun ds a h => by
   unfold fWrgT at h
   split at h
   · rename_i s t f l p
     simp only [Option.some.injEq, Prod.mk.injEq] at h
     obtain ⟨h1, rfl⟩ := h
     refine ⟨_, rfl, fun M u hu => ?_⟩
     have e : wrongC s t f l p = -1 := by
       have h2 := rightC_iff.1 h1
       unfold wrongC
       (repeat' split) <;> omega
     rw [e] at hu
     exact hu
   · cases h)
theorem lMe0_ok (hm : Tryd.prog.follows .mixedOrders = true) : SmAll Tryd.prog lMe0 := ⟨smWrgT hm, trivial⟩
theorem smSz (hm : Tryd.prog.follows .mixedOrders = true) : SmCall Tryd.prog 5 (fun args h => (ctS gConf fSz args h).sel) :=
 ctS_ok hm (smL_ok (lMe0_ok hm)) (by decide) (fun ds a hd => by
   unfold fSz at hd
   split at hd
   · rename_i s t f l p
     simp only [Option.some.injEq, Prod.mk.injEq] at hd
     obtain ⟨h1, rfl⟩ := hd
     have g := @goalSz_ok
     unfold goalSz at g
     exact ⟨fun _ => none, 1000, @g s t f l p h1⟩
   · cases hd)
theorem smWd (hm : Tryd.prog.follows .mixedOrders = true) : SmCall Tryd.prog 22 (fun args h => (ctS gWd fWd args h).sel) :=
 ctS_ok hm noSm_ok (by decide) (fun ds a hd => by
   unfold fWd at hd
   split at hd
   · rename_i l d c gg
     simp only [Option.some.injEq, Prod.mk.injEq] at hd
     obtain ⟨h1, rfl⟩ := hd
     have g := @goalWd_ok
     unfold goalWd at g
     exact ⟨fun _ => none, 1000, @g l d c gg h1⟩
   · cases hd)
theorem smEn (hm : Tryd.prog.follows .mixedOrders = true) : SmCall Tryd.prog 49 (fun args h => (ctS gEnt fEn args h).sel) :=
 ctS_ok hm noSm_ok (by decide) (fun ds a hd => by
   unfold fEn at hd
   split at hd
   · rename_i w f
     simp only [Option.some.injEq, Prod.mk.injEq] at hd
     obtain ⟨h1, rfl⟩ := hd
     have g := @goalEn_ok
     unfold goalEn at g
     exact ⟨fun _ => none, 1000, @g w f h1⟩
   · cases hd)
theorem smIn (hm : Tryd.prog.follows .mixedOrders = true) : SmCall Tryd.prog 50 (fun args h => (ctS gW fIn args h).sel) :=
 ctS_ok hm noSm_ok (by decide) (fun ds a hd => by
   unfold fIn at hd
   split at hd
   · rename_i w
     simp only [Option.some.injEq, Prod.mk.injEq] at hd
     obtain ⟨h1, rfl⟩ := hd
     have g := @goalIn_ok
     unfold goalIn at g
     exact ⟨fun _ => none, 1000, @g w h1⟩
   · cases hd)
theorem lMe_ok (hm : Tryd.prog.follows .mixedOrders = true) : SmAll Tryd.prog lMe := ⟨smVerR hm, smR1 hm @goalShpR_ok, smR1 hm @goalLk8_ok, smR2 hm @goalKeyR_ok, smValR hm, smSz hm, trivial⟩
theorem lNw_ok (hm : Tryd.prog.follows .mixedOrders = true) : SmAll Tryd.prog lNw := ⟨smWd hm, lMe_ok hm⟩
theorem lNd_ok (hm : Tryd.prog.follows .mixedOrders = true) : SmAll Tryd.prog lNd := ⟨smEn hm, smIn hm, lMe_ok hm⟩
theorem smNw (hm : Tryd.prog.follows .mixedOrders = true) : SmCall Tryd.prog 7 (fun args h => (ctX [sConf] ownU fNw args h).sel) :=
 ctX_ok hm (smL_ok (lNw_ok hm)) (fun ds r post h => by
   unfold fNw at h
   split at h
   · rename_i s t f l p
     simp only [Option.some.injEq, Prod.mk.injEq] at h
     obtain ⟨h1, rfl, rfl⟩ := h
     have g := @goalNw_ok
     unfold goalNw at g
     exact ⟨annNw s t f, 1000, @g s t f l p h1⟩
   · cases h)
theorem smDo (hm : Tryd.prog.follows .mixedOrders = true) : SmCall Tryd.prog 8 (fun args h => (ctX [mutU, rW4] .sc fDo args h).sel) :=
 ctX_ok hm noSm_ok (fun ds r post h => by
   unfold fDo at h
   split at h
   · rename_i mn n w k a o v
     simp only [Option.some.injEq, Prod.mk.injEq] at h
     obtain ⟨h1, rfl, rfl⟩ := h
     have g := @goalDo_ok
     unfold goalDo at g
     exact ⟨fun _ => none, 1000, @g mn n w k a o v h1⟩
   · cases h)
theorem smNd (hm : Tryd.prog.follows .mixedOrders = true) : SmCall Tryd.prog 18 (fun args h => (ctX [sConf, roU, .sc] sNdP fNd args h).sel) :=
 ctX_ok hm (smL_ok (lNd_ok hm)) (fun ds r post h => by
   unfold fNd at h
   split at h
   · rename_i s t f l p mn n w slot
     simp only [Option.some.injEq, Prod.mk.injEq] at h
     obtain ⟨h1, rfl, rfl⟩ := h
     have g := @goalNd_ok
     unfold goalNd at g
     exact ⟨_, 1000, @g s t f l p slot mn n w h1⟩
   · cases h)
def fWrongK (m : Nat) (ds : List Da) : Option (Bool × AV) :=
 match ds with
 | [.agg [.v (.y .i64 s), .v (.y .i64 t), .v (.y .i64 f), .v (.y .i64 l), .v (.y .i64 p)]] => some (yEq (wrongC s t f l p) (Int.ofNat m), .i .i64 (Int.ofNat m))
 | _ => none
theorem smWrgK (m : Nat) (hm : Tryd.prog.follows .mixedOrders = true) : SmCall Tryd.prog 4 (fun args h => (ctS gConf (fWrongK m) args h).sel) :=
 ctS_weak (smWrong hm) (fun ds a h => by
   unfold fWrongK at h
   split at h
   · rename_i s t f l p
     simp only [Option.some.injEq, Prod.mk.injEq] at h
     obtain ⟨h1, rfl⟩ := h
     refine ⟨_, rfl, fun M u hu => ?_⟩
     rw [yEq_t.mp h1] at hu
     exact hu
   · cases h)
end Go.Proofs.YtinijejfhmcmdaaDoor.Ex
end
section
namespace Go.Proofs.YtinijejfhmcmdaaDoor.Ex
open Go
structure WkS where
 p : Int
 pv : Int
 pn : Int
 i : Int
 h : Int
 v : Int
 n : Int
 inr : Bool
 dp : Int
 key : Int
 slow : Bool
 chain : Bool
 st : Int
 out : Int
 sk : Int
 sl : Int
 sh : Int
 skey : Int
 at_ : Int
 ch : Int
 k0 : Int
 a0 : Int
 b0 : Int
 k1 : Int
 a1 : Int
 b1 : Int
 mn : Int
instance : Inhabited WkS := ⟨⟨0, 0, 0, 0, 0, 0, 0, false, 0, 0, false, false, 0, 0, 0, 0, 0, 0, 0, 0, 0, 0, 0, 0, 0, 0, 0⟩⟩
def zP (W : WkS) : Int := W.p
def zPv (W : WkS) : Int := W.pv
def zPn (W : WkS) : Int := W.pn
def zI (W : WkS) : Int := W.i
def zH (W : WkS) : Int := W.h
def zV (W : WkS) : Int := W.v
def zN (W : WkS) : Int := W.n
def zInr (W : WkS) : Bool := W.inr
def zDp (W : WkS) : Int := W.dp
def zKey (W : WkS) : Int := W.key
def zSlow (W : WkS) : Bool := W.slow
def zChain (W : WkS) : Bool := W.chain
def zSt (W : WkS) : Int := W.st
def zOut (W : WkS) : Int := W.out
def zSk (W : WkS) : Int := W.sk
def zSl (W : WkS) : Int := W.sl
def zSh (W : WkS) : Int := W.sh
def zSkey (W : WkS) : Int := W.skey
def zAt (W : WkS) : Int := W.at_
def zCh (W : WkS) : Int := W.ch
def zK0 (W : WkS) : Int := W.k0
def zA0 (W : WkS) : Int := W.a0
def zB0 (W : WkS) : Int := W.b0
def zK1 (W : WkS) : Int := W.k1
def zA1 (W : WkS) : Int := W.a1
def zB1 (W : WkS) : Int := W.b1
def zMn (W : WkS) : Int := W.mn
abbrev dWk (cs ct cf cl cp th mo : Int) (W : WkS) : Dx := .l [.v (.y .u64 (zP W)), .v (.y .u64 (zPv W)), .v (.y .i64 (zPn W)), .v (.y .i64 (zI W)), .v (.y .u64 (zH W)), .v (.y .u64 (zV W)), .v (.y .i64 (zN W)), .v (.yb (zInr W)), .v (.y .i64 (zDp W)), .v (.y .i64 cs), .v (.y .i64 ct), .v (.y .i64 cf), .v (.y .i64 cl), .v (.y .i64 cp), .v (.y .i64 th), .v (.y .i64 mo), .v (.y .u64 (zKey W)), .v (.yb (zSlow W)), .v (.yb (zChain W)), .v (.y .i64 (zSt W)), .v (.y .i64 (zOut W)), .v (.y .i64 (zSk W)), .v (.y .i64 (zSl W)), .v (.y .i64 (zSh W)), .v (.y .u64 (zSkey W)), .v (.y .i64 (zAt W)), .v (.y .u64 (zCh W)), .v (.y .i64 (zK0 W)), .v (.y .u64 (zA0 W)), .v (.y .u64 (zB0 W)), .v (.y .i64 (zK1 W)), .v (.y .u64 (zA1 W)), .v (.y .u64 (zB1 W)), .v (.y .i64 (zMn W))]
abbrev dWkL (st cs ct cf cl cp th : Int) (W : WkS) : Dx := .l [.v (.y .u64 (zP W)), .v (.y .u64 (zPv W)), .v (.y .i64 (zPn W)), .v (.y .i64 (zI W)), .v (.y .u64 (zH W)), .v (.y .u64 (zV W)), .v (.y .i64 (zN W)), .v (.yb (zInr W)), .v (.y .i64 (zDp W)), .v (.y .i64 cs), .v (.y .i64 ct), .v (.y .i64 cf), .v (.y .i64 cl), .v (.y .i64 cp), .v (.y .i64 th), .v (.i .i64 1), .v (.y .u64 (zKey W)), .v (.yb (zSlow W)), .v (.yb (zChain W)), .v (.i .i64 st), .v (.y .i64 (zOut W)), .v (.y .i64 (zSk W)), .v (.y .i64 (zSl W)), .v (.y .i64 (zSh W)), .v (.y .u64 (zSkey W)), .v (.y .i64 (zAt W)), .v (.y .u64 (zCh W)), .v (.y .i64 (zK0 W)), .v (.y .u64 (zA0 W)), .v (.y .u64 (zB0 W)), .v (.y .i64 (zK1 W)), .v (.y .u64 (zA1 W)), .v (.y .u64 (zB1 W)), .v (.y .i64 (zMn W))]
abbrev sWk : Sx := .agg [.sc, .sc, .sc, .sc, .sc, .sc, .sc, .sc, .sc, .sc, .sc, .sc, .sc, .sc, .sc, .sc, .sc, .sc, .sc, .sc, .sc, .sc, .sc, .sc, .sc, .sc, .sc, .sc, .sc, .sc, .sc, .sc, .sc, .sc]
inductive KD where
 | u
 | i
 | b
def hdP (l : List (Int × Bool)) : Int × Bool := match l with | [] => (0, false) | a :: _ => a
def parseK : List KD → List Dx → Option (List (Int × Bool))
 | [], ds => match ds with | [] => some [] | _ => none
 | k :: ks, ds => match ds with
   | d :: r => match k, d with
     | .u, .v (.y .u64 x) => (match parseK ks r with | some l => some ((x, false) :: l) | none => none)
     | .i, .v (.y .i64 x) => (match parseK ks r with | some l => some ((x, false) :: l) | none => none)
     | .b, .v (.yb x) => (match parseK ks r with | some l => some ((0, x) :: l) | none => none)
     | _, _ => none
   | [] => none
def unpK : List KD → List (Int × Bool) → List Dx
 | [], _ => []
 | .u :: ks, l => .v (.y .u64 (hdP l).1) :: unpK ks l.tail
 | .i :: ks, l => .v (.y .i64 (hdP l).1) :: unpK ks l.tail
 | .b :: ks, l => .v (.yb (hdP l).2) :: unpK ks l.tail
theorem parseK_ok : ∀ {ks : List KD} {ds : List Dx} {l : List (Int × Bool)}, parseK ks ds = some l → ds = unpK ks l
 | [], ds, l, h => by
   unfold parseK at h
   split at h
   · rfl
   · cases h
 | k :: ks, ds, l, h => by
   unfold parseK at h
   split at h
   · split at h
     all_goals first
       | (split at h
          · rename_i hp
            simp only [Option.some.injEq] at h
            subst h
            rw [parseK_ok hp]; rfl
          · cases h)
       | cases h
   · cases h
abbrev kWk : List KD := [.u, .u, .i, .i, .u, .u, .i, .b, .i, .i, .i, .i, .i, .i, .i, .i, .u, .b, .b, .i, .i, .i, .i, .i, .u, .i, .u, .i, .u, .u, .i, .u, .u, .i]
def wOf (l : List (Int × Bool)) : WkS := ⟨(hdP l).1, (hdP l.tail).1, (hdP l.tail.tail).1, (hdP l.tail.tail.tail).1, (hdP l.tail.tail.tail.tail).1, (hdP l.tail.tail.tail.tail.tail).1, (hdP l.tail.tail.tail.tail.tail.tail).1, (hdP l.tail.tail.tail.tail.tail.tail.tail).2, (hdP l.tail.tail.tail.tail.tail.tail.tail.tail).1, (hdP l.tail.tail.tail.tail.tail.tail.tail.tail.tail.tail.tail.tail.tail.tail.tail.tail).1, (hdP l.tail.tail.tail.tail.tail.tail.tail.tail.tail.tail.tail.tail.tail.tail.tail.tail.tail).2, (hdP l.tail.tail.tail.tail.tail.tail.tail.tail.tail.tail.tail.tail.tail.tail.tail.tail.tail.tail).2, (hdP l.tail.tail.tail.tail.tail.tail.tail.tail.tail.tail.tail.tail.tail.tail.tail.tail.tail.tail.tail).1, (hdP l.tail.tail.tail.tail.tail.tail.tail.tail.tail.tail.tail.tail.tail.tail.tail.tail.tail.tail.tail.tail).1, (hdP l.tail.tail.tail.tail.tail.tail.tail.tail.tail.tail.tail.tail.tail.tail.tail.tail.tail.tail.tail.tail.tail).1, (hdP l.tail.tail.tail.tail.tail.tail.tail.tail.tail.tail.tail.tail.tail.tail.tail.tail.tail.tail.tail.tail.tail.tail).1, (hdP l.tail.tail.tail.tail.tail.tail.tail.tail.tail.tail.tail.tail.tail.tail.tail.tail.tail.tail.tail.tail.tail.tail.tail).1, (hdP l.tail.tail.tail.tail.tail.tail.tail.tail.tail.tail.tail.tail.tail.tail.tail.tail.tail.tail.tail.tail.tail.tail.tail.tail).1, (hdP l.tail.tail.tail.tail.tail.tail.tail.tail.tail.tail.tail.tail.tail.tail.tail.tail.tail.tail.tail.tail.tail.tail.tail.tail.tail).1, (hdP l.tail.tail.tail.tail.tail.tail.tail.tail.tail.tail.tail.tail.tail.tail.tail.tail.tail.tail.tail.tail.tail.tail.tail.tail.tail.tail).1, (hdP l.tail.tail.tail.tail.tail.tail.tail.tail.tail.tail.tail.tail.tail.tail.tail.tail.tail.tail.tail.tail.tail.tail.tail.tail.tail.tail.tail).1, (hdP l.tail.tail.tail.tail.tail.tail.tail.tail.tail.tail.tail.tail.tail.tail.tail.tail.tail.tail.tail.tail.tail.tail.tail.tail.tail.tail.tail.tail).1, (hdP l.tail.tail.tail.tail.tail.tail.tail.tail.tail.tail.tail.tail.tail.tail.tail.tail.tail.tail.tail.tail.tail.tail.tail.tail.tail.tail.tail.tail.tail).1, (hdP l.tail.tail.tail.tail.tail.tail.tail.tail.tail.tail.tail.tail.tail.tail.tail.tail.tail.tail.tail.tail.tail.tail.tail.tail.tail.tail.tail.tail.tail.tail).1, (hdP l.tail.tail.tail.tail.tail.tail.tail.tail.tail.tail.tail.tail.tail.tail.tail.tail.tail.tail.tail.tail.tail.tail.tail.tail.tail.tail.tail.tail.tail.tail.tail).1, (hdP l.tail.tail.tail.tail.tail.tail.tail.tail.tail.tail.tail.tail.tail.tail.tail.tail.tail.tail.tail.tail.tail.tail.tail.tail.tail.tail.tail.tail.tail.tail.tail.tail).1, (hdP l.tail.tail.tail.tail.tail.tail.tail.tail.tail.tail.tail.tail.tail.tail.tail.tail.tail.tail.tail.tail.tail.tail.tail.tail.tail.tail.tail.tail.tail.tail.tail.tail.tail).1⟩
def genhC (h : Int) : Int := h / 65536 % 16777216
def beginC (h w : Int) : Int := if w / 1099511627776 ≠ genhC h ∨ w / 2 % 2 = 1 then 1 else if w % 2 = 1 then 2 else 3
def hazC (ct th i : Int) : Int := if 0 ≤ th ∧ th < ct ∧ 0 ≤ i ∧ i < 2 then 3 + ct + 2 * th + i else -1
def fLk (F : Int → Bool) (ds : List Da) : Option (Bool × AV) :=
 match ds with
 | [.cell (.v (.y .u64 w))] => some (inU w, .yb (F w))
 | _ => none
abbrev gBe : List Ag := [.cell none, .cell none]
abbrev dBe (h w : Int) : List Da := [.cell (.v (.y .u64 h)), .cell (.v (.y .u64 w))]
def fBe (ds : List Da) : Option (Bool × AV) :=
 match ds with
 | [.cell (.v (.y .u64 h)), .cell (.v (.y .u64 w))] => some (yAnd (inU h) (inU w), .y .i64 (beginC h w))
 | _ => none
def goalBe (P : Program) (f : FuncId) : Prop := ∀ (h w : Int), yAnd (inU h) (inU w) = true → wxF P noSm (fun _ => none) 1000 f (canA gBe (dBe h w) []).1 (heapOf (canA gBe (dBe h w) []).2) (fun v _ => cmpC (.y .i64 (beginC h w)) v)
def goalBeP : Prop := goalBe Tryd.prog 59
def goalBeR : Prop := goalBe Tryd.prog 25
def goalEnt (P : Program) (f : FuncId) : Prop := ∀ (w f' : Int), inU w = true → wxF P noSm (fun _ => none) 1000 f (canA gEnt (dEn w f') []).1 (heapOf (canA gEnt (dEn w f') []).2) (fun v _ => cmpC (.y .i64 (entC w f')) v)
def goalEnP : Prop := goalEnt Tryd.prog 61
def goalInn (P : Program) (f : FuncId) : Prop := ∀ (w : Int), inU w = true → wxF P noSm (fun _ => none) 1000 f (canA gW (dW w) []).1 (heapOf (canA gW (dW w) []).2) (fun v _ => cmpC (.yb (innC w)) v)
def goalInP : Prop := goalInn Tryd.prog 60
def goalLkP : Prop := goalInn Tryd.prog 55
def goalHz : Prop := ∀ (s t f l p th i : Int), rightC s t f l p = true → wxF Tryd.prog noSm (fun _ => none) 1000 45 (canA gL2 (dL2 s t f l p th i) []).1 (heapOf (canA gL2 (dL2 s t f l p th i) []).2) (fun v _ => cmpC (.y .i64 (hazC t th i)) v)
def fHz (ds : List Da) : Option (Bool × AV) :=
 match ds with
 | [.agg [.v (.y .i64 s), .v (.y .i64 t), .v (.y .i64 f), .v (.y .i64 l), .v (.y .i64 p)], .cell (.v (.y .i64 th)), .cell (.v (.y .i64 i))] => some (rightC s t f l p, .y .i64 (hazC t th i))
 | _ => none
def comesX (cs : Int) (W : WkS) (h : Int) : WkS := if hrC h cs then { W with h := h, st := if W.slow then 3 else 4 } else { W with st := 0, out := 3 }
def searchedX (W : WkS) : WkS := if W.sl < W.sh then { W with st := 7 } else { W with at_ := W.sl, st := 8 }
def onX (W : WkS) : WkS := searchedX { W with sk := 2, sl := 0, sh := if W.n - 1 < 0 then 0 else W.n - 1, skey := W.key }
def tk1 (W : WkS) (got : Int) : WkS := if innC got then { W with mn := 0 } else { W with pv := got, pn := 1, st := 2, k0 := 1, a0 := 0, b0 := got, mn := 1 }
def tk2 (cs : Int) (W : WkS) (got : Int) : WkS := comesX cs { W with mn := 0 } got
def tk4 (W : WkS) (got : Int) : WkS := if beginC W.h got = 1 then { W with mn := 0, st := 0, out := 3 } else if beginC W.h got = 3 then { W with v := got, st := 5, k0 := 1, a0 := W.h, b0 := got, mn := 1 } else { W with mn := 0 }
def tk5 (W : WkS) (got : Int) : WkS :=
 if got = W.pv then (if W.slow then { W with k0 := 2, a0 := W.p, b0 := 0, k1 := 4, a1 := W.h, b1 := 0, mn := 2, st := 6 } else { W with k0 := 2, a0 := W.p, b0 := 0, mn := 1, st := 6 })
 else { W with k0 := 3, a0 := W.p, b0 := 0, mn := 1, st := 0, out := 3 }
def tk6 (cf : Int) (W : WkS) (got : Int) : WkS :=
 if innC got then (if W.chain then { W with mn := 0, inr := true, n := entC got cf, st := 0, out := 3 } else onX { W with mn := 0, inr := true, n := if entC got cf < 1 then 1 else entC got cf })
 else { W with mn := 0, inr := false, n := entC got cf, st := 0, out := 1 }
def midX (W : WkS) : Int := W.sl + (W.sh - W.sl) / 2
def tk7 (W : WkS) (got : Int) : WkS :=
 if W.sl < W.sh then
   (if (W.sk = 1 ∧ got < W.skey) ∨ (W.sk ≠ 1 ∧ got ≤ W.skey) then
     (if midX W + 1 < W.sh then { W with mn := 0, sl := midX W + 1, st := 7 } else { W with mn := 0, sl := midX W + 1, at_ := midX W + 1, st := 8 })
   else (if W.sl < midX W then { W with mn := 0, sh := midX W, st := 7 } else { W with mn := 0, sh := midX W, at_ := W.sl, st := 8 }))
 else { W with mn := 0, at_ := W.sl, st := 8 }
def tk9 (cs : Int) (W : WkS) (got : Int) : WkS :=
 if got = W.v then comesX cs { W with k0 := 2, a0 := W.h, b0 := 0, mn := 1, p := W.h, pv := W.v, pn := W.n, i := W.at_, dp := W.dp + 1 } W.ch
 else { W with k0 := 3, a0 := W.h, b0 := 0, mn := 1, st := 0, out := 3 }
def tkX (cs cf : Int) (W : WkS) (got : Int) : WkS :=
 if W.st = 1 then tk1 W got else if W.st = 2 then tk2 cs W got else if W.st = 3 then { W with mn := 0, st := 4 } else if W.st = 4 then tk4 W got else if W.st = 5 then tk5 W got else if W.st = 6 then tk6 cf W got
 else if W.st = 7 then tk7 W got else if W.st = 8 then { W with mn := 0, ch := got, st := 9 } else if W.st = 9 then tk9 cs W got else { W with mn := 0 }
def invX (cs ct cf cl cp th : Int) (W : WkS) : Bool := decide (rightC cs ct cf cl cp = true ∧ inU W.h = true ∧ inU W.p = true ∧ inU W.ch = true ∧ (0 ≤ W.sl ∧ W.sl ≤ 64 ∧ -1 ≤ W.sh ∧ W.sh ≤ 64) ∧ (0 ≤ W.dp ∧ W.dp ≤ 1000000) ∧ (0 ≤ W.st ∧ W.st ≤ 9) ∧ (0 ≤ th ∧ th < ct) ∧ (-1 ≤ W.n ∧ W.n ≤ 64))
def wkK (W : WkS) : Int := if W.st = 3 then 2 else if 1 ≤ W.st ∧ W.st ≤ 9 then 1 else 0
def wkA (cs ct cf th : Int) (W : WkS) : Int :=
 if W.st = 1 then verC cs ct cf 0 else if W.st = 2 then valC cs ct cf 0 0 else if W.st = 3 then hazC ct th (W.dp % 2) else if W.st = 4 ∨ W.st = 9 then verC cs ct cf (slotC W.h) else if W.st = 5 then verC cs ct cf (slotC W.p)
 else if W.st = 6 then shapeC cs ct cf (slotC W.h) else if W.st = 7 then keyC cs ct cf (slotC W.h) (if W.sl < W.sh then midX W else -1) else if W.st = 8 then valC cs ct cf (slotC W.h) W.at_ else 0
def wkN (W : WkS) : Int := if W.st = 3 then W.h else 0
def wkDn (W : WkS) : Int := if W.st = 0 then (if W.out = 0 then 3 else W.out) else 0
def wkOk (W : WkS) : Bool := decide (W.st = 0)
def lWk : List (Nat × Sm) := [(56, .ct (ctS gHr fHr)), (41, .ct (ctS gW fSl16)), (59, .ct (ctS gBe fBe)), (55, .ct (ctS gW (fLk innC))), (60, .ct (ctS gW (fLk innC))), (61, .ct (ctS gEnt fEn)),
 (43, .ct (ctS gL1 (fL1 verC))), (44, .ct (ctS gL2 (fL2 valC))), (47, .ct (ctS gL2 (fL2 keyC))), (46, .ct (ctS gL1 (fL1 shapeC))), (45, .ct (ctS gL2 fHz))]
def goalXt0 : Prop := ∀ (cs ct cf cl cp th : Int) (W : WkS) (got : Int), invX cs ct cf cl cp th W = true → inU got = true → zSt W = 0 → 
 wxP Tryd.prog (smL lWk) (fun _ => none) 15 [sWk, .sc] [dWkL 0 cs ct cf cl cp th W, .v (.y .u64 got)] sWk (dWk cs ct cf cl cp th 1 (tkX cs cf W got)) []
def goalXt1 : Prop := ∀ (cs ct cf cl cp th : Int) (W : WkS) (got : Int), invX cs ct cf cl cp th W = true → inU got = true → zSt W = 1 → 
 wxP Tryd.prog (smL lWk) (fun _ => none) 15 [sWk, .sc] [dWkL 1 cs ct cf cl cp th W, .v (.y .u64 got)] sWk (dWk cs ct cf cl cp th 1 (tk1 W got)) []
def goalXt2 : Prop := ∀ (cs ct cf cl cp th : Int) (W : WkS) (got : Int), invX cs ct cf cl cp th W = true → inU got = true → zSt W = 2 → 
 wxP Tryd.prog (smL lWk) (fun _ => none) 15 [sWk, .sc] [dWkL 2 cs ct cf cl cp th W, .v (.y .u64 got)] sWk (dWk cs ct cf cl cp th 1 (tk2 cs W got)) []
def goalXt3 : Prop := ∀ (cs ct cf cl cp th : Int) (W : WkS) (got : Int), invX cs ct cf cl cp th W = true → inU got = true → zSt W = 3 → 
 wxP Tryd.prog (smL lWk) (fun _ => none) 15 [sWk, .sc] [dWkL 3 cs ct cf cl cp th W, .v (.y .u64 got)] sWk (dWk cs ct cf cl cp th 1 (tkX cs cf W got)) []
def goalXt4 : Prop := ∀ (cs ct cf cl cp th : Int) (W : WkS) (got : Int), invX cs ct cf cl cp th W = true → inU got = true → zSt W = 4 → 
 wxP Tryd.prog (smL lWk) (fun _ => none) 15 [sWk, .sc] [dWkL 4 cs ct cf cl cp th W, .v (.y .u64 got)] sWk (dWk cs ct cf cl cp th 1 (tk4 W got)) []
def goalXt5 : Prop := ∀ (cs ct cf cl cp th : Int) (W : WkS) (got : Int), invX cs ct cf cl cp th W = true → inU got = true → zSt W = 5 → 
 wxP Tryd.prog (smL lWk) (fun _ => none) 15 [sWk, .sc] [dWkL 5 cs ct cf cl cp th W, .v (.y .u64 got)] sWk (dWk cs ct cf cl cp th 1 (tk5 W got)) []
def goalXt6 : Prop := ∀ (cs ct cf cl cp th : Int) (W : WkS) (got : Int), invX cs ct cf cl cp th W = true → inU got = true → zSt W = 6 → 
 wxP Tryd.prog (smL lWk) (fun _ => none) 15 [sWk, .sc] [dWkL 6 cs ct cf cl cp th W, .v (.y .u64 got)] sWk (dWk cs ct cf cl cp th 1 (tk6 cf W got)) []
def goalXt7 : Prop := ∀ (cs ct cf cl cp th : Int) (W : WkS) (got : Int), invX cs ct cf cl cp th W = true → inU got = true → zSt W = 7 → 
 wxP Tryd.prog (smL lWk) (fun _ => none) 15 [sWk, .sc] [dWkL 7 cs ct cf cl cp th W, .v (.y .u64 got)] sWk (dWk cs ct cf cl cp th 1 (tk7 W got)) []
def goalXt8 : Prop := ∀ (cs ct cf cl cp th : Int) (W : WkS) (got : Int), invX cs ct cf cl cp th W = true → inU got = true → zSt W = 8 → 
 wxP Tryd.prog (smL lWk) (fun _ => none) 15 [sWk, .sc] [dWkL 8 cs ct cf cl cp th W, .v (.y .u64 got)] sWk (dWk cs ct cf cl cp th 1 (tkX cs cf W got)) []
def goalXt9 : Prop := ∀ (cs ct cf cl cp th : Int) (W : WkS) (got : Int), invX cs ct cf cl cp th W = true → inU got = true → zSt W = 9 → 
 wxP Tryd.prog (smL lWk) (fun _ => none) 15 [sWk, .sc] [dWkL 9 cs ct cf cl cp th W, .v (.y .u64 got)] sWk (dWk cs ct cf cl cp th 1 (tk9 cs W got)) []
def fXt (ds : List Dx) : Option (Bool × Dx × List (List Dx)) :=
 match ds with
 | [.l wd, .v (.y .u64 got)] => match parseK kWk wd with
   | some l => some (yAnd (yAnd (yEq (hdP l.tail.tail.tail.tail.tail.tail.tail.tail.tail.tail.tail.tail.tail.tail.tail).1 1) (inU got)) (invX (hdP l.tail.tail.tail.tail.tail.tail.tail.tail.tail).1 (hdP l.tail.tail.tail.tail.tail.tail.tail.tail.tail.tail).1 (hdP l.tail.tail.tail.tail.tail.tail.tail.tail.tail.tail.tail).1 (hdP l.tail.tail.tail.tail.tail.tail.tail.tail.tail.tail.tail.tail).1 (hdP l.tail.tail.tail.tail.tail.tail.tail.tail.tail.tail.tail.tail.tail).1 (hdP l.tail.tail.tail.tail.tail.tail.tail.tail.tail.tail.tail.tail.tail.tail).1 (wOf l)), dWk (hdP l.tail.tail.tail.tail.tail.tail.tail.tail.tail).1 (hdP l.tail.tail.tail.tail.tail.tail.tail.tail.tail.tail).1 (hdP l.tail.tail.tail.tail.tail.tail.tail.tail.tail.tail.tail).1 (hdP l.tail.tail.tail.tail.tail.tail.tail.tail.tail.tail.tail.tail).1 (hdP l.tail.tail.tail.tail.tail.tail.tail.tail.tail.tail.tail.tail.tail).1 (hdP l.tail.tail.tail.tail.tail.tail.tail.tail.tail.tail.tail.tail.tail.tail).1 1 (tkX (hdP l.tail.tail.tail.tail.tail.tail.tail.tail.tail).1 (hdP l.tail.tail.tail.tail.tail.tail.tail.tail.tail.tail.tail).1 (wOf l) got), [])
   | none => none
 | _ => none
def fXw (ds : List Dx) : Option (Bool × Dx × List (List Dx)) :=
 match ds with
 | [.l wd] => match parseK kWk wd with
   | some l => some (yAnd (yEq (hdP l.tail.tail.tail.tail.tail.tail.tail.tail.tail.tail.tail.tail.tail.tail.tail).1 1) (invX (hdP l.tail.tail.tail.tail.tail.tail.tail.tail.tail).1 (hdP l.tail.tail.tail.tail.tail.tail.tail.tail.tail.tail).1 (hdP l.tail.tail.tail.tail.tail.tail.tail.tail.tail.tail.tail).1 (hdP l.tail.tail.tail.tail.tail.tail.tail.tail.tail.tail.tail.tail).1 (hdP l.tail.tail.tail.tail.tail.tail.tail.tail.tail.tail.tail.tail.tail).1 (hdP l.tail.tail.tail.tail.tail.tail.tail.tail.tail.tail.tail.tail.tail.tail).1 (wOf l)), .l [.v (.y .i64 (wkK (wOf l))), .v (.y .i64 (wkA (hdP l.tail.tail.tail.tail.tail.tail.tail.tail.tail).1 (hdP l.tail.tail.tail.tail.tail.tail.tail.tail.tail.tail).1 (hdP l.tail.tail.tail.tail.tail.tail.tail.tail.tail.tail.tail).1 (hdP l.tail.tail.tail.tail.tail.tail.tail.tail.tail.tail.tail.tail.tail.tail).1 (wOf l))), .v (.y .u64 0), .v (.y .u64 (wkN (wOf l)))], [])
   | none => none
 | _ => none
def fXd (ds : List Dx) : Option (Bool × Dx × List (List Dx)) :=
 match ds with
 | [.l wd] => match parseK kWk wd with
   | some l => some (true, .l [.v (.y .i64 (wkDn (wOf l))), .v (.yb (wkOk (wOf l)))], [])
   | none => none
 | _ => none
def goalXw : Prop := ∀ (cs ct cf cl cp th mo : Int) (W : WkS), yEq mo 1 = true → invX cs ct cf cl cp th W = true →
 wxP Tryd.prog (smL lWk) (fun _ => none) 16 [sWk] [dWk cs ct cf cl cp th mo W] (.agg [.sc, .sc, .sc, .sc]) (.l [.v (.y .i64 (wkK W)), .v (.y .i64 (wkA cs ct cf th W)), .v (.y .u64 0), .v (.y .u64 (wkN W))]) []
def goalXd : Prop := ∀ (cs ct cf cl cp th mo : Int) (W : WkS),
 wxP Tryd.prog noSm (fun _ => none) 14 [sWk] [dWk cs ct cf cl cp th mo W] (.tup [.sc, .sc]) (.l [.v (.y .i64 (wkDn W)), .v (.yb (wkOk W))]) []
def wk0 (key : Int) (slow : Bool) : WkS := { (default : WkS) with key := key, slow := slow, st := 1 }
end Go.Proofs.YtinijejfhmcmdaaDoor.Ex
end
