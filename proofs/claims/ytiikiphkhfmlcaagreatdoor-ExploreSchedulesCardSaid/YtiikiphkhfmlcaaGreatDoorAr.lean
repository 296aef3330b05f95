/- How slices of structs lie in memory, and what a call leaves as it was. -/
import Derived.Test.YtiikiphkhfmlcaaGreatDoorProg
import Derived.WalkKit
import Derived.BigQuiet
import Derived.Deep.QuietTactic
import Derived.Deep.LoopGhost
import Derived.Lib.SmallJoins
import Derived.Deep.RegionHeld3
import Derived.Deep.RegionWith
import Derived.Lib.Hide
import Derived.Laws.CopyOwn
import Derived.Laws.Externs
import Derived.Lib.Overlaps
import Derived.Lib.AppendZerosOnto
import Derived.Lib.SliceRun
import Derived.Deep.RegionLaw
import Derived.Deep.AppendLies
import Derived.OrdersHeld
noncomputable section
namespace Go.Proofs.YtiikiphkhfmlcaaGreatDoor
open Go Go.RowKit

/-! A world behind a call that only made blocks: `w.ext E n`. -/

/-- A block that there is. (Not an inequality: the walk settles it without a side condition of its own.) -/
def _root_.Go.World.holds (w : World) (b : Nat) : Prop := b < w.heap.size
theorem has_of_lt {w : World} {b : Nat} (h : b < w.heap.size) : w.holds b := h
def _root_.Go.World.ext (w : World) (E : Array Obj) (n : Nat) : World := { w with heap := w.heap ++ E, drawn := n }

section
variable (w : World) (E : Array Obj) (n : Nat)
@[simp] theorem ext_size : (w.ext E n).heap.size = w.heap.size + E.size := by simp [World.ext]
@[simp] theorem ext_tape : (w.ext E n).tape = w.tape := rfl
@[simp] theorem ext_os : (w.ext E n).os = w.os := rfl
@[simp] theorem ext_output : (w.ext E n).output = w.output := rfl
theorem ext_heap (k : Nat) (h : k < w.heap.size) : (w.ext E n).heap[k]? = w.heap[k]? := by
  show (w.heap ++ E)[k]? = _
  rw [Array.getElem?_append_left h]
@[go_sem] theorem has_ext (b : Nat) : (w.ext E n).holds b = (w.holds b ∨ (w.heap.size ≤ b ∧ b < w.heap.size + E.size)) := by
  simp only [World.holds, ext_size, eq_iff_iff]; omega
@[go_sem] theorem has_alloc (o : Obj) (b : Nat) : (w.alloc o).holds b = (b = w.heap.size ∨ w.holds b) := by
  simp only [World.holds, World.size_alloc, eq_iff_iff]; omega
@[go_sem] theorem has_setCell (a : Addr) (v : Value) (b : Nat) : (w.setCell a v).holds b = w.holds b := by simp [World.holds]
@[go_sem] theorem has_drew (b : Nat) : (w.drew).holds b = w.holds b := rfl
@[go_sem] theorem has_drewN (k b : Nat) : (w.drewN k).holds b = w.holds b := rfl
@[go_sem] theorem ext_cell (b o : Nat) (h : w.holds b) : (w.ext E n).cell? ⟨b, o, none⟩ = w.cell? ⟨b, o, none⟩ := World.cell?_of_block (w := w) (ext_heap w E n b h)
@[go_sem] theorem ext_frozen (b o : Nat) (h : w.holds b) : (w.ext E n).frozen? ⟨b, o, none⟩ = w.frozen? ⟨b, o, none⟩ := World.frozen?_of_block (w := w) (ext_heap w E n b h)
@[go_sem] theorem ext_setCell (b o : Nat) (v : Value) (h : w.holds b) : (w.ext E n).setCell ⟨b, o, none⟩ v = (w.setCell ⟨b, o, none⟩ v).ext E n := by
  have h : b < w.heap.size := h
  simp only [World.setCell, World.ext]
  congr 1
  apply Array.ext_getElem?
  intro i
  simp only [Array.getElem?_modify, Array.getElem?_append, Array.size_modify]
  by_cases hi : i < w.heap.size
  · simp [hi]
  · have : b ≠ i := by omega
    simp [hi, this]
@[go_sem] theorem alloc_cell (x : Obj) (b o : Nat) (h : w.holds b) : (w.alloc x).cell? ⟨b, o, none⟩ = w.cell? ⟨b, o, none⟩ := World.cell?_alloc_past x b o h
@[go_sem] theorem alloc_frozen (x : Obj) (b o : Nat) (h : w.holds b) : (w.alloc x).frozen? ⟨b, o, none⟩ = w.frozen? ⟨b, o, none⟩ := World.frozen?_alloc_past x b o h
@[go_sem] theorem alloc_setCell (x : Obj) (b o : Nat) (v : Value) (h : w.holds b) : (w.alloc x).setCell ⟨b, o, none⟩ v = (w.setCell ⟨b, o, none⟩ v).alloc x := World.setCell_alloc_past x b o v h
@[go_sem] theorem ext_drew : (w.ext E n).drew = w.ext E (n + 1) := rfl
@[go_sem] theorem drew_ext : (w.drew).ext E n = w.ext E n := rfl
@[go_sem] theorem ext_drewN (k : Nat) : (w.ext E n).drewN k = w.ext E (n + k) := rfl
@[go_sem] theorem drewN_ext (k : Nat) : (w.drewN k).ext E n = w.ext E n := rfl
end

/-- A slice value `v` whose elements are the `x` of `l`, each lying as the cells `enc x`, `k` of them. -/
def Arr {α : Type} (w : World) (k : Nat) (enc : α → List Value) (v : Value) (l : List α) : Prop :=
  ∃ a cap, v = .slice a l.length cap ∧ l.length ≤ cap ∧ cap ≤ 9223372036854775807 ∧ ∀ i x, l[i]? = some x → ∃ b o, a = some ⟨b, o, none⟩ ∧ w.holds b ∧
    ∀ j u, (enc x)[j]? = some u → w.cell? ⟨b, o + i * k + j, none⟩ = some u

/-- What is in blocks outside `S` is as it was. -/
structure Kp (S : Nat → Prop) (w w' : World) : Prop where
  os : w'.os = w.os
  tape : w'.tape = w.tape
  output : w'.output = w.output
  size : w.heap.size ≤ w'.heap.size
  block : ∀ k, k < w.heap.size → ¬ S k → w'.heap[k]? = w.heap[k]?

theorem Kp.of_below {S : Nat → Prop} {w w' : World} (h : Below w.heap.size w w') : Kp S w w' := ⟨h.os, h.tape, h.output, h.size, fun k hk _ => h.block k hk⟩
theorem Kp.below {S : Nat → Prop} {B : Nat} {w w' : World} (h : Kp S w w') (hB : B ≤ w.heap.size) (hS : ∀ k, S k → B ≤ k) : Below B w w' :=
  ⟨h.os, h.tape, h.output, h.size, fun k hk => h.block k (by omega) (fun hs => by have := hS k hs; omega)⟩

theorem bcell {W w1 : World} (hb : Below W.heap.size W w1) : (∀ b o, b < W.heap.size → w1.cell? ⟨b, o, none⟩ = W.cell? ⟨b, o, none⟩) ∧ (∀ b o, b < W.heap.size → w1.frozen? ⟨b, o, none⟩ = W.frozen? ⟨b, o, none⟩) :=
  ⟨fun b o h => hb.cell (p := ⟨b, o, none⟩) h, fun b o h => hb.frozen (p := ⟨b, o, none⟩) h⟩

theorem Arr.of_same {α : Type} {w w' : World} {k : Nat} {enc : α → List Value} {v : Value} {l : List α} (h : Arr w k enc v l) (hs : w.heap.size ≤ w'.heap.size)
    (hb : ∀ g, g < w.heap.size → v.ownBlock = some g → w'.heap[g]? = w.heap[g]?) : Arr w' k enc v l := by
  obtain ⟨a, cap, rfl, hl, hc, h⟩ := h
  refine ⟨a, cap, rfl, hl, hc, fun i x hx => ?_⟩
  obtain ⟨b, o, rfl, hlt, hcell⟩ := h i x hx
  refine ⟨b, o, rfl, Nat.lt_of_lt_of_le hlt hs, fun j u hu => ?_⟩
  rw [World.cell?_of_block (w := w) (hb b hlt rfl)]
  exact hcell j u hu
theorem Arr.below {α : Type} {w w' : World} {k : Nat} {enc : α → List Value} {v : Value} {l : List α} (h : Arr w k enc v l) (hb : Below w.heap.size w w') : Arr w' k enc v l :=
  h.of_same hb.size fun g hg _ => hb.block g hg
theorem Arr.kp {α : Type} {S : Nat → Prop} {w w' : World} {k : Nat} {enc : α → List Value} {v : Value} {l : List α} (h : Arr w k enc v l) (hk : Kp S w w') (hS : ∀ g, v.ownBlock = some g → ¬ S g) : Arr w' k enc v l :=
  h.of_same hk.size fun g hg hv => hk.block g hg (hS g hv)
theorem Arr.zero {α : Type} (w : World) (k : Nat) (enc : α → List Value) (a : Option Addr) (cap : Nat) (hc : cap ≤ 9223372036854775807) : Arr w k enc (.slice a 0 cap) ([] : List α) :=
  ⟨a, cap, rfl, Nat.zero_le _, hc, fun i x h => by simp at h⟩

theorem flat_get {α : Type} (k : Nat) (enc : α → List Value) (hk : ∀ x, (enc x).length = k) : ∀ (l : List α) (i j : Nat) (x : α), l[i]? = some x → j < k → (l.flatMap enc)[i * k + j]? = (enc x)[j]? := by
  intro l
  induction l with
  | nil => intro i j x h _; simp at h
  | cons y l ih =>
    intro i j x h hj
    cases i with
    | zero => simp at h; subst h; rw [List.flatMap_cons, List.getElem?_append_left (by rw [hk]; omega)]; simp
    | succ i =>
      rw [List.flatMap_cons, List.getElem?_append_right (by rw [hk, Nat.add_mul]; omega), hk, show (i + 1) * k + j - k = i * k + j by rw [Nat.add_mul]; omega]
      exact ih i j x (by simpa using h) hj
theorem flat_len {α : Type} (k : Nat) (enc : α → List Value) (hk : ∀ x, (enc x).length = k) (l : List α) : (l.flatMap enc).length = l.length * k := by
  induction l with
  | nil => simp
  | cons y l ih => rw [List.flatMap_cons, List.length_append, hk, ih, List.length_cons, Nat.add_mul]; omega

/-- The call's own row, read as a slice. -/
theorem Arr.of_owns {α : Type} {w : World} {base e k : Nat} {enc : α → List Value} {v : Value} {l : List α} (hk : ∀ x, (enc x).length = k) (h : w.ownsRow base e k v l.length (l.flatMap enc)) : Arr w k enc v l := by
  rcases h.2 with ⟨rfl, h0⟩ | ⟨g, cap, cur, rfl, hg, hh, hn, hm, hs, ht⟩
  · have : l = [] := List.length_eq_zero_iff.1 h0
    subst this
    exact Arr.zero _ _ _ _ _ (by omega)
  · refine ⟨_, cap, rfl, hn, by unfold maxLen at hm; exact hm, fun i x hx => ⟨g, 0, rfl, ?_, fun j u hu => ?_⟩⟩
    · show g < w.heap.size
      rcases Nat.lt_or_ge g w.heap.size with h1 | h1
      · exact h1
      · rw [Array.getElem?_eq_none h1] at hh; cases hh
    · have hj : j < k := by rw [← hk x]; exact (List.getElem?_eq_some_iff.1 hu).1
      have h2 := flat_get k enc hk l i j x hx hj
      rw [hu, ← ht] at h2
      have h3 : cur[i * k + j]? = some u := by
        rw [List.getElem?_take] at h2
        split at h2
        · simpa using h2
        · cases h2
      simp [World.cell?, hh, h3]

theorem owns_shape {w : World} {base e size : Nat} {v : Value} {n : Nat} {xs : List Value} (h : w.ownsRow base e size v n xs) :
    ∃ a cap, v = .slice a n cap ∧ n ≤ cap ∧ cap ≤ 9223372036854775807 ∧ ((a = none ∧ n = 0 ∧ cap = 0) ∨ ∃ g cur, a = some ⟨g, 0, none⟩ ∧ base ≤ g ∧ g < w.heap.size ∧ w.heap[g]? = some (.cells cur e (0, 0)) ∧ cur.size = cap * size ∧ cur.toList.take (n * size) = xs) := by
  rcases h.2 with ⟨h1, h0⟩ | ⟨g, cap, cur, h1, h2, h3, h4, h5, h6, h7⟩
  · exact ⟨none, 0, by rw [h1, h0], by omega, by omega, .inl ⟨rfl, h0, rfl⟩⟩
  · refine ⟨_, cap, h1, h4, by unfold maxLen at h5; exact h5, .inr ⟨g, cur, rfl, h2, ?_, h3, h6, h7⟩⟩
    rcases Nat.lt_or_ge g w.heap.size with hlt | hge
    · exact hlt
    · rw [Array.getElem?_eq_none hge] at h3; cases h3

/-- What a law on 'grownBy' leaves. -/
theorem Kp.of_grown {w w' : World} {row : Option Nat} (h : w.grownBy w' row) : Kp (fun g => row = some g) w w' :=
  ⟨h.os, h.tape, h.output, h.size, fun k hk hn => h.block k hk (fun e => hn e.symm)⟩
theorem Kp.weaken {S T : Nat → Prop} {a b : World} (h : Kp S a b) (hT : ∀ g, S g → T g) : Kp T a b := ⟨h.os, h.tape, h.output, h.size, fun k hk hn => h.block k hk (fun hs => hn (hT k hs))⟩
theorem Kp.drewl {S : Nat → Prop} {a b : World} (h : Kp S a.drew b) : Kp S a b := ⟨h.os, h.tape, h.output, h.size, h.block⟩
theorem Kp.trans {S T : Nat → Prop} {a b c : World} (h : Kp S a b) (k : Kp T b c) (hT : ∀ g, g < a.heap.size → T g → S g) : Kp S a c :=
  ⟨k.os.trans h.os, k.tape.trans h.tape, k.output.trans h.output, Nat.le_trans h.size k.size, fun i hi hn => (k.block i (Nat.lt_of_lt_of_le hi h.size) (fun ht => hn (hT i hi ht))).trans (h.block i hi hn)⟩

theorem ext_ext (w : World) (E F : Array Obj) (n m : Nat) : (w.ext E n).ext F m = w.ext (E ++ F) m := by
  simp only [World.ext, Array.append_assoc]
/-- What `Below` says, as a world that is written out. -/
theorem below_ext {w w' : World} (h : Below w.heap.size w w') : ∃ E n, w' = w.ext E n := by
  obtain ⟨h1, h2, h3, h4, h5⟩ := h
  refine ⟨w'.heap.extract w.heap.size w'.heap.size, w'.drawn, ?_⟩
  obtain ⟨H, t, d, os, out⟩ := w'
  obtain ⟨H0, t0, d0, os0, out0⟩ := w
  simp only at h1 h2 h3 h4 h5
  subst h1 h2 h3
  simp only [World.ext]
  congr 1
  apply Array.ext_getElem?
  intro i
  rw [Array.getElem?_append]
  split
  · rename_i hi; exact h5 i hi
  · rename_i hi
    simp only [Array.getElem?_extract]
    split
    · congr 1; omega
    · rw [Array.getElem?_eq_none]; omega
theorem below_of_ext (w : World) (E : Array Obj) (n : Nat) : Below w.heap.size w (w.ext E n) := ⟨rfl, rfl, rfl, by simp, fun k h => ext_heap w E n k h⟩
theorem Below_ext {B : Nat} {a w : World} (h : Below B a w) (hB : B ≤ w.heap.size) (E : Array Obj) (n : Nat) : Below B a (w.ext E n) := h.trans ((below_of_ext w E n).mono hB)
theorem Below_drewN {B : Nat} {a w : World} (h : Below B a w) (n : Nat) : Below B a (w.drewN n) := h.trans ⟨rfl, rfl, rfl, Nat.le_refl _, fun _ _ => rfl⟩
theorem Below_setCell {B : Nat} {a w : World} (h : Below B a w) (b o : Nat) (v : Value) (hb : B ≤ b) : Below B a (w.setCell ⟨b, o, none⟩ v) := h.setCell (p := ⟨b, o, none⟩) hb v
theorem Below_alloc {B : Nat} {a w : World} (h : Below B a w) (hB : B ≤ w.heap.size) (o : Obj) : Below B a (w.alloc o) := h.alloc hB o

theorem Arr.ext {α : Type} {w : World} {k : Nat} {enc : α → List Value} {v : Value} {l : List α} (h : Arr w k enc v l) (E : Array Obj) (n : Nat) : Arr (w.ext E n) k enc v l := h.below (below_of_ext w E n)
theorem Arr.drew {α : Type} {w : World} {k : Nat} {enc : α → List Value} {v : Value} {l : List α} (h : Arr w k enc v l) : Arr w.drew k enc v l := h
theorem Arr.drewN {α : Type} {w : World} {k : Nat} {enc : α → List Value} {v : Value} {l : List α} (h : Arr w k enc v l) (n : Nat) : Arr (w.drewN n) k enc v l := h
theorem Arr.alloc {α : Type} {w : World} {k : Nat} {enc : α → List Value} {v : Value} {l : List α} (h : Arr w k enc v l) (o : Obj) : Arr (w.alloc o) k enc v l := h.below (Joins.below_alloc1 w o)

theorem ret_bool {a b : Bool} (h : a = b) : Ending.returned (.bool a) = .returned (.bool b) := by rw [h]
theorem ret_int {k : IntKind} {a b : Int} (h : a = b) : Ending.returned (.int k a) = .returned (.int k b) := by rw [h]

end Go.Proofs.YtiikiphkhfmlcaaGreatDoor
