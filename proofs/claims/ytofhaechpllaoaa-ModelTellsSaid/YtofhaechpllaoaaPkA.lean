/- The base of this seat's texts: how slices of structs lie in memory, and what a call leaves as it was. The data of the program's structs, and how they lie in cells. Contracts: which results are the same, which operations are right. Contracts of the search by halves. Contracts of the library's slices functions at []uint64, on rows of the call's own. A region that draws its order, where a load may be taken first as long as nobody that could come before it writes its cell: the fact on the cell is asked only till a named operation (one that waits for the load) has come up. After the library's law with one condition for the whole region. -/
import Derived.Test.YtofhaechpllaoaaProg
import Derived.WalkKit
import Derived.BigQuiet
import Derived.Deep.QuietTactic
import Derived.Deep.LoopGhost
import Derived.Lib.SmallJoins
import Derived.Deep.RegionHeld3
import Derived.Deep.RegionWith
import Derived.Lib.Hide
import Derived.Laws.CopyOwn
import Derived.Laws.Externs
import Derived.Lib.Overlaps
import Derived.Lib.AppendZerosOnto
import Derived.Lib.SliceRun
import Derived.Deep.RegionLaw
import Derived.Deep.AppendLies
import Derived.OrdersHeld
namespace Go.Proofs.Ytofhaechpllaoaa
open Go Go.RowKit

/-! A world behind a call that only made blocks: `w.ext E n`. -/

/-- A block that there is. (Not an inequality: the walk settles it without a side condition of its own.) -/
def _root_.Go.World.holds (w : World) (b : Nat) : Prop := b < w.heap.size
theorem has_of_lt {w : World} {b : Nat} (h : b < w.heap.size) : w.holds b := h
def _root_.Go.World.ext (w : World) (E : Array Obj) (n : Nat) : World := { w with heap := w.heap ++ E, drawn := n }

section
variable (w : World) (E : Array Obj) (n : Nat)
@[simp] theorem ext_size : (w.ext E n).heap.size = w.heap.size + E.size := by simp [World.ext]
@[simp] theorem ext_tape : (w.ext E n).tape = w.tape := rfl
@[simp] theorem ext_os : (w.ext E n).os = w.os := rfl
@[simp] theorem ext_output : (w.ext E n).output = w.output := rfl
theorem ext_heap (k : Nat) (h : k < w.heap.size) : (w.ext E n).heap[k]? = w.heap[k]? := by
  show (w.heap ++ E)[k]? = _
  rw [Array.getElem?_append_left h]
@[go_sem] theorem has_ext (b : Nat) : (w.ext E n).holds b = (w.holds b ∨ (w.heap.size ≤ b ∧ b < w.heap.size + E.size)) := by
  simp only [World.holds, ext_size, eq_iff_iff]; omega
@[go_sem] theorem has_alloc (o : Obj) (b : Nat) : (w.alloc o).holds b = (b = w.heap.size ∨ w.holds b) := by
  simp only [World.holds, World.size_alloc, eq_iff_iff]; omega
@[go_sem] theorem has_setCell (a : Addr) (v : Value) (b : Nat) : (w.setCell a v).holds b = w.holds b := by simp [World.holds]
@[go_sem] theorem has_drew (b : Nat) : (w.drew).holds b = w.holds b := rfl
@[go_sem] theorem has_drewN (k b : Nat) : (w.drewN k).holds b = w.holds b := rfl
@[go_sem] theorem ext_cell (b o : Nat) (h : w.holds b) : (w.ext E n).cell? ⟨b, o, none⟩ = w.cell? ⟨b, o, none⟩ := World.cell?_of_block (w := w) (ext_heap w E n b h)
@[go_sem] theorem ext_frozen (b o : Nat) (h : w.holds b) : (w.ext E n).frozen? ⟨b, o, none⟩ = w.frozen? ⟨b, o, none⟩ := World.frozen?_of_block (w := w) (ext_heap w E n b h)
@[go_sem] theorem ext_setCell (b o : Nat) (v : Value) (h : w.holds b) : (w.ext E n).setCell ⟨b, o, none⟩ v = (w.setCell ⟨b, o, none⟩ v).ext E n := by
  have h : b < w.heap.size := h
  simp only [World.setCell, World.ext]
  congr 1
  apply Array.ext_getElem?
  intro i
  simp only [Array.getElem?_modify, Array.getElem?_append, Array.size_modify]
  by_cases hi : i < w.heap.size
  · simp [hi]
  · have : b ≠ i := by omega
    simp [hi, this]
@[go_sem] theorem alloc_cell (x : Obj) (b o : Nat) (h : w.holds b) : (w.alloc x).cell? ⟨b, o, none⟩ = w.cell? ⟨b, o, none⟩ := World.cell?_alloc_past x b o h
@[go_sem] theorem alloc_frozen (x : Obj) (b o : Nat) (h : w.holds b) : (w.alloc x).frozen? ⟨b, o, none⟩ = w.frozen? ⟨b, o, none⟩ := World.frozen?_alloc_past x b o h
@[go_sem] theorem alloc_setCell (x : Obj) (b o : Nat) (v : Value) (h : w.holds b) : (w.alloc x).setCell ⟨b, o, none⟩ v = (w.setCell ⟨b, o, none⟩ v).alloc x := World.setCell_alloc_past x b o v h
@[go_sem] theorem ext_drew : (w.ext E n).drew = w.ext E (n + 1) := rfl
@[go_sem] theorem drew_ext : (w.drew).ext E n = w.ext E n := rfl
@[go_sem] theorem ext_drewN (k : Nat) : (w.ext E n).drewN k = w.ext E (n + k) := rfl
@[go_sem] theorem drewN_ext (k : Nat) : (w.drewN k).ext E n = w.ext E n := rfl
end

/-- A slice value `v` whose elements are the `x` of `l`, each lying as the cells `enc x`, `k` of them. -/
def Arr {α : Type} (w : World) (k : Nat) (enc : α → List Value) (v : Value) (l : List α) : Prop :=
  ∃ a cap, v = .slice a l.length cap ∧ l.length ≤ cap ∧ cap ≤ 9223372036854775807 ∧ ∀ i x, l[i]? = some x → ∃ b o, a = some ⟨b, o, none⟩ ∧ w.holds b ∧
    ∀ j u, (enc x)[j]? = some u → w.cell? ⟨b, o + i * k + j, none⟩ = some u

/-- What is in blocks outside `S` is as it was. -/
structure Kp (S : Nat → Prop) (w w' : World) : Prop where
  os : w'.os = w.os
  tape : w'.tape = w.tape
  output : w'.output = w.output
  size : w.heap.size ≤ w'.heap.size
  block : ∀ k, k < w.heap.size → ¬ S k → w'.heap[k]? = w.heap[k]?

theorem Kp.of_below {S : Nat → Prop} {w w' : World} (h : Below w.heap.size w w') : Kp S w w' := ⟨h.os, h.tape, h.output, h.size, fun k hk _ => h.block k hk⟩
theorem Kp.below {S : Nat → Prop} {B : Nat} {w w' : World} (h : Kp S w w') (hB : B ≤ w.heap.size) (hS : ∀ k, S k → B ≤ k) : Below B w w' :=
  ⟨h.os, h.tape, h.output, h.size, fun k hk => h.block k (by omega) (fun hs => by have := hS k hs; omega)⟩

theorem bcell {W w1 : World} (hb : Below W.heap.size W w1) : (∀ b o, b < W.heap.size → w1.cell? ⟨b, o, none⟩ = W.cell? ⟨b, o, none⟩) ∧ (∀ b o, b < W.heap.size → w1.frozen? ⟨b, o, none⟩ = W.frozen? ⟨b, o, none⟩) :=
  ⟨fun b o h => hb.cell (p := ⟨b, o, none⟩) h, fun b o h => hb.frozen (p := ⟨b, o, none⟩) h⟩

theorem Arr.of_same {α : Type} {w w' : World} {k : Nat} {enc : α → List Value} {v : Value} {l : List α} (h : Arr w k enc v l) (hs : w.heap.size ≤ w'.heap.size)
    (hb : ∀ g, g < w.heap.size → v.ownBlock = some g → w'.heap[g]? = w.heap[g]?) : Arr w' k enc v l := by
  obtain ⟨a, cap, rfl, hl, hc, h⟩ := h
  refine ⟨a, cap, rfl, hl, hc, fun i x hx => ?_⟩
  obtain ⟨b, o, rfl, hlt, hcell⟩ := h i x hx
  refine ⟨b, o, rfl, Nat.lt_of_lt_of_le hlt hs, fun j u hu => ?_⟩
  rw [World.cell?_of_block (w := w) (hb b hlt rfl)]
  exact hcell j u hu
theorem Arr.below {α : Type} {w w' : World} {k : Nat} {enc : α → List Value} {v : Value} {l : List α} (h : Arr w k enc v l) (hb : Below w.heap.size w w') : Arr w' k enc v l :=
  h.of_same hb.size fun g hg _ => hb.block g hg
theorem Arr.kp {α : Type} {S : Nat → Prop} {w w' : World} {k : Nat} {enc : α → List Value} {v : Value} {l : List α} (h : Arr w k enc v l) (hk : Kp S w w') (hS : ∀ g, v.ownBlock = some g → ¬ S g) : Arr w' k enc v l :=
  h.of_same hk.size fun g hg hv => hk.block g hg (hS g hv)
theorem Arr.zero {α : Type} (w : World) (k : Nat) (enc : α → List Value) (a : Option Addr) (cap : Nat) (hc : cap ≤ 9223372036854775807) : Arr w k enc (.slice a 0 cap) ([] : List α) :=
  ⟨a, cap, rfl, Nat.zero_le _, hc, fun i x h => by simp at h⟩

theorem flat_get {α : Type} (k : Nat) (enc : α → List Value) (hk : ∀ x, (enc x).length = k) : ∀ (l : List α) (i j : Nat) (x : α), l[i]? = some x → j < k → (l.flatMap enc)[i * k + j]? = (enc x)[j]? := by
  intro l
  induction l with
  | nil => intro i j x h _; simp at h
  | cons y l ih =>
    intro i j x h hj
    cases i with
    | zero => simp at h; subst h; rw [List.flatMap_cons, List.getElem?_append_left (by rw [hk]; omega)]; simp
    | succ i =>
      rw [List.flatMap_cons, List.getElem?_append_right (by rw [hk, Nat.add_mul]; omega), hk, show (i + 1) * k + j - k = i * k + j by rw [Nat.add_mul]; omega]
      exact ih i j x (by simpa using h) hj
theorem flat_len {α : Type} (k : Nat) (enc : α → List Value) (hk : ∀ x, (enc x).length = k) (l : List α) : (l.flatMap enc).length = l.length * k := by
  induction l with
  | nil => simp
  | cons y l ih => rw [List.flatMap_cons, List.length_append, hk, ih, List.length_cons, Nat.add_mul]; omega

/-- The call's own row, read as a slice. -/
theorem Arr.of_owns {α : Type} {w : World} {base e k : Nat} {enc : α → List Value} {v : Value} {l : List α} (hk : ∀ x, (enc x).length = k) (h : w.ownsRow base e k v l.length (l.flatMap enc)) : Arr w k enc v l := by
  rcases h.2 with ⟨rfl, h0⟩ | ⟨g, cap, cur, rfl, hg, hh, hn, hm, hs, ht⟩
  · have : l = [] := List.length_eq_zero_iff.1 h0
    subst this
    exact Arr.zero _ _ _ _ _ (by omega)
  · refine ⟨_, cap, rfl, hn, by unfold maxLen at hm; exact hm, fun i x hx => ⟨g, 0, rfl, ?_, fun j u hu => ?_⟩⟩
    · show g < w.heap.size
      rcases Nat.lt_or_ge g w.heap.size with h1 | h1
      · exact h1
      · rw [Array.getElem?_eq_none h1] at hh; cases hh
    · have hj : j < k := by rw [← hk x]; exact (List.getElem?_eq_some_iff.1 hu).1
      have h2 := flat_get k enc hk l i j x hx hj
      rw [hu, ← ht] at h2
      have h3 : cur[i * k + j]? = some u := by
        rw [List.getElem?_take] at h2
        split at h2
        · simpa using h2
        · cases h2
      simp [World.cell?, hh, h3]

theorem owns_shape {w : World} {base e size : Nat} {v : Value} {n : Nat} {xs : List Value} (h : w.ownsRow base e size v n xs) :
    ∃ a cap, v = .slice a n cap ∧ n ≤ cap ∧ cap ≤ 9223372036854775807 ∧ ((a = none ∧ n = 0 ∧ cap = 0) ∨ ∃ g cur, a = some ⟨g, 0, none⟩ ∧ base ≤ g ∧ g < w.heap.size ∧ w.heap[g]? = some (.cells cur e (0, 0)) ∧ cur.size = cap * size ∧ cur.toList.take (n * size) = xs) := by
  rcases h.2 with ⟨h1, h0⟩ | ⟨g, cap, cur, h1, h2, h3, h4, h5, h6, h7⟩
  · exact ⟨none, 0, by rw [h1, h0], by omega, by omega, .inl ⟨rfl, h0, rfl⟩⟩
  · refine ⟨_, cap, h1, h4, by unfold maxLen at h5; exact h5, .inr ⟨g, cur, rfl, h2, ?_, h3, h6, h7⟩⟩
    rcases Nat.lt_or_ge g w.heap.size with hlt | hge
    · exact hlt
    · rw [Array.getElem?_eq_none hge] at h3; cases h3

/-- What a law on 'grownBy' leaves. -/
theorem Kp.of_grown {w w' : World} {row : Option Nat} (h : w.grownBy w' row) : Kp (fun g => row = some g) w w' :=
  ⟨h.os, h.tape, h.output, h.size, fun k hk hn => h.block k hk (fun e => hn e.symm)⟩
theorem Kp.weaken {S T : Nat → Prop} {a b : World} (h : Kp S a b) (hT : ∀ g, S g → T g) : Kp T a b := ⟨h.os, h.tape, h.output, h.size, fun k hk hn => h.block k hk (fun hs => hn (hT k hs))⟩
theorem Kp.drewl {S : Nat → Prop} {a b : World} (h : Kp S a.drew b) : Kp S a b := ⟨h.os, h.tape, h.output, h.size, h.block⟩
theorem Kp.trans {S T : Nat → Prop} {a b c : World} (h : Kp S a b) (k : Kp T b c) (hT : ∀ g, g < a.heap.size → T g → S g) : Kp S a c :=
  ⟨k.os.trans h.os, k.tape.trans h.tape, k.output.trans h.output, Nat.le_trans h.size k.size, fun i hi hn => (k.block i (Nat.lt_of_lt_of_le hi h.size) (fun ht => hn (hT i hi ht))).trans (h.block i hi hn)⟩

theorem ext_ext (w : World) (E F : Array Obj) (n m : Nat) : (w.ext E n).ext F m = w.ext (E ++ F) m := by
  simp only [World.ext, Array.append_assoc]
/-- What `Below` says, as a world that is written out. -/
theorem below_ext {w w' : World} (h : Below w.heap.size w w') : ∃ E n, w' = w.ext E n := by
  obtain ⟨h1, h2, h3, h4, h5⟩ := h
  refine ⟨w'.heap.extract w.heap.size w'.heap.size, w'.drawn, ?_⟩
  obtain ⟨H, t, d, os, out⟩ := w'
  obtain ⟨H0, t0, d0, os0, out0⟩ := w
  simp only at h1 h2 h3 h4 h5
  subst h1 h2 h3
  simp only [World.ext]
  congr 1
  apply Array.ext_getElem?
  intro i
  rw [Array.getElem?_append]
  split
  · rename_i hi; exact h5 i hi
  · rename_i hi
    simp only [Array.getElem?_extract]
    split
    · congr 1; omega
    · rw [Array.getElem?_eq_none]; omega
theorem below_of_ext (w : World) (E : Array Obj) (n : Nat) : Below w.heap.size w (w.ext E n) := ⟨rfl, rfl, rfl, by simp, fun k h => ext_heap w E n k h⟩
theorem Below_ext {B : Nat} {a w : World} (h : Below B a w) (hB : B ≤ w.heap.size) (E : Array Obj) (n : Nat) : Below B a (w.ext E n) := h.trans ((below_of_ext w E n).mono hB)
theorem Below_drewN {B : Nat} {a w : World} (h : Below B a w) (n : Nat) : Below B a (w.drewN n) := h.trans ⟨rfl, rfl, rfl, Nat.le_refl _, fun _ _ => rfl⟩
theorem Below_setCell {B : Nat} {a w : World} (h : Below B a w) (b o : Nat) (v : Value) (hb : B ≤ b) : Below B a (w.setCell ⟨b, o, none⟩ v) := h.setCell (p := ⟨b, o, none⟩) hb v
theorem Below_alloc {B : Nat} {a w : World} (h : Below B a w) (hB : B ≤ w.heap.size) (o : Obj) : Below B a (w.alloc o) := h.alloc hB o

theorem Arr.ext {α : Type} {w : World} {k : Nat} {enc : α → List Value} {v : Value} {l : List α} (h : Arr w k enc v l) (E : Array Obj) (n : Nat) : Arr (w.ext E n) k enc v l := h.below (below_of_ext w E n)
theorem Arr.drew {α : Type} {w : World} {k : Nat} {enc : α → List Value} {v : Value} {l : List α} (h : Arr w k enc v l) : Arr w.drew k enc v l := h
theorem Arr.drewN {α : Type} {w : World} {k : Nat} {enc : α → List Value} {v : Value} {l : List α} (h : Arr w k enc v l) (n : Nat) : Arr (w.drewN n) k enc v l := h
theorem Arr.alloc {α : Type} {w : World} {k : Nat} {enc : α → List Value} {v : Value} {l : List α} (h : Arr w k enc v l) (o : Obj) : Arr (w.alloc o) k enc v l := h.below (Joins.below_alloc1 w o)

theorem ret_bool {a b : Bool} (h : a = b) : Ending.returned (.bool a) = .returned (.bool b) := by rw [h]
theorem ret_int {k : IntKind} {a b : Int} (h : a = b) : Ending.returned (.int k a) = .returned (.int k b) := by rw [h]

end Go.Proofs.Ytofhaechpllaoaa
namespace Go.Proofs.Ytofhaechpllaoaa
open Go Go.RowKit

structure PairD where
  key : Int
  val : Int
deriving DecidableEq, Inhabited
def PairD.cells (p : PairD) : List Value := [.int .u64 p.key, .int .u64 p.val]
theorem PairD.cells_len (p : PairD) : p.cells.length = 2 := rfl
theorem PairD.eq_iff (p q : PairD) : p = q ↔ p.key = q.key ∧ p.val = q.val := by cases p; cases q; simp

structure OpD where
  kind : Int
  key : Int
  val : Int
  high : Int
  most : Int
deriving DecidableEq, Inhabited
def OpD.cells (o : OpD) : List Value := [.int .i64 o.kind, .int .u64 o.key, .int .u64 o.val, .int .u64 o.high, .int .i64 o.most]
abbrev OpD.agg (o : OpD) : Value := .agg #[.int .i64 o.kind, .int .u64 o.key, .int .u64 o.val, .int .u64 o.high, .int .i64 o.most]
def OpD.right (o : OpD) : Bool := if o.kind = 4 then decide (1 ≤ o.most ∧ o.most ≤ 1000) else decide (1 ≤ o.kind ∧ o.kind ≤ 3)

/-- A result: its kind, its value, the slice of its pairs and what that reads as. -/
structure ResD where
  kind : Int
  val : Int
  pv : Value
  ps : List PairD
def ResD.cells (r : ResD) : List Value := [.int .i64 r.kind, .int .u64 r.val, r.pv]
abbrev ResD.agg (r : ResD) : Value := .agg #[.int .i64 r.kind, .int .u64 r.val, r.pv]
def ResD.In (w : World) (r : ResD) : Prop := Arr w 2 PairD.cells r.pv r.ps
def ResD.same (r s : ResD) : Bool := decide (r.kind = s.kind ∧ r.val = s.val ∧ r.ps = s.ps)
theorem ResD.In.below {w w' : World} {r : ResD} (h : r.In w) (hb : Below w.heap.size w w') : r.In w' := Arr.below h hb

end Go.Proofs.Ytofhaechpllaoaa
namespace Go.Proofs.Ytofhaechpllaoaa
open Go Go.RowKit

theorem so_pair : Try.prog.stoodInHeld 47 = false := by kernel_rfl
theorem eg_pair : Try.prog.eqGuardType Try.prog.depth 47 = false := by kernel_rfl
theorem neq_pair (w : World) (a b c d : Int) : (binOp .neq 47 (.agg #[.int .u64 a, .int .u64 b]) (.agg #[.int .u64 c, .int .u64 d])).run Try.prog w = .ok (.bool (!(a == c && b == d))) w := by
  have h1 := so_pair
  have h2 := eg_pair
  go_simp
  by_cases e1 : a = c <;> by_cases e2 : b = d <;> simp [e1, e2]

/-- The step of a comparison, both lists read. -/
theorem take_eq_succ {l1 l2 : List PairD} {k : Nat} (h1 : k < l1.length) (h2 : k < l2.length) (ht : l1.take k = l2.take k)
    (h : (!l1[k].key == l2[k].key) = false ∧ (!l1[k].val == l2[k].val) = false) : l1.take (k + 1) = l2.take (k + 1) := by
  rw [List.take_succ_eq_append_getElem h1, List.take_succ_eq_append_getElem h2, ht, (PairD.eq_iff l1[k] l2[k]).2 (by simpa using h)]
theorem take_ne {l1 l2 : List PairD} {k : Nat} (h1 : k < l1.length) (h2 : k < l2.length)
    (h : (!l1[k].key == l2[k].key) = true ∨ (!l1[k].val == l2[k].val) = true) : decide (l1 = l2) = false := by
  refine decide_eq_false fun e => ?_
  subst e
  simp at h

set_option maxRecDepth 100000 in
theorem ref21_pairs (v1 v2 : Value) (l1 l2 : List PairD) (w : World) (h1 : Arr w 2 PairD.cells v1 l1) (h2 : Arr w 2 PairD.cells v2 l2) :
    Calls Try.prog 28 #[v1, v2] w fun e w' => e = .returned (.bool (decide (l1 = l2))) ∧ Below w.heap.size w w' := by
  obtain ⟨a1, c1, rfl, hl1, hc1, g1⟩ := h1
  obtain ⟨a2, c2, rfl, hl2, hc2, g2⟩ := h2
  by_cases hlen : l1.length = l2.length
  · go_enter Try.func28, Try.ntmps28
    go_wp2
    go_loopw [5] (fun i wr => ∃ k n : Nat, k ≤ l1.length ∧ i = .int .i64 k ∧ l1.take k = l2.take k ∧ wr = w.drewN n) (fun i _ => l1.length - (intOf i).toNat)
    case atStart => exact ⟨0, 0, Nat.zero_le _, rfl, by simp, rfl⟩
    case round =>
      obtain ⟨k, n, hk, rfl, ht, rfl⟩ := hrel
      by_cases hlt : k < l1.length
      · obtain ⟨b1, o1, rfl, hb1, q1⟩ := g1 k _ (List.getElem?_eq_getElem hlt)
        obtain ⟨b2, o2, rfl, hb2, q2⟩ := g2 k _ (List.getElem?_eq_getElem (by omega))
        have e10 := q1 0 _ rfl
        have e11 := q1 1 _ rfl
        have e20 := q2 0 _ rfl
        have e21 := q2 1 _ rfl
        simp only [Nat.add_zero] at e10 e20
        clear q1 q2 g1 g2
        have hk2 : k < l2.length := by omega
        have hneq := neq_pair
        go_wp2
        go_quiet (fail)
        go_wp2
        · go_ret
          exact ⟨ret_bool (take_ne hlt hk2 (by assumption)).symm, (Joins.below_draws _ _ _).trans (Joins.below_draws _ _ _)⟩
        · go_roundw
          case rel => exact ⟨k + 1, n + _, by omega, by go_num, take_eq_succ hlt hk2 ht (by assumption), rfl⟩
          case measure => simp [intOf]; omega
      · go_wp2
        go_ret
        exact ⟨ret_bool (by rw [decide_eq_true]; rwa [List.take_of_length_le (by omega), List.take_of_length_le (by omega)] at ht), Joins.below_draws _ _ _⟩
  · go_enter Try.func28, Try.ntmps28
    go_wp2
    go_ret
    exact ⟨ret_bool (by rw [decide_eq_false]; intro e; exact hlen (by rw [e])), Below.refl _ _⟩

set_option maxRecDepth 100000 in
theorem slices_equal_pair (v1 v2 : Value) (l1 l2 : List PairD) (w : World) (h1 : Arr w 2 PairD.cells v1 l1) (h2 : Arr w 2 PairD.cells v2 l2) :
    Calls Try.prog 41 #[v1, v2] w fun e w' => e = .returned (.bool (decide (l1 = l2))) ∧ Below w.heap.size w w' := by
  obtain ⟨a1, c1, rfl, hl1, hc1, g1⟩ := h1
  obtain ⟨a2, c2, rfl, hl2, hc2, g2⟩ := h2
  by_cases hlen : l1.length = l2.length
  · go_enter Try.func41, Try.ntmps41
    go_wp2
    go_loopw [5, 13] (fun _ i wr => ∃ k n : Nat, k ≤ l1.length ∧ i = .int .i64 k ∧ l1.take k = l2.take k ∧ wr = w.drewN n) (fun _ i _ => l1.length - (intOf i).toNat)
    case atStart => exact ⟨0, 0, Nat.zero_le _, rfl, by simp, rfl⟩
    case round =>
      obtain ⟨k, n, hk, rfl, ht, rfl⟩ := hrel
      by_cases hlt : k < l1.length
      · obtain ⟨b1, o1, rfl, hb1, q1⟩ := g1 k _ (List.getElem?_eq_getElem hlt)
        obtain ⟨b2, o2, rfl, hb2, q2⟩ := g2 k _ (List.getElem?_eq_getElem (by omega))
        have e10 := q1 0 _ rfl
        have e11 := q1 1 _ rfl
        have e20 := q2 0 _ rfl
        have e21 := q2 1 _ rfl
        simp only [Nat.add_zero] at e10 e20
        clear q1 q2 g1 g2
        have hk2 : k < l2.length := by omega
        have hneq := neq_pair
        go_wp2
        go_quiet (fail)
        go_wp2
        · go_ret
          exact ⟨ret_bool (take_ne hlt hk2 (by assumption)).symm, (Joins.below_draws _ _ _).trans (Joins.below_draws _ _ _)⟩
        · go_roundw
          case rel => exact ⟨k + 1, n + _, by omega, by go_num, take_eq_succ hlt hk2 ht (by assumption), rfl⟩
          case measure => simp [intOf]; omega
      · go_wp2
        go_ret
        exact ⟨ret_bool (by rw [decide_eq_true]; rwa [List.take_of_length_le (by omega), List.take_of_length_le (by omega)] at ht), Joins.below_draws _ _ _⟩
  · go_enter Try.func41, Try.ntmps41
    go_wp2
    go_ret
    exact ⟨ret_bool (by rw [decide_eq_false]; intro e; exact hlen (by rw [e])), Below.refl _ _⟩

theorem model_right (o : OpD) (w : World) :
    Calls Try.prog 25 #[o.agg] w fun e w' => e = .returned (.bool o.right) ∧ Below w.heap.size w w' := by
  by_cases h4 : o.kind = 4
  · by_cases h1 : 1 ≤ o.most
    all_goals
      go_enter Try.func25, Try.ntmps25
      go_wp2
      go_ret
      refine ⟨ret_bool ?_, Joins.below_alloc1 _ _⟩
      simp [OpD.right, h4, h1] <;> omega
  · by_cases h1 : 1 ≤ o.kind
    all_goals
      go_enter Try.func25, Try.ntmps25
      go_wp2
      go_ret
      refine ⟨ret_bool ?_, Joins.below_alloc1 _ _⟩
      simp [OpD.right, h4, h1] <;> omega

theorem ref21_right (o : OpD) (w : World) :
    Calls Try.prog 22 #[o.agg] w fun e w' => e = .returned (.bool o.right) ∧ Below w.heap.size w w' := by
  by_cases h4 : o.kind = 4
  · by_cases h1 : 1 ≤ o.most
    all_goals
      go_enter Try.func22, Try.ntmps22
      go_wp2
      go_ret
      refine ⟨ret_bool ?_, Joins.below_alloc1 _ _⟩
      simp [OpD.right, h4, h1] <;> omega
  · by_cases h1 : 1 ≤ o.kind
    all_goals
      go_enter Try.func22, Try.ntmps22
      go_wp2
      go_ret
      refine ⟨ret_bool ?_, Joins.below_alloc1 _ _⟩
      simp [OpD.right, h4, h1] <;> omega

theorem model_same (r s : ResD) (w : World) (hr : r.In w) (hs : s.In w) :
    Calls Try.prog 18 #[r.agg, s.agg] w fun e w' => e = .returned (.bool (r.same s)) ∧ Below w.heap.size w w' := by
  by_cases h1 : r.kind = s.kind
  · by_cases h2 : r.val = s.val
    · have hb2 := fun o1 o2 => Joins.below_alloc2 w o1 o2
      go_enter Try.func18, Try.ntmps18
      go_wp2_with fail
      refine (slices_equal_pair _ _ _ _ _ (hr.below (hb2 _ _)) (hs.below (hb2 _ _))).mono ?_
      rintro e w' ⟨rfl, hb⟩
      have hb3 := (hb2 _ _).trans (hb.mono (by simp; omega))
      clear hb2
      go_wp2
      go_ret
      exact ⟨ret_bool (by simp [ResD.same, h1, h2]), hb3⟩
    · go_enter Try.func18, Try.ntmps18
      go_wp2
      go_ret
      exact ⟨ret_bool (by simp [ResD.same, h1, h2]), Joins.below_alloc2 _ _ _⟩
  · go_enter Try.func18, Try.ntmps18
    go_wp2
    go_ret
    exact ⟨ret_bool (by simp [ResD.same, h1]), Joins.below_alloc2 _ _ _⟩

theorem ref21_same (r s : ResD) (w : World) (hr : r.In w) (hs : s.In w) :
    Calls Try.prog 19 #[r.agg, s.agg] w fun e w' => e = .returned (.bool (r.same s)) ∧ Below w.heap.size w w' := by
  by_cases h1 : r.kind = s.kind
  · by_cases h2 : r.val = s.val
    · have hb2 := fun o1 o2 => Joins.below_alloc2 w o1 o2
      go_enter Try.func19, Try.ntmps19
      go_wp2_with fail
      refine (ref21_pairs _ _ _ _ _ (hr.below (hb2 _ _)) (hs.below (hb2 _ _))).mono ?_
      rintro e w' ⟨rfl, hb⟩
      have hb3 := (hb2 _ _).trans (hb.mono (by simp; omega))
      clear hb2
      go_wp2
      go_ret
      exact ⟨ret_bool (by simp [ResD.same, h1, h2]), hb3⟩
    · go_enter Try.func19, Try.ntmps19
      go_wp2
      go_ret
      exact ⟨ret_bool (by simp [ResD.same, h1, h2]), Joins.below_alloc2 _ _ _⟩
  · go_enter Try.func19, Try.ntmps19
    go_wp2
    go_ret
    exact ⟨ret_bool (by simp [ResD.same, h1]), Joins.below_alloc2 _ _ _⟩

end Go.Proofs.Ytofhaechpllaoaa
namespace Go.Proofs.Ytofhaechpllaoaa
open Go Go.RowKit

def u64c (x : Int) : List Value := [.int .u64 x]
theorem u64c_len (x : Int) : (u64c x).length = 1 := rfl

/-- Where a search by halves between two places comes: `p` tells whether a key is passed. -/
def bs (p : Int → Bool) (keys : List Int) (lo hi : Nat) : Nat :=
  if _h : lo < hi then
    if p (keys.getD (lo + (hi - lo) / 2) 0) then bs p keys (lo + (hi - lo) / 2 + 1) hi else bs p keys lo (lo + (hi - lo) / 2)
  else lo
termination_by hi - lo
def passed (kind key k : Int) : Bool := if kind = 1 then decide (k < key) else decide (k ≤ key)

def wantOf (lo hi : Int) : Int := if lo < hi then lo + (hi - lo) / 2 else -1
abbrev srch (kind lo hi key : Int) : Value := .agg #[.int .i64 kind, .int .i64 lo, .int .i64 hi, .int .u64 key]

theorem want_any (kind lo hi key : Int) (w : World) (h0 : 0 ≤ lo) (h1 : lo ≤ hi) (h2 : hi ≤ 9223372036854775807) :
    Calls Try.prog 63 #[srch kind lo hi key] w fun e w' => e = .returned (.int .i64 (wantOf lo hi)) ∧ Below w.heap.size w w' := by
  by_cases h : lo < hi
  · go_enter Try.func63, Try.ntmps63
    go_wp2
    go_ret
    exact ⟨ret_int (by simp [wantOf, h]), Joins.below_alloc1 _ _⟩
  · go_enter Try.func63, Try.ntmps63
    go_wp2
    go_ret
    exact ⟨ret_int (by unfold wantOf; rw [if_neg (by omega)]), Joins.below_alloc1 _ _⟩

theorem at_any (kind lo hi key : Int) (w : World) :
    Calls Try.prog 65 #[srch kind lo hi key] w fun e w' => e = .returned (.int .i64 lo) ∧ Below w.heap.size w w' := by
  go_enter Try.func65, Try.ntmps65
  go_wp2
  go_ret
  exact ⟨rfl, Joins.below_alloc1 _ _⟩

theorem passed_any (kind lo hi key k : Int) (w : World) :
    Calls Try.prog 67 #[srch kind lo hi key, .int .u64 k] w fun e w' => e = .returned (.bool (passed kind key k)) ∧ Below w.heap.size w w' := by
  by_cases h : kind = 1
  · go_enter Try.func67, Try.ntmps67
    go_wp2
    go_ret
    exact ⟨ret_bool (by simp [passed, h]), Joins.below_alloc1 _ _⟩
  · go_enter Try.func67, Try.ntmps67
    go_wp2
    go_ret
    exact ⟨ret_bool (by simp [passed, h]), Joins.below_alloc1 _ _⟩

theorem seek_new (kind n key : Int) (w : World) (hk : kind = 1 ∨ kind = 2) (hn : 0 ≤ n) :
    Calls Try.prog 60 #[.int .i64 kind, .int .i64 n, .int .u64 key] w fun e w' => e = .returned (srch kind 0 n key) ∧ Below w.heap.size w w' := by
  rcases hk with rfl | rfl
  all_goals
    go_enter Try.func60, Try.ntmps60
    go_wp2
    refine bodyPost_ret (v := srch _ _ _ _) (by simp [results, Try.results60, go_sem]) rfl ⟨rfl, ?_⟩
    exact Joins.below_alloc1 _ _

def tookOf (kind lo hi key k : Int) : Value := if lo < hi then (if passed kind key k then srch kind (lo + (hi - lo) / 2 + 1) hi key else srch kind lo (lo + (hi - lo) / 2) key) else srch kind lo hi key
theorem took_any (kind lo hi key k : Int) (w : World) (h0 : 0 ≤ lo) (h1 : lo ≤ hi) (h2 : hi ≤ 9223372036854775806) :
    Calls Try.prog 64 #[srch kind lo hi key, .int .u64 k] w fun e w' =>
      e = .returned (tookOf kind lo hi key k) ∧ Below w.heap.size w w' := by
  by_cases h : lo < hi
  · have hw : wantOf lo hi = lo + (hi - lo) / 2 := by simp [wantOf, h]
    cases hp : passed kind key k
    all_goals
      go_enter Try.func64, Try.ntmps64
      go_wp2_with (first | ((go_at_call 63; refine (want_any _ _ _ _ _ (by omega) (by omega) (by omega)).mono ?_; rintro e w' ⟨rfl, hbx⟩; obtain ⟨E, nx, rfl⟩ := below_ext hbx; clear hbx); rw [hw]) | ((go_at_call 67; refine (passed_any _ _ _ _ _ _).mono ?_; rintro e w' ⟨rfl, hbx⟩; obtain ⟨E, nx, rfl⟩ := below_ext hbx; clear hbx); rw [hp]))
      refine bodyPost_ret (v := tookOf kind lo hi key k) (by simp [results, Try.results64, go_sem, tookOf, h, hp]) rfl ⟨rfl, (by ((repeat' (first | exact Below.refl _ _ | assumption | (refine Below_alloc ?_ ?_ _) | (refine Below_ext ?_ ?_ _ _) | (refine Below_setCell ?_ _ _ _ ?_) | apply Below.drew | refine Below_drewN ?_ _)) <;> first | done | (simp; done) | (simp; omega)))⟩
  · have hw : wantOf lo hi = -1 := by simp [wantOf, h]
    go_enter Try.func64, Try.ntmps64
    go_wp2_with (first | ((go_at_call 63; refine (want_any _ _ _ _ _ (by omega) (by omega) (by omega)).mono ?_; rintro e w' ⟨rfl, hbx⟩; obtain ⟨E, nx, rfl⟩ := below_ext hbx; clear hbx); rw [hw]) | ((go_at_call 67; refine (passed_any _ _ _ _ _ _).mono ?_; rintro e w' ⟨rfl, hbx⟩; obtain ⟨E, nx, rfl⟩ := below_ext hbx; clear hbx); rw [hp]))
    refine bodyPost_ret (v := tookOf kind lo hi key k) (by simp [results, Try.results64, go_sem, tookOf]; omega) rfl ⟨rfl, (by ((repeat' (first | exact Below.refl _ _ | assumption | (refine Below_alloc ?_ ?_ _) | (refine Below_ext ?_ ?_ _ _) | (refine Below_setCell ?_ _ _ _ ?_) | apply Below.drew | refine Below_drewN ?_ _)) <;> first | done | (simp; done) | (simp; omega)))⟩

theorem of1_any (g i : Nat) (x : Int) (kv : Value) (keys : List Int) (w : World) (hg : w.cell? ⟨g, 0, none⟩ = some kv) (hk : Arr w 1 u64c kv keys) (hx : keys[i]? = some x) :
    Calls Try.prog 61 #[.int .i64 i, .pointer (some ⟨g, 0, none⟩)] w fun e w' => e = .returned (.int .u64 x) ∧ Below w.heap.size w w' := by
  obtain ⟨a, c, rfl, hl, hc, q⟩ := hk
  have hi : i < keys.length := (List.getElem?_eq_some_iff.1 hx).1
  obtain ⟨b, o, rfl, hb, q⟩ := q i _ hx
  have e0 := q 0 _ rfl
  simp only [Nat.mul_one, Nat.add_zero] at e0
  clear hx q
  go_enter Try.func61, Try.ntmps61
  go_wp2
  go_ret
  exact ⟨rfl, Below.refl _ _⟩

theorem bs_step (p : Int → Bool) (keys : List Int) {lo hi : Nat} (h : lo < hi) {x : Int} (hx : keys[lo + (hi - lo) / 2]? = some x) :
    bs p keys lo hi = if p x then bs p keys (lo + (hi - lo) / 2 + 1) hi else bs p keys lo (lo + (hi - lo) / 2) := by
  rw [bs, dif_pos h, List.getD, hx]; rfl
theorem bs_done (p : Int → Bool) (keys : List Int) {lo hi : Nat} (h : ¬ lo < hi) : bs p keys lo hi = lo := by
  rw [bs, dif_neg h]

def nlo (b : Bool) (lo hi : Nat) : Nat := if b then lo + (hi - lo) / 2 + 1 else lo
def nhi (b : Bool) (lo hi : Nat) : Nat := if b then hi else lo + (hi - lo) / 2
theorem nlo_le (b : Bool) {lo hi : Nat} (h : lo < hi) : nlo b lo hi ≤ nhi b lo hi ∧ nhi b lo hi ≤ hi ∧ nhi b lo hi - nlo b lo hi < hi - lo := by
  cases b <;> simp [nlo, nhi] <;> omega
theorem bs_next (p : Int → Bool) (keys : List Int) {lo hi : Nat} (h : lo < hi) {x : Int} (hx : keys[lo + (hi - lo) / 2]? = some x) :
    bs p keys (nlo (p x) lo hi) (nhi (p x) lo hi) = bs p keys lo hi := by
  rw [bs_step p keys h hx]
  cases p x <;> simp [nlo, nhi]
theorem took_eq (kind : Int) (lo hi : Nat) (key k : Int) (h : lo < hi) :
    tookOf kind lo hi key k = srch kind (nlo (passed kind key k) lo hi) (nhi (passed kind key k) lo hi) key := by
  have hc : ((lo : Int) + ((hi : Int) - (lo : Int)) / 2) = ((lo + (hi - lo) / 2 : Nat) : Int) := by omega
  unfold tookOf
  rw [if_pos (by omega), hc]
  cases passed kind key k <;> rfl

set_option maxRecDepth 100000 in
theorem seek_to (kind key : Int) (n g : Nat) (kv : Value) (keys : List Int) (w : World) (hg : w.cell? ⟨g, 0, none⟩ = some kv) (hgh : w.holds g) (hk : Arr w 1 u64c kv keys) (hn : n = keys.length) (hmax : n ≤ 9223372036854775806) :
    Calls Try.prog 59 #[srch kind 0 n key, .func (.func 61) #[] #[.pointer (some ⟨g, 0, none⟩)]] w fun e w' => e = .returned (.int .i64 (bs (passed kind key) keys 0 n)) ∧ Below w.heap.size w w' := by
  subst hn
  go_enter Try.func59, Try.ntmps59
  go_wp2_with ((go_at_call 63; refine (want_any _ _ _ _ _ (by omega) (by omega) (by omega)).mono ?_; rintro e w' ⟨rfl, hbx⟩; obtain ⟨E, nx, rfl⟩ := below_ext hbx; clear hbx))
  go_loopg [5] keys.length (fun m i wr => ∃ (lo hi : Nat) (E : Array Obj) (nx : Nat), lo ≤ hi ∧ hi ≤ keys.length ∧ m = hi - lo ∧ bs (passed kind key) keys lo hi = bs (passed kind key) keys 0 keys.length ∧ i = .int .i64 (wantOf lo hi) ∧
      wr = (w.alloc (.cells #[.int .i64 kind, .int .i64 lo, .int .i64 hi, .int .u64 key] 101)).ext E nx)
  case atStart => exact ⟨0, keys.length, _, _, by omega, by omega, by omega, rfl, rfl, rfl⟩
  case round =>
    obtain ⟨lo, hi, E1, n1, hlo, hhi, rfl, hbs, rfl, rfl⟩ := hrel
    by_cases h : lo < hi
    · have hw : wantOf lo hi = lo + (hi - lo) / 2 := by simp [wantOf, h]
      rw [hw]
      have h1 : lo + (hi - lo) / 2 < keys.length := by omega
      have hc : ((lo : Int) + ((hi : Int) - (lo : Int)) / 2) = ((lo + (hi - lo) / 2 : Nat) : Int) := by omega
      rw [hc]
      obtain ⟨x, hx⟩ : ∃ x, keys[lo + (hi - lo) / 2]? = some x := ⟨_, List.getElem?_eq_getElem h1⟩
      have ht := took_eq kind lo hi key x h
      have HS := Lib.hid ((bs_next (passed kind key) keys h hx).trans hbs)
      have HX := Lib.hid hx
      clear hbs hx hw
      obtain ⟨l1, l2, l3⟩ := nlo_le (passed kind key x) h
      generalize nlo (passed kind key x) lo hi = lo' at ht HS l1 l2 l3
      generalize nhi (passed kind key x) lo hi = hi' at ht HS l1 l2 l3
      go_wp2_with fail
      go_region_with
        (first | ((go_at_call 61; refine (of1_any _ _ _ kv keys _ (by go_simp) (by (repeat' (first | assumption | refine Arr.ext ?_ _ _ | refine Arr.alloc ?_ _ | refine Arr.drew ?_ | refine Arr.drewN ?_ _))) HX.out).mono ?_; rintro e w' ⟨rfl, hbx⟩; obtain ⟨E, nx, rfl⟩ := below_ext hbx; clear hbx)) | ((go_at_call 64; refine (took_any _ _ _ _ _ _ (by omega) (by omega) (by omega)).mono ?_; rintro e w' ⟨rfl, hbx⟩; obtain ⟨E, nx, rfl⟩ := below_ext hbx; clear hbx); rw [ht]))
      all_goals
        clear ht hc
        go_wp2_with ((go_at_call 63; refine (want_any _ _ _ _ _ (by omega) (by omega) (by omega)).mono ?_; rintro e w' ⟨rfl, hbx⟩; obtain ⟨E, nx, rfl⟩ := below_ext hbx; clear hbx))
        go_roundg (hi' - lo')
        case rel => exact ⟨lo', hi', _, _, by omega, by omega, rfl, HS.out, rfl, by rw [ext_ext, ext_ext, ext_ext]⟩
        case measure => omega
    · have hw : wantOf lo hi = -1 := by simp [wantOf, h]
      rw [hw]
      go_wp2_with ((go_at_call 65; refine (at_any _ _ _ _ _).mono ?_; rintro e w' ⟨rfl, hbx⟩; obtain ⟨E, nx, rfl⟩ := below_ext hbx; clear hbx))
      go_ret
      exact ⟨ret_int (by rw [← hbs, bs_done _ _ h]), (by ((repeat' (first | exact Below.refl _ _ | assumption | (refine Below_alloc ?_ ?_ _) | (refine Below_ext ?_ ?_ _ _) | (refine Below_setCell ?_ _ _ _ ?_) | apply Below.drew | refine Below_drewN ?_ _)) <;> first | done | (simp; done) | (simp; omega)))⟩

set_option maxRecDepth 100000 in
theorem seek_of (kind key : Int) (kv : Value) (keys : List Int) (w : World) (hk : kind = 1 ∨ kind = 2) (hkv : Arr w 1 u64c kv keys) (hmax : keys.length ≤ 9223372036854775806) :
    Calls Try.prog 54 #[.int .i64 kind, kv, .int .u64 key] w fun e w' => e = .returned (.int .i64 (bs (passed kind key) keys 0 keys.length)) ∧ Below w.heap.size w w' := by
  obtain ⟨a, cap, rfl, hl, hc, q⟩ := hkv
  have hkv : Arr w 1 u64c (.slice a keys.length cap) keys := ⟨a, cap, rfl, hl, hc, q⟩
  have hmf : ∀ (fn : Fn) (first cap : Array Value) (w : World), (Instr.makeFunc fn first cap).run Try.prog w = .ok (.func fn first cap) w := fun _ _ _ _ => rfl
  go_enter Try.func54, Try.ntmps54
  go_wp2_with (first | ((go_at_call 60; refine (seek_new _ _ _ _ hk (by omega)).mono ?_; rintro e w' ⟨rfl, hbx⟩; obtain ⟨E, nx, rfl⟩ := below_ext hbx; clear hbx)) | ((go_at_call 59; refine (seek_to _ _ keys.length w.heap.size _ keys _ (by go_simp; rfl) (by go_simp) (by (repeat' (first | assumption | refine Arr.ext ?_ _ _ | refine Arr.alloc ?_ _ | refine Arr.drew ?_ | refine Arr.drewN ?_ _))) rfl (by omega)).mono ?_; rintro e w' ⟨rfl, hbx⟩; obtain ⟨E, nx, rfl⟩ := below_ext hbx; clear hbx)))
  go_outline
  go_ret
  exact ⟨rfl, (by ((repeat' (first | exact Below.refl _ _ | assumption | (refine Below_alloc ?_ ?_ _) | (refine Below_ext ?_ ?_ _ _) | (refine Below_setCell ?_ _ _ _ ?_) | apply Below.drew | refine Below_drewN ?_ _)) <;> first | done | (simp; done) | (simp; omega)))⟩
end Go.Proofs.Ytofhaechpllaoaa
namespace Go.Proofs.Ytofhaechpllaoaa
open Go Go.RowKit

theorem info_u64 : (Try.prog.info? 22).map (fun i => (i.zero, i.size, i.bytes)) = some (some (.int .u64 0), 1, 8) := by kernel_rfl
theorem size_u64 : (Try.prog.info? 22).map (·.size) = some 1 := by kernel_rfl

/-- The operation copy, where its run is known. -/
theorem wpList_copy_run {P : Program} (w : World) {ops : Array Oper} {rest : List Oper} {o : Oper} {a : Act} {Q : Exit → Act → World → Prop} (hgd : o.guard = none) (d s : Operand) (t t' : TypeId)
    (ho : o.op = .call { callee := .builtin .copy, args := #[d, s], argTypes := #[t, t'] }) (v u : Value) (hd : a.eval d = v) (hs : a.eval s = u) {v' : Value} {w' : World}
    (hr : (Builtin.copy_ #[t, t'] o.type #[v, u]).run P w = .ok v' w') (h : wpList P ops Q rest (a.put o.dst v') w') : wpList P ops Q (o :: rest) a w :=
  wpList_plain hgd fun K hK => by
    unfold Oper.wp execOp
    simp only [ho, resolve, invoke, builtin, Sem.run_bind, Sem.run_pure, Result.andThen_ok, List.map_toArray, List.map_cons, List.map_nil, hd, hs, hr]
    exact hK _ _ h
theorem step_copy_run {P : Program} {ops : Array Oper} {o : Oper} {a : Act} {w : World} {K : Act → World → Prop} {Q : Exit → Act → World → Prop} {E : Prop}
    (hg : o.guard = none) (d x : Operand) (dT sT : TypeId) (hop : o.op = Op.call { callee := Callee.builtin Builtin.copy, args := #[d, x], argTypes := #[dT, sT] })
    (v u : Value) (hd : a.eval d = v) (hx : a.eval x = u) {v' : Value} {w' : World} (hr : (Builtin.copy_ #[dT, sT] o.type #[v, u]).run P w = .ok v' w') (hK : K (a.put o.dst v') w') :
    if Region.wanted o (yielded ops a.tmps) = true then Oper.wp P o a w K Q else E := by
  have hw : Region.wanted o (yielded ops a.tmps) = true := by simp [Region.wanted, hg]
  rw [if_pos hw]
  unfold Oper.wp
  simp [execOp, hop, resolve, invoke, builtin, hd, hx, hr, Result.andThen]
  exact hK

/-- A row written anew: what is kept. -/
theorem kp_setRow (w : World) (g : Nat) (cs : Array Value) : Kp (fun k => k = g) w (w.setRow g cs) :=
  ⟨rfl, rfl, rfl, by simp [World.setRow], fun k _ hk => setRow_other w g k cs hk⟩

def insAt (xs : List Value) (i : Nat) (x : Value) : List Value := xs.take i ++ x :: xs.drop i
theorem insAt_length (xs : List Value) (i : Nat) (x : Value) (h : i ≤ xs.length) : (insAt xs i x).length = xs.length + 1 := by
  simp [insAt]; omega

/-- What insertion leaves of the row `v`. -/
def Inserted (base : Nat) (v : Value) (xs : List Value) (i : Nat) (x : Value) (w : World) (e : Ending) (w' : World) : Prop :=
  ∃ v', e = .returned v' ∧ w'.ownsRow base 22 1 v' (xs.length + 1) (insAt xs i x) ∧ Kp (fun g => v.ownBlock = some g) w w' ∧ (v'.ownBlock = v.ownBlock ∨ ∃ g, v'.ownBlock = some g ∧ w.heap.size ≤ g)

set_option maxRecDepth 100000 in
theorem insert_end (base : Nat) (v : Value) (xs : List Value) (x : Value) (vb : Nat) (w : World) (hx1 : x.oneCell' = true) (hown : w.ownsRow base 22 1 v xs.length xs) (hvb : w.cell? ⟨vb, 0, none⟩ = some x) (hbase : base ≤ w.heap.size)
    (hmax : xs.length ≤ 1000000000) :
    Calls Try.prog 51 #[v, .int .i64 xs.length, .slice (some ⟨vb, 0, none⟩) 1 1] w (Inserted base v xs xs.length x w) := by
  obtain ⟨i0, hi, hz0, hz1, hz2⟩ := info_parts info_u64
  obtain ⟨a, cap, hv, hc1, hc2, _⟩ := owns_shape hown
  subst hv
  generalize hn : xs.length = n at *
  go_enter Try.func51, Try.ntmps51
  have hnews : ∀ j u, ([x] : List Value)[j]? = some u → w.cell? ((⟨vb, 0, none⟩ : Addr).add j) = some u := fun j u hj => by
    rw [Addr.add_lit]
    cases j with
    | zero => simp at hj; subst hj; exact hvb
    | succ j => simp at hj
  have h1 : ∀ u ∈ ([x] : List Value), u.oneCell' = true := by simpa using hx1
  have HN := Lib.hid hn
  have hb8 : (n + 1) * 8 ≤ 140737488355328 := by omega
  have hml : n + 1 ≤ maxLen := by unfold maxLen; omega
  have hb0 : w.heap.size = w.heap.size := rfl
  have HB := Lib.hid hb8
  have HM := Lib.hid hml
  clear hn hb8 hml hvb hx1
  by_cases hcn : cap = n
  · obtain rfl : n = cap := hcn.symm
    go_wp2_with (at_builtin; refine wpList_append_lies w rfl (.tmp 23) (.tmp 24) 66 rfl base 22 i0 (.int .u64 0) 1 8 Try.underlying66 hi hz0 hz1 hz2 rfl (by omega) (.slice a n n) n xs rfl hown ⟨vb, 0, none⟩ 1 1 [x] rfl rfl hnews h1 (by omega) HM.out HB.out hbase w.heap.size rfl ?_; intro g cap' w' hown' hgrow hat _)
    go_ret
    have hn := HN.out
    refine ⟨_, rfl, ?_, Kp.of_grown hgrow, ?_⟩
    · rw [hn]; simp only [insAt, ← hn, List.take_length, List.drop_length]; exact hn ▸ hown'
    · rcases hat with h | h
      · exact .inl h.symm
      · exact .inr ⟨g, rfl, by omega⟩
  · go_wp2_with (at_builtin; refine wpList_append_lies w rfl (.tmp 23) (.tmp 24) 66 rfl base 22 i0 (.int .u64 0) 1 8 Try.underlying66 hi hz0 hz1 hz2 rfl (by omega) (.slice a n cap) n xs rfl hown ⟨vb, 0, none⟩ 1 1 [x] rfl rfl hnews h1 (by omega) HM.out HB.out hbase w.heap.size rfl ?_; intro g cap' w' hown' hgrow hat _)
    go_ret
    have hn := HN.out
    refine ⟨_, rfl, ?_, Kp.of_grown hgrow, ?_⟩
    · rw [hn]; simp only [insAt, ← hn, List.take_length, List.drop_length]; exact hn ▸ hown'
    · rcases hat with h | h
      · exact .inl h.symm
      · exact .inr ⟨g, rfl, by omega⟩

theorem u64_cellsz (w : World) : (Go.sizeOf 22).run Try.prog w = .ok 1 w := by
  obtain ⟨i0, hi, hz0, hz1, hz2⟩ := info_parts info_u64
  simp [Go.sizeOf, typeInfo, hi, hz1]

theorem overlaps_apart (vb g o lb cb : Nat) (w : World) (hne : vb ≠ g) (x : Value) (cur : Array Value) (hg : w.heap[g]? = some (.cells cur 22 (0, 0))) (hv : w.heap[vb]? = some (.cells #[x] 22 (0, 0))) (h0 : 0 < cur.size) :
    (callFunc 57 #[.slice (some ⟨vb, 0, none⟩) 1 1, .slice (some ⟨g, o, none⟩) lb cb]).run Try.prog w = .ok (.value (.bool false)) w := by
  have hov := Lib.run_overlaps_apart (P := Try.prog) w 66 4 22 Try.underlying66 1 u64_cellsz ⟨vb, 0, none⟩ ⟨g, o, none⟩ 1 1 lb cb hne 22 22 1 cur.size
    (by simp [World.shape?, hv]) (by simp [World.shape?, hg]) (by omega) (by simp [World.frozen?, hv]) (by simp [World.frozen?, hv])
  rw [run_callFunc_extern Try.func57 (by kernel_rfl) (by kernel_rfl) (by kernel_rfl) (e := Extern.SlicesOverlaps.overlaps #[66, 66] #[4]) (by kernel_rfl), hov]
  rfl

/-- The rows that an insertion with room goes through. -/
def shift1 (cur : List Value) (xs : List Value) (i : Nat) : List Value := cur.take (i + 1) ++ xs.drop i ++ cur.drop (i + 1 + (xs.drop i).length)
def shift2 (cur : List Value) (xs : List Value) (i : Nat) (x : Value) : List Value := (shift1 cur xs i).take i ++ [x] ++ (shift1 cur xs i).drop (i + [x].length)
theorem shift1_length (cur xs : List Value) (i : Nat) (hi : i < xs.length) (hc : xs.length + 1 ≤ cur.length) : (shift1 cur xs i).length = cur.length := by
  simp [shift1]; omega
theorem shift2_length (cur xs : List Value) (i : Nat) (x : Value) (hi : i < xs.length) (hc : xs.length + 1 ≤ cur.length) : (shift2 cur xs i x).length = cur.length := by
  have := shift1_length cur xs i hi hc
  simp [shift2, this]; omega
theorem split_at {α : Type} (xs : List α) (i : Nat) (h : i ≤ xs.length) : ∃ A B, xs = A ++ B ∧ A.length = i :=
  ⟨xs.take i, xs.drop i, (List.take_append_drop i xs).symm, by simp; omega⟩
theorem shift2_take (cur xs : List Value) (i : Nat) (x : Value) (hi : i < xs.length) (hc : xs.length + 1 ≤ cur.length) (ht : cur.take xs.length = xs) : (shift2 cur xs i x).take (xs.length + 1) = insAt xs i x := by
  obtain ⟨ys, hys⟩ : ∃ ys, cur = xs ++ ys := ⟨cur.drop xs.length, by conv => lhs; rw [← List.take_append_drop xs.length cur, ht]⟩
  subst hys
  obtain ⟨A, B, rfl, rfl⟩ := split_at xs i (by omega)
  cases B with
  | nil => simp at hi
  | cons b B =>
  cases ys with
  | nil => simp at hc; omega
  | cons y Y =>
  have h1 : shift1 (A ++ b :: B ++ y :: Y) (A ++ b :: B) A.length = A ++ b :: b :: B ++ Y := by
    simp [shift1, List.take_append, List.drop_append]
    rw [List.take_of_length_le (by omega), List.drop_eq_nil_of_le (by omega), show A.length + 1 + (B.length + 1) - A.length = B.length + 2 by omega]
    simp [List.drop_append]
  have h2 : shift2 (A ++ b :: B ++ y :: Y) (A ++ b :: B) A.length x = A ++ x :: b :: B ++ Y := by
    unfold shift2; rw [h1]; simp [List.drop_append]
  rw [h2]
  simp [insAt, List.take_append]
  rw [List.take_of_length_le (by omega), show A.length + (B.length + 1) + 1 - A.length = B.length + 2 by omega]
  simp

theorem oneCell_sub {xs ys : List Value} (h : ∀ u ∈ xs, u.oneCell' = true) (hs : ∀ u ∈ ys, u ∈ xs) : ∀ u ∈ ys, u.oneCell' = true := fun u hu => h u (hs u hu)

set_option maxRecDepth 100000 in
set_option maxHeartbeats 1000000 in
theorem insert_shift (base g cap : Nat) (cur : Array Value) (xs : List Value) (i : Nat) (x : Value) (vb : Nat) (w : World) (hx1 : x.oneCell' = true) (h1 : ∀ u ∈ xs, u.oneCell' = true) (hg : base ≤ g) (hcur : w.heap[g]? = some (.cells cur 22 (0, 0)))
    (hsz : cur.size = cap) (htk : cur.toList.take xs.length = xs) (hvb : w.heap[vb]? = some (.cells #[x] 22 (0, 0))) (hne : vb ≠ g)
    (hmax : xs.length ≤ 1000000000) (hcap : cap ≤ 9223372036854775807) (hi : i < xs.length) (hroom : xs.length + 1 ≤ cap) :
    Calls Try.prog 51 #[.slice (some ⟨g, 0, none⟩) xs.length cap, .int .i64 i, .slice (some ⟨vb, 0, none⟩) 1 1] w (Inserted base (.slice (some ⟨g, 0, none⟩) xs.length cap) xs i x w) := by
  have hcl : xs.length + 1 ≤ cur.toList.length := by simp; omega
  have hl1 := shift1_length cur.toList xs i hi hcl
  have htk2 := shift2_take cur.toList xs i x hi hcl htk
  have hl2 := shift2_length cur.toList xs i x hi hcl
  have hov : ∀ o lb cb, (callFunc 57 #[.slice (some ⟨vb, 0, none⟩) 1 1, .slice (some ⟨g, o, none⟩) lb cb]).run Try.prog w = .ok (.value (.bool false)) w := fun o lb cb =>
    overlaps_apart vb g o lb cb w hne x cur hcur hvb (by omega)
  obtain ⟨W1, hW1⟩ : ∃ W1, W1 = w.drew.setRow g (shift1 cur.toList xs i).toArray := ⟨_, rfl⟩
  have hW1g : W1.heap[g]? = some (.cells (shift1 cur.toList xs i).toArray 22 (0, 0)) := by rw [hW1]; exact setRow_heap w.drew g cur _ _ _ hcur
  have hcp1 : ∀ ty dc sc, (Builtin.copy_ #[66, 66] ty #[.slice (some ⟨g, i + 1, none⟩) (xs.length - i) dc, .slice (some ⟨g, i, none⟩) (xs.length + 1 - i) sc]).run Try.prog w.drew = .ok (goInt (xs.drop i).length) W1 := fun ty dc sc => by
    rw [hW1]
    refine run_copy_row Try.prog w.drew _ _ ty 22 g (i + 1) _ dc ⟨g, i, none⟩ _ sc cur 22 (xs.drop i) Try.underlying66 size_u64 hcur (by rw [List.length_drop]; simp only [Nat.min_def]; split <;> omega) ?_ (by rw [List.length_drop]; omega) (oneCell_sub h1 (fun u hu => List.mem_of_mem_drop hu))
    intro j v hj
    rw [List.getElem?_drop, ← htk, List.getElem?_take] at hj
    split at hj
    · rw [Addr.add_lit, World.cell?_drew]
      simpa [World.cell?, hcur] using hj
    · cases hj
  obtain ⟨W2, hW2⟩ : ∃ W2, W2 = W1.setRow g (shift2 cur.toList xs i x).toArray := ⟨_, rfl⟩
  have hcp2 : ∀ ty dc, (Builtin.copy_ #[66, 66] ty #[.slice (some ⟨g, i, none⟩) (xs.length + 1 - i) dc, .slice (some ⟨vb, 0, none⟩) 1 1]).run Try.prog W1 = .ok (goInt ([x] : List Value).length) W2 := fun ty dc => by
    rw [hW2]
    refine run_copy_row Try.prog W1 _ _ ty 22 g i _ dc ⟨vb, 0, none⟩ _ 1 (shift1 cur.toList xs i).toArray 22 [x] Try.underlying66 size_u64 hW1g (by simp only [List.length_cons, List.length_nil, Nat.min_def]; split <;> omega) ?_ (by simp [hl1]; omega) (by simpa using hx1)
    intro j v hj
    cases j with
    | zero =>
      simp at hj; subst hj
      rw [Addr.add_lit, hW1]
      have : (w.drew.setRow g (shift1 cur.toList xs i).toArray).heap[vb]? = w.heap[vb]? := setRow_other w.drew g vb _ hne
      simp [World.cell?, this, hvb]
    | succ j => simp at hj
  have hfin : Inserted base (.slice (some ⟨g, 0, none⟩) xs.length cap) xs i x w (.returned (.slice (some ⟨g, 0, none⟩) (xs.length + 1) cap)) W2 := by
    refine ⟨_, rfl, ⟨by rw [insAt_length _ _ _ (by omega)]; omega, .inr ⟨g, cap, (shift2 cur.toList xs i x).toArray, rfl, hg, ?_, hroom, by unfold maxLen; exact hcap, by simp [hl2]; omega, by simpa using htk2⟩⟩, ?_, .inl rfl⟩
    · rw [hW2]; exact setRow_heap W1 g _ _ _ _ hW1g
    · rw [hW2, hW1]
      exact ((kp_setRow w.drew g _).drewl.trans (kp_setRow _ g _) (fun _ _ h => h)).weaken (fun k h => by rw [h]; rfl)
  have hlen : (xs.drop i).length = xs.length - i := List.length_drop
  generalize hn : xs.length = n at *
  clear hW1 hW2 hW1g hl1 hl2 htk htk2 hcl hvb hsz
  have HN := Lib.hid hn
  clear hn
  have hz2 : ¬ ((i : Int) = (n : Int)) := by omega
  have hb2 : ¬ (cap = i + 1) := by omega
  have hb4 : ¬ (cap = i) := by omega
  go_enter Try.func51, Try.ntmps51
  go_wp2_with (simp only [hov])
  have hw1 : IntKind.i64.wrap ((i : Int) + 1) = (i : Int) + 1 := by rw [IntKind.wrap_i64]; omega
  have hb1 : (0 : Int) ≤ (i : Int) + 1 := by omega
  have hb5 : (i : Int) + 1 ≤ (n : Int) + 1 := by omega
  have hb3 : (i : Int) ≤ (n : Int) + 1 := by omega
  have htn : ((i : Int) + 1).toNat = i + 1 := by omega
  go_region_law (refine step_copy_run rfl (.tmp 73) (.tmp 76) 66 66 rfl _ _ (by simp [Act.eval, Act.put]) (by simp [Act.eval, Act.put]) (hcp1 _ _ _) ?_)
  go_wp2_with (at_builtin; go_loud (refine wpList_copy_run _ rfl (.tmp 80) (.tmp 81) 66 66 rfl _ _ rfl rfl (hcp2 _ _) ?_))
  go_ret
  exact hfin

/-- The operation append, where its run is known. -/
theorem wpList_append_run {P : Program} (w : World) {ops : Array Oper} {rest : List Oper} {o : Oper} {a : Act} {Q : Exit → Act → World → Prop} (hgd : o.guard = none) (d s : Operand) (t t' : TypeId)
    (ho : o.op = .call { callee := .builtin .append, args := #[d, s], argTypes := #[t, t'] }) (v u : Value) (hd : a.eval d = v) (hs : a.eval s = u) {v' : Value} {w' : World}
    (hr : (Builtin.append_ #[t, t'] o.type #[v, u]).run P w = .ok v' w') (h : wpList P ops Q rest (a.put o.dst v') w') : wpList P ops Q (o :: rest) a w :=
  wpList_plain hgd fun K hK => by
    unfold Oper.wp execOp
    simp only [ho, resolve, invoke, builtin, Sem.run_bind, Sem.run_pure, Result.andThen_ok, List.map_toArray, List.map_cons, List.map_nil, hd, hs, hr]
    exact hK _ _ h

def grow1 (row : List Value) (i : Nat) (x : Value) : List Value := row.take i ++ [x] ++ row.drop (i + [x].length)
def grow2 (row xs : List Value) (i : Nat) (x : Value) : List Value := (grow1 row i x).take (i + 1) ++ xs.drop i ++ (grow1 row i x).drop (i + 1 + (xs.drop i).length)
theorem grow1_length (row : List Value) (i : Nat) (x : Value) (h : i < row.length) : (grow1 row i x).length = row.length := by
  simp [grow1]; omega
theorem grow2_length (row xs : List Value) (i : Nat) (x : Value) (hi : i < xs.length) (h : xs.length + 1 ≤ row.length) : (grow2 row xs i x).length = row.length := by
  have := grow1_length row i x (by omega)
  simp [grow2, this]; omega
theorem grow2_take (row xs : List Value) (i : Nat) (x : Value) (hi : i < xs.length) (ht : row.take i = xs.take i) : (grow2 row xs i x).take (xs.length + 1) = insAt xs i x := by
  have h1 : (grow1 row i x).take (i + 1) = xs.take i ++ [x] := by
    rw [grow1, ht, List.append_assoc, List.take_append, List.take_of_length_le (by simp; omega), show i + 1 - (xs.take i).length = 1 by simp; omega]
    simp
  have h2 : grow2 row xs i x = insAt xs i x ++ (grow1 row i x).drop (i + 1 + (xs.drop i).length) := by
    rw [grow2, h1, insAt]; simp
  have h3 := insAt_length xs i x (by omega)
  rw [h2, List.take_append, h3, List.take_of_length_le (by omega)]
  simp

set_option maxRecDepth 100000 in
set_option maxHeartbeats 1000000 in
theorem insert_grow (base g cap : Nat) (cur : Array Value) (xs : List Value) (i : Nat) (x : Value) (vb : Nat) (w : World) (hx1 : x.oneCell' = true) (h1 : ∀ u ∈ xs, u.oneCell' = true) (hbase : base ≤ w.heap.size) (hcur : w.heap[g]? = some (.cells cur 22 (0, 0)))
    (hsz : cur.size = cap) (htk : cur.toList.take xs.length = xs) (hvb : w.heap[vb]? = some (.cells #[x] 22 (0, 0)))
    (hmax : xs.length ≤ 1000000000) (hi : i < xs.length) (hcapn : xs.length ≤ cap) (hroom : cap < xs.length + 1) :
    Calls Try.prog 51 #[.slice (some ⟨g, 0, none⟩) xs.length cap, .int .i64 i, .slice (some ⟨vb, 0, none⟩) 1 1] w (Inserted base (.slice (some ⟨g, 0, none⟩) xs.length cap) xs i x w) := by
  obtain ⟨i0, hi0, hz0, hzs, hzb⟩ := info_parts info_u64
  have hgw : g < w.heap.size := by
    rcases Nat.lt_or_ge g w.heap.size with hlt | hge
    · exact hlt
    · rw [Array.getElem?_eq_none hge] at hcur; cases hcur
  have hvw : vb < w.heap.size := by
    rcases Nat.lt_or_ge vb w.heap.size with hlt | hge
    · exact hlt
    · rw [Array.getElem?_eq_none hge] at hvb; cases hvb
  have hcell : ∀ j v, xs[j]? = some v → w.cell? ⟨g, j, none⟩ = some v := fun j v hj => by
    rw [← htk, List.getElem?_take] at hj
    split at hj
    · simpa [World.cell?, hcur] using hj
    · cases hj
  have hold : (Builtin.firstCells i0.size i (.slice (some ⟨g, 0, none⟩) i cap)).run Try.prog w.drew = .ok (xs.take i).toArray w.drew := by
    rw [hzs]
    exact run_firstCells_some w.drew 1 i ⟨g, 0, none⟩ i cap (xs.take i) (by rw [List.length_take]; omega) (fun j v hj => by
      rw [Addr.add_lit, Nat.zero_add]
      rw [List.getElem?_take] at hj
      split at hj
      · exact hcell j v hj
      · cases hj)
  have hk2 : i + (xs.length + 1 - i) = xs.length + 1 := by omega
  obtain ⟨G, hG⟩ : ∃ G, G = grownCap w (xs.length + 1) cap 22 := ⟨_, rfl⟩
  obtain ⟨row, hrow⟩ : ∃ row : List Value, row = ((xs.take i).toArray ++ Builtin.zeroCells (Value.int .u64 0).cells (xs.length + 1 - i) ++ Builtin.zeroCells (Value.int .u64 0).cells (G - (xs.length + 1))).toList := ⟨_, rfl⟩
  have hrz : ∀ ty, (Builtin.append_ #[66, 3] ty #[.slice (some ⟨g, 0, none⟩) i cap, .int .i64 ((xs.length : Int) + 1 - (i : Int))]).run Try.prog w =
      .ok (.slice (some ⟨w.heap.size, 0, none⟩) (xs.length + 1) G) (w.drew.alloc (.cells row.toArray 22)) := fun ty => by
    have h := Lib.run_append_grow_zeros w 66 3 ty 22 i0 _ .i64 .i64 Try.underlying66 Try.underlying3 hi0 hz0 (some ⟨g, 0, none⟩) i cap (xs.take i) hold (xs.length + 1 - i) (by omega) (by omega) (by omega) (by omega) (by rw [hzb]; omega) (by rw [hzb, hk2]; exact growslice_fits hroom (by omega))
    rw [hk2] at h
    rw [show (xs.length : Int) + 1 - (i : Int) = ((xs.length + 1 - i : Nat) : Int) by omega, h, hrow, hG]
  have hGn : xs.length + 1 ≤ G := by rw [hG]; exact grownCap_ge w _ _ _
  have hG63 : G ≤ 9223372036854775807 := by
    have := grownCap_le_maxLen w (xs.length + 1) cap 22 (by unfold maxLen; omega)
    rw [← hG] at this
    unfold maxLen at this
    exact this
  have hrl : row.length = G := by
    rw [hrow]
    simp [Builtin.zeroCells, Value.cells]
    omega
  have hrt : row.take i = xs.take i := by
    rw [hrow]
    simp only [Array.toList_append, List.append_assoc]
    rw [List.take_append, List.take_of_length_le (by simp; omega), show i - (xs.take i).length = 0 by simp; omega]
    simp
  have hg1 := grow1_length row i x (by omega)
  have hg2 := grow2_length row xs i x hi (by omega)
  have hgt := grow2_take row xs i x hi hrt
  clear hrow hrt hold hk2 hG
  obtain ⟨W1, hW1⟩ : ∃ W1, W1 = w.drew.alloc (.cells row.toArray 22) := ⟨_, rfl⟩
  rw [← hW1] at hrz
  have hW1g : W1.heap[w.heap.size]? = some (.cells row.toArray 22 (0, 0)) := by rw [hW1]; exact heap_alloc_new w.drew _
  have hW1o : ∀ k, k < w.heap.size → W1.heap[k]? = w.heap[k]? := fun k hk => by rw [hW1]; exact Below.heap_alloc w.drew _ k hk
  obtain ⟨W2, hW2⟩ : ∃ W2, W2 = W1.setRow w.heap.size (grow1 row i x).toArray := ⟨_, rfl⟩
  have hW2g : W2.heap[w.heap.size]? = some (.cells (grow1 row i x).toArray 22 (0, 0)) := by rw [hW2]; exact setRow_heap W1 _ _ _ _ _ hW1g
  have hW2o : ∀ k, k < w.heap.size → W2.heap[k]? = w.heap[k]? := fun k hk => by rw [hW2, setRow_other W1 _ k _ (by omega)]; exact hW1o k hk
  have hcpA : ∀ ty dc, (Builtin.copy_ #[66, 66] ty #[.slice (some ⟨w.heap.size, i, none⟩) (xs.length + 1 - i) dc, .slice (some ⟨vb, 0, none⟩) 1 1]).run Try.prog W1 = .ok (goInt ([x] : List Value).length) W2 := fun ty dc => by
    rw [hW2]
    refine run_copy_row Try.prog W1 _ _ ty 22 w.heap.size i _ dc ⟨vb, 0, none⟩ _ 1 row.toArray 22 [x] Try.underlying66 size_u64 hW1g (by simp only [List.length_cons, List.length_nil, Nat.min_def]; split <;> omega) ?_ (by simp; omega) (by simpa using hx1)
    intro j v hj
    cases j with
    | zero =>
      simp at hj; subst hj
      rw [Addr.add_lit]
      simp [World.cell?, hW1o vb hvw, hvb]
    | succ j => simp at hj
  obtain ⟨W3, hW3⟩ : ∃ W3, W3 = W2.drew.setRow w.heap.size (grow2 row xs i x).toArray := ⟨_, rfl⟩
  have hcpB : ∀ ty dc sc, (Builtin.copy_ #[66, 66] ty #[.slice (some ⟨w.heap.size, i + 1, none⟩) (xs.length - i) dc, .slice (some ⟨g, i, none⟩) (xs.length - i) sc]).run Try.prog W2.drew = .ok (goInt (xs.drop i).length) W3 := fun ty dc sc => by
    rw [hW3]
    refine run_copy_row Try.prog W2.drew _ _ ty 22 w.heap.size (i + 1) _ dc ⟨g, i, none⟩ _ sc (grow1 row i x).toArray 22 (xs.drop i) Try.underlying66 size_u64 hW2g (by rw [List.length_drop]; simp only [Nat.min_def]; split <;> omega) ?_ (by rw [List.length_drop]; simp [hg1]; omega) (oneCell_sub h1 (fun u hu => List.mem_of_mem_drop hu))
    intro j v hj
    rw [List.getElem?_drop] at hj
    rw [Addr.add_lit, World.cell?_drew, World.cell?_of_block (w := w) (hW2o g hgw)]
    exact hcell _ v hj
  have hfin : Inserted base (.slice (some ⟨g, 0, none⟩) xs.length cap) xs i x w (.returned (.slice (some ⟨w.heap.size, 0, none⟩) (xs.length + 1) G)) W3 := by
    refine ⟨_, rfl, ⟨by rw [insAt_length _ _ _ (by omega)]; omega, .inr ⟨w.heap.size, G, (grow2 row xs i x).toArray, rfl, hbase, ?_, hGn, by unfold maxLen; exact hG63, by simp [hg2]; omega, by simpa using hgt⟩⟩, ?_, .inr ⟨_, rfl, Nat.le_refl _⟩⟩
    · rw [hW3]; exact setRow_heap W2.drew _ _ _ _ _ hW2g
    · refine ⟨by rw [hW3, hW2, hW1]; rfl, by rw [hW3, hW2, hW1]; rfl, by rw [hW3, hW2, hW1]; rfl, by rw [hW3, hW2, hW1]; simp [World.setRow], fun k hk _ => ?_⟩
      rw [hW3, setRow_other W2.drew _ k _ (by omega)]
      exact hW2o k hk
  have hlen : (xs.drop i).length = xs.length - i := List.length_drop
  generalize hn : xs.length = n at *
  clear hW1 hW2 hW3 hW1g hW2g hW1o hW2o hg1 hg2 hgt htk hvb hsz hcell hcur hrl
  have HN := Lib.hid hn
  clear hn
  have hz2 : ¬ ((i : Int) = (n : Int)) := by omega
  have hz3 : (cap : Int) < (n : Int) + 1 := by omega
  have hb4 : ¬ (cap = i) := by omega
  have hb6 : ¬ (G = i) := by omega
  have hb7 : ¬ (G = i + 1) := by omega
  go_enter Try.func51, Try.ntmps51
  go_wp2_with (first
    | (at_builtin; refine wpList_append_run _ rfl (.tmp 34) (.tmp 39) 66 3 rfl _ _ rfl rfl (hrz _) ?_)
    | (at_builtin; refine wpList_copy_run _ rfl (.tmp 43) (.tmp 44) 66 66 rfl _ _ rfl rfl (hcpA _ _) ?_))
  have hw1 : IntKind.i64.wrap ((i : Int) + 1) = (i : Int) + 1 := by rw [IntKind.wrap_i64]; omega
  have hb1 : (0 : Int) ≤ (i : Int) + 1 := by omega
  have hb5 : (i : Int) + 1 ≤ (n : Int) + 1 := by omega
  have hb3 : (i : Int) ≤ (n : Int) := by omega
  have htn : ((i : Int) + 1).toNat = i + 1 := by omega
  go_region_law (refine step_copy_run rfl (.tmp 50) (.tmp 53) 66 66 rfl _ _ (by simp [Act.eval, Act.put]) (by simp [Act.eval, Act.put]) (hcpB _ _ _) ?_)
  go_wp2
  go_ret
  exact hfin

/-- slices.Insert of one value, whatever row it owns. -/
theorem insert_any (base : Nat) (v : Value) (xs : List Value) (i : Nat) (x : Value) (vb : Nat) (w : World) (hx1 : x.oneCell' = true) (h1 : ∀ u ∈ xs, u.oneCell' = true) (hown : w.ownsRow base 22 1 v xs.length xs)
    (hvb : w.heap[vb]? = some (.cells #[x] 22 (0, 0))) (hne : ∀ g, v.ownBlock = some g → vb ≠ g) (hbase : base ≤ w.heap.size) (hmax : xs.length ≤ 1000000000) (hi : i ≤ xs.length) :
    Calls Try.prog 51 #[v, .int .i64 i, .slice (some ⟨vb, 0, none⟩) 1 1] w (Inserted base v xs i x w) := by
  by_cases hil : i = xs.length
  · subst hil
    exact insert_end base v xs x vb w hx1 hown (by simp [World.cell?, hvb]) hbase hmax
  · obtain ⟨a, cap, hv, hc1, hc2, h3⟩ := owns_shape hown
    rcases h3 with ⟨_, h0, _⟩ | ⟨g, cur, rfl, hb, hg, hcur, hsz, htk⟩
    · omega
    · subst hv
      by_cases hroom : xs.length + 1 ≤ cap
      · exact insert_shift base g cap cur xs i x vb w hx1 h1 hb hcur (by omega) (by simpa using htk) hvb (hne g rfl) hmax hc2 (by omega) hroom
      · exact insert_grow base g cap cur xs i x vb w hx1 h1 hbase hcur (by omega) (by simpa using htk) hvb hmax (by omega) hc1 (by omega)

theorem step_append_run {P : Program} {ops : Array Oper} {o : Oper} {a : Act} {w : World} {K : Act → World → Prop} {Q : Exit → Act → World → Prop} {E : Prop}
    (hg : o.guard = none) (d x : Operand) (dT sT : TypeId) (hop : o.op = Op.call { callee := Callee.builtin Builtin.append, args := #[d, x], argTypes := #[dT, sT] })
    (v u : Value) (hd : a.eval d = v) (hx : a.eval x = u) {v' : Value} {w' : World} (hr : (Builtin.append_ #[dT, sT] o.type #[v, u]).run P w = .ok v' w') (hK : K (a.put o.dst v') w') :
    if Region.wanted o (yielded ops a.tmps) = true then Oper.wp P o a w K Q else E := by
  have hw : Region.wanted o (yielded ops a.tmps) = true := by simp [Region.wanted, hg]
  rw [if_pos hw]
  unfold Oper.wp
  simp [execOp, hop, resolve, invoke, builtin, hd, hx, hr, Result.andThen]
  exact hK

def Removed (base : Nat) (v : Value) (xs : List Value) (i : Nat) (w : World) (e : Ending) (w' : World) : Prop :=
  ∃ v', e = .returned v' ∧ w'.ownsRow base 22 1 v' (xs.length - 1) (xs.eraseIdx i) ∧ Kp (fun g => v.ownBlock = some g) w w' ∧ v'.ownBlock = v.ownBlock

def del1 (cur xs : List Value) (i : Nat) : List Value := cur.take i ++ xs.drop (i + 1) ++ cur.drop (i + (xs.drop (i + 1)).length)
theorem del1_length (cur xs : List Value) (i : Nat) (hi : i < xs.length) (hc : xs.length ≤ cur.length) : (del1 cur xs i).length = cur.length := by
  simp [del1]; omega
theorem del1_take (cur xs : List Value) (i : Nat) (hi : i < xs.length) (ht : cur.take xs.length = xs) : (del1 cur xs i).take (xs.length - 1) = xs.eraseIdx i := by
  have h1 : cur.take i = xs.take i := by rw [← ht, List.take_take, Nat.min_eq_left (by omega)]
  rw [del1, h1, List.eraseIdx_eq_take_drop_succ, List.take_append, List.take_of_length_le (by simp; omega)]
  simp; omega

set_option maxRecDepth 100000 in
set_option maxHeartbeats 1000000 in
theorem delete_one (base : Nat) (v : Value) (xs : List Value) (i : Nat) (w : World) (h1 : ∀ u ∈ xs, u.oneCell' = true) (hown : w.ownsRow base 22 1 v xs.length xs)
    (hmax : xs.length ≤ 1000000000) (hi : i < xs.length) :
    Calls Try.prog 52 #[v, .int .i64 i, .int .i64 ((i : Int) + 1)] w (Removed base v xs i w) := by
  obtain ⟨i0, hi0, hz0, hzs, hzb⟩ := info_parts info_u64
  obtain ⟨a, cap, rfl, hc1, hc2, h3⟩ := owns_shape hown
  rcases h3 with ⟨_, h0, _⟩ | ⟨g, cur, rfl, hb, hg, hcur, hsz, htk⟩
  · omega
  rw [Nat.mul_one] at hsz htk
  have hl1 := del1_length cur.toList xs i hi (by simp; omega)
  have ht1 := del1_take cur.toList xs i hi htk
  have hcell : ∀ j v, xs[j]? = some v → w.cell? ⟨g, j, none⟩ = some v := fun j v hj => by
    rw [← htk, List.getElem?_take] at hj
    split at hj
    · simpa [World.cell?, hcur] using hj
    · cases hj
  obtain ⟨A, hA, hsrc⟩ : ∃ A : Addr, (if cap = i + 1 then some (⟨g, 0, none⟩ : Addr) else some ⟨g, i + 1, none⟩) = some A ∧ (∀ t u, (xs.drop (i + 1))[t]? = some u → w.drew.cell? (A.add t) = some u) := by
    by_cases h : cap = i + 1
    · refine ⟨⟨g, 0, none⟩, by simp [h], fun t u hu => ?_⟩
      rw [List.getElem?_drop] at hu
      have := (List.getElem?_eq_some_iff.1 hu).1
      omega
    · refine ⟨⟨g, i + 1, none⟩, by simp [h], fun t u hu => ?_⟩
      rw [List.getElem?_drop] at hu
      rw [Addr.add_lit, World.cell?_drew]
      exact hcell _ _ hu
  have hlen : (xs.drop (i + 1)).length = xs.length - (i + 1) := List.length_drop
  obtain ⟨W1, hW1⟩ : ∃ W1, W1 = w.drew.setRow g (del1 cur.toList xs i).toArray := ⟨_, rfl⟩
  have hW1g : W1.heap[g]? = some (.cells (del1 cur.toList xs i).toArray 22 (0, 0)) := by rw [hW1]; exact setRow_heap w.drew g cur _ _ _ hcur
  have hap : ∀ ty sc, (Builtin.append_ #[66, 66] ty #[.slice (some ⟨g, 0, none⟩) i cap, .slice (some A) (xs.length - (i + 1)) sc]).run Try.prog w.drew = .ok (.slice (some ⟨g, 0, none⟩) (i + (xs.length - (i + 1))) cap) W1 := fun ty sc => by
    have h := run_append_room (P := Try.prog) w.drew 66 ty 22 i0 Try.underlying66 hi0 g i cap cur hcur A (xs.length - (i + 1)) sc (xs.drop (i + 1)) (by rw [hzs]; omega) hsrc (oneCell_sub h1 (fun u hu => List.mem_of_mem_drop hu)) (by omega) (by rw [hzs]; omega)
    rw [h, hzs, Nat.mul_one, hW1]; rfl
  have hcl : ∀ ty, (Builtin.clear_ #[66] ty #[.slice (some ⟨g, i + (xs.length - (i + 1)), none⟩) (xs.length - (i + (xs.length - (i + 1)))) (cap - (i + (xs.length - (i + 1))))]).run Try.prog W1 = .ok (.tuple #[]) (W1.setCells g (i + (xs.length - (i + 1))) (List.replicate (xs.length - (i + (xs.length - (i + 1)))) (.int .u64 0))) := fun ty =>
    Lib.run_clear_slice W1 _ _ ty _ Try.underlying66 (fun w => by kernel_rfl) rfl rfl g _ _ _ (by omega) (fun j hj => by simp [World.cell?, hW1g, hl1]; omega) (fun j hj => by simp [World.frozen?, hW1g])
  obtain ⟨k, hk⟩ : ∃ k, k = i + (xs.length - (i + 1)) := ⟨_, rfl⟩
  have hk1 : xs.length - k = 1 := by omega
  have hk2 : k = xs.length - 1 := by omega
  obtain ⟨W2, hW2⟩ : ∃ W2, W2 = W1.setCell ⟨g, k, none⟩ (.int .u64 0) := ⟨_, rfl⟩
  rw [← hk, hk1] at hcl
  rw [← hk] at hap
  have hcl' : ∀ ty, (Builtin.clear_ #[66] ty #[.slice (some ⟨g, k, none⟩) 1 (cap - k)]).run Try.prog W1 = .ok (.tuple #[]) W2 := fun ty => by rw [hcl ty, hW2]; rfl
  have hfin : Removed base (.slice (some ⟨g, 0, none⟩) xs.length cap) xs i w (.returned (.slice (some ⟨g, 0, none⟩) k cap)) W2 := by
    refine ⟨_, rfl, ?_, ?_, rfl⟩
    · rw [hk2]
      refine ⟨by rw [List.length_eraseIdx_of_lt hi]; omega, .inr ⟨g, cap, (del1 cur.toList xs i).toArray.setIfInBounds k (.int .u64 0), rfl, hb, ?_, by omega, by unfold maxLen; exact hc2, by simp [hl1]; omega, ?_⟩⟩
      · rw [hW2]; exact Joins.block_setCell hW1g _
      · rw [Nat.mul_one, ← ht1, ← hk2]
        simp [List.take_set_of_le]
    · refine ⟨by rw [hW2, hW1]; rfl, by rw [hW2, hW1]; rfl, by rw [hW2, hW1]; rfl, by rw [hW2, hW1]; simp [World.setRow], fun j hj hn => ?_⟩
      have hjg : j ≠ g := fun e => hn (by rw [e]; rfl)
      rw [hW2, Below.heap_setCell _ _ _ _ hjg, hW1]
      exact setRow_other w.drew g j _ hjg
  clear hcl hW1 hW2 hW1g hl1 ht1 hsz htk hcell hcur
  generalize hn : xs.length = n at *
  have HS := Lib.hid hsrc
  have HK := Lib.hid hk
  have HN := Lib.hid hn
  clear hn hsrc hk hk2 h1 hlen
  have hne : ¬ ((i : Int) = (i : Int) + 1) := by omega
  go_enter Try.func52, Try.ntmps52
  go_wp2_with fail
  have hw1 : IntKind.i64.wrap ((i : Int) + 1) = (i : Int) + 1 := by rw [IntKind.wrap_i64]; omega
  have hb1 : (0 : Int) ≤ (i : Int) + 1 := by omega
  have hb5 : (i : Int) + 1 ≤ (n : Int) := by omega
  have htn : ((i : Int) + 1).toNat = i + 1 := by omega
  have hic : i ≤ cap := by omega
  go_region_law (refine step_append_run rfl (.tmp 22) (.tmp 25) 66 66 rfl (.slice (some ⟨g, 0, none⟩) i cap) (.slice (some A) (n - (i + 1)) (cap - (i + 1))) (by simp [Act.eval, Act.put]) (by simp [Act.eval, Act.put]) (hap _ (cap - (i + 1))) ?_)
  go_wp2
  go_ret
  exact hfin
end Go.Proofs.Ytofhaechpllaoaa
namespace Go.Proofs.Ytofhaechpllaoaa
open Go

section
variable {P : Program} {ops : Array Oper} {Q : Exit → Act → World → Prop} {md : Region.Mode} {H : List (Nat × (World → Prop))}

/-- Facts on the world, each of which stands till an operation has come up. -/
def HeldTill (H : List (Nat × (World → Prop))) (listed : Array Bool) (w : World) : Prop := ∀ x ∈ H, listed.getD x.1 true = false → x.2 w

/-- Whoever has come up, has all for which it waits behind it. -/
def ClosedUp (md : Region.Mode) (ops : Array Oper) (listed : Array Bool) : Prop :=
  ∀ j oj, ops[j]? = some oj → listed.getD j true = true → ∀ e ∈ oj.after, Region.binds md e = true → listed.getD e.on false = true

def wpAnyS (P : Program) (md : Region.Mode) (ops : Array Oper) (Q : Exit → Act → World → Prop) (H : List (Nat × (World → Prop))) : Nat → Array Bool → Act → World → Prop
  | 0, listed, a, w => Region.ready md ops listed = [] ∧ Q .normal a w
  | fuel + 1, listed, a, w =>
    (Region.ready md ops listed = [] → Q .normal a w) ∧
    ∀ i ∈ Region.ready md ops listed, wpOp P ops Q i (fun a' w' => HeldTill H (listed.setIfInBounds i true) w' ∧ wpAnyS P md ops Q H fuel (listed.setIfInBounds i true) a' w') a w

theorem wpAny_of_S : ∀ (fuel : Nat) (listed : Array Bool) (a : Act) (w : World), wpAnyS P md ops Q H fuel listed a w → wpAny P md ops Q fuel listed a w
  | 0, _, _, _, h => h
  | fuel + 1, _, _, _, h => ⟨h.1, fun i hi => wpOp_mono (fun a' w' h' => wpAny_of_S fuel _ a' w' h'.2) (h.2 i hi)⟩

theorem ClosedUp.step {listed : Array Bool} (h : ClosedUp md ops listed) (hsz : listed.size = ops.size) {i : Nat} (hi : i ∈ Region.ready md ops listed) : ClosedUp md ops (listed.setIfInBounds i true) := by
  obtain ⟨hun, oi, hoi, hall⟩ := mem_ready.1 hi
  have hil : i < listed.size := by rw [hsz]; exact (Array.getElem?_eq_some_iff.1 hoi).1
  intro j oj hj hl e he hb
  have key : listed.getD e.on false = true := by
    by_cases hji : j = i
    · subst hji
      rw [hoi] at hj; cases hj
      exact hall e he hb
    · refine h j oj hj ?_ e he hb
      rwa [getD_set_ne true (Ne.symm hji)] at hl
  by_cases hei : e.on = i
  · rw [hei]; simp [hil]
  · rw [getD_set_ne false (Ne.symm hei)]; exact key

theorem wpAnyS_first {i : Nat} {oi : Oper} {v : Value} {T : World → Prop} (hi : ops[i]? = some oi) (hsel : ∀ (j : Nat) (o : Oper) cs b, ops[j]? = some o → o.op ≠ .select cs b)
    (hQ : ∀ c a w, Q (.panic c) (a.put oi.dst v) w → Q (.panic c) a w) (hne : ∀ x ∈ H, x.1 ≠ i)
    (hT : ∀ (l : Array Bool) w, ClosedUp md ops l → l.getD i true = false → HeldTill H l w → T w) :
    ∀ (fuel : Nat) (listed : Array Bool) (a : Act) (w : World), listed.size = ops.size → ClosedUp md ops listed →
      (∀ j oj, ops[j]? = some oj → j ≠ i → listed.getD j true = false → (∀ e ∈ oj.after, Region.binds md e = true → e.on ≠ i) → oi.apart ops oj = true) →
      i ∈ Region.ready md ops listed → YieldsIf P ops T oi v a → HeldTill H listed w →
      wpAnyS P md ops Q H fuel (listed.setIfInBounds i true) (a.put oi.dst v) w → wpAnyS P md ops Q H (fuel + 1) listed a w := by
  have hput : ∀ (listed : Array Bool) (w : World), HeldTill H listed w → HeldTill H (listed.setIfInBounds i true) w := fun listed w h x hx hl => by
    refine h x hx ?_
    rwa [getD_set_ne true (Ne.symm (hne x hx))] at hl
  intro fuel
  induction fuel with
  | zero =>
    intro listed a w _ hcl _ hr hy hS hh
    refine ⟨fun h => (by rw [h] at hr; cases hr), fun j hj => ?_⟩
    by_cases hji : j = i
    · subst hji; exact hy.wpOp hi (hT listed w hcl (mem_ready.1 hr).1 hS) ⟨hput _ _ hS, hh⟩
    · have := ready_mono hj hji
      rw [hh.1] at this
      cases this
  | succ fuel ih =>
    intro listed a w hsz hcl hfree hr hy hS hh
    refine ⟨fun h => (by rw [h] at hr; cases hr), fun j hj => ?_⟩
    by_cases hji : j = i
    · subst hji; exact hy.wpOp hi (hT listed w hcl (mem_ready.1 hr).1 hS) ⟨hput _ _ hS, hh⟩
    · have h1 := hh.2 j (ready_mono hj hji)
      obtain ⟨hjun, oj, hoj, hall⟩ := mem_ready.1 hj
      have hnot : ∀ e ∈ oj.after, Region.binds md e = true → e.on ≠ i := fun e he hb heq => by
        have h1 := hall e he hb
        have h0 := (mem_ready.1 hr).1
        rw [heq] at h1
        rcases Nat.lt_or_ge i listed.size with h' | h'
        · simp [h'] at h0 h1; rw [h0] at h1; cases h1
        · simp [Array.getElem?_eq_none h'] at h1
      have h2 := wpOp_putIf hoj (hfree j oj hoj hji hjun hnot) (fun cs b => hsel i oi cs b hi) (fun cs b => hsel j oj cs b hoj) hQ hy h1
      have hfree' : ∀ k ok, ops[k]? = some ok → k ≠ i → (listed.setIfInBounds j true).getD k true = false →
          (∀ e ∈ ok.after, Region.binds md e = true → e.on ≠ i) → oi.apart ops ok = true := fun k ok hk hki hun hno => by
        refine hfree k ok hk hki ?_ hno
        by_cases hjk : j = k
        · subst hjk; exact hjun
        · rw [getD_set_ne true hjk] at hun; exact hun
      have hback : ∀ w', HeldTill H ((listed.setIfInBounds i true).setIfInBounds j true) w' → HeldTill H (listed.setIfInBounds j true) w' := fun w' h x hx hl => by
        refine h x hx ?_
        rw [Array.setIfInBounds_comm _ _ (Ne.symm hji), getD_set_ne true (Ne.symm (hne x hx))]
        exact hl
      refine wpOp_mono (fun a' w' h3 => ⟨hback w' h3.2.1, ih (listed.setIfInBounds j true) a' w' (by simpa using hsz) (hcl.step hsz hj) hfree' (ready_mono hr (Ne.symm hji)) h3.1 (hback w' h3.2.1) ?_⟩) h2
      rw [Array.setIfInBounds_comm _ _ hji]
      exact h3.2.2

/-- Does operation c wait for operation i, itself or through others? -/
def waitsIn (md : Region.Mode) (ops : Array Oper) : Nat → Nat → Nat → Bool
  | 0, _, _ => false
  | f + 1, c, i => match ops[c]? with | some oc => oc.after.any (fun e => Region.binds md e && (e.on == i || waitsIn md ops f e.on i)) | none => false
def waitsFor (md : Region.Mode) (ops : Array Oper) (c i : Nat) : Bool := waitsIn md ops 40 c i
theorem waitsIn_listed {l : Array Bool} (hcl : ClosedUp md ops l) : ∀ (f c i : Nat), waitsIn md ops f c i = true → l.getD c true = true → l.getD i false = true := by
  intro f
  induction f with
  | zero => intro c i h; cases h
  | succ f ih =>
    intro c i h hl
    unfold waitsIn at h
    split at h
    · rename_i oc hoc
      obtain ⟨e, he, hb⟩ := Array.any_eq_true'.1 h
      simp only [Bool.and_eq_true, Bool.or_eq_true, beq_iff_eq] at hb
      have h1 := hcl c oc hoc hl e he hb.1
      rcases hb.2 with h2 | h2
      · rw [h2] at h1; exact h1
      · refine ih e.on i h2 ?_
        rcases Nat.lt_or_ge e.on l.size with h' | h'
        · simp [h'] at h1 ⊢; exact h1
        · simp [Array.getElem?_eq_none h'] at h1
    · cases h
/-- Is what has come up closed? -/
def closedUpB (md : Region.Mode) (ops : Array Oper) (listed : Array Bool) : Bool :=
  (List.range ops.size).all fun j => match ops[j]? with | some oj => !listed.getD j true || oj.after.all fun e => !Region.binds md e || listed.getD e.on false | none => true
theorem closedUpB_spec {listed : Array Bool} (h : closedUpB md ops listed = true) : ClosedUp md ops listed := by
  intro j oj hj hl e he hb
  have hjl : j < ops.size := (Array.getElem?_eq_some_iff.1 hj).1
  have := List.all_eq_true.1 h j (List.mem_range.2 hjl)
  simp only [hj, hl, Bool.not_true, Bool.false_or] at this
  have := Array.all_eq_true'.1 this e he
  simpa [hb] using this

/-- Take a pure operation first. -/
theorem wpAnyS_take {i : Nat} {oi : Oper} {v : Value} {fuel : Nat} {listed : Array Bool} {a : Act} {w : World} (hi : ops[i]? = some oi)
    (hs : Region.noSelect ops = true) (hf : Region.free md ops listed i = true) (hr : (Region.ready md ops listed).contains i = true)
    (hc : closedUpB md ops listed = true) (hsz : listed.size = ops.size) (hn : H.all (fun x => x.1 != i) = true)
    (hQ : ∀ c a w, Q (.panic c) (a.put oi.dst v) w → Q (.panic c) a w) (hS : HeldTill H listed w) (hy : YieldsIf P ops (fun _ => True) oi v a)
    (h : HeldTill H (listed.setIfInBounds i true) w → wpAnyS P md ops Q H fuel (listed.setIfInBounds i true) (a.put oi.dst v) w) : wpAnyS P md ops Q H (fuel + 1) listed a w :=
  have hne : ∀ x ∈ H, x.1 ≠ i := fun x hx => by simpa using List.all_eq_true.1 hn x hx
  wpAnyS_first hi (Region.noSelect_spec hs) hQ hne (fun _ _ _ _ _ => trivial) fuel listed a w hsz (closedUpB_spec hc) (Region.free_spec hi hf) (by simpa using hr) hy hS
    (h fun x hx hl => hS x hx (by rwa [getD_set_ne true (Ne.symm (hne x hx))] at hl))
/-- Take a load first whose cell is held till operation c, which waits for it. -/
theorem wpAnyS_load {i c : Nat} {oi : Oper} {v : Value} {T : World → Prop} {fuel : Nat} {listed : Array Bool} {a : Act} {w : World} (hi : ops[i]? = some oi)
    (hs : Region.noSelect ops = true) (hf : Region.free md ops listed i = true) (hr : (Region.ready md ops listed).contains i = true)
    (hc : closedUpB md ops listed = true) (hsz : listed.size = ops.size) (hn : H.all (fun x => x.1 != i) = true) (hw : waitsFor md ops c i = true) (hcT : (c, T) ∈ H)
    (hQ : ∀ c a w, Q (.panic c) (a.put oi.dst v) w → Q (.panic c) a w) (hS : HeldTill H listed w) (hy : YieldsIf P ops T oi v a)
    (h : HeldTill H (listed.setIfInBounds i true) w → wpAnyS P md ops Q H fuel (listed.setIfInBounds i true) (a.put oi.dst v) w) : wpAnyS P md ops Q H (fuel + 1) listed a w :=
  have hne : ∀ x ∈ H, x.1 ≠ i := fun x hx => by simpa using List.all_eq_true.1 hn x hx
  wpAnyS_first hi (Region.noSelect_spec hs) hQ hne (fun l w' hcl hl hH => by
      refine hH (c, T) hcT ?_
      cases hlc : l.getD c true with
      | false => rfl
      | true =>
        have := waitsIn_listed hcl 40 c i hw hlc
        rcases Nat.lt_or_ge i l.size with h' | h'
        · simp [h'] at hl this; rw [hl] at this; cases this
        · simp [Array.getElem?_eq_none h'] at this) fuel listed a w hsz (closedUpB_spec hc) (Region.free_spec hi hf) (by simpa using hr) hy hS
    (h fun x hx hl => hS x hx (by rwa [getD_set_ne true (Ne.symm (hne x hx))] at hl))

def AllReadyS (P : Program) (md : Region.Mode) (ops : Array Oper) (Q : Exit → Act → World → Prop) (H : List (Nat × (World → Prop))) (fuel : Nat) (listed : Array Bool) (a : Act) (w : World) (rs : List Nat) : Prop :=
  ∀ i ∈ rs, wpOp P ops Q i (fun a' w' => HeldTill H (listed.setIfInBounds i true) w' ∧ wpAnyS P md ops Q H fuel (listed.setIfInBounds i true) a' w') a w
theorem AllReadyS.nil {fuel : Nat} {listed : Array Bool} {a : Act} {w : World} : AllReadyS P md ops Q H fuel listed a w [] := fun _ h => by cases h
theorem AllReadyS.cons {fuel : Nat} {listed : Array Bool} {a : Act} {w : World} {i : Nat} {o : Oper} {rs : List Nat} (ho : ops[i]? = some o)
    (h : ∀ K' : Act → World → Prop, Shut (∀ a w, HeldTill H (listed.setIfInBounds i true) w → (HeldTill H (listed.setIfInBounds i true) w → wpAnyS P md ops Q H fuel (listed.setIfInBounds i true) a w) → K' a w) → if Region.wanted o (yielded ops a.tmps) = true then Oper.wp P o a w K' Q else K' (a.put o.dst undef) w)
    (hs : AllReadyS P md ops Q H fuel listed a w rs) : AllReadyS P md ops Q H fuel listed a w (i :: rs) := fun j hj => by
  rcases List.mem_cons.1 hj with rfl | hj
  · exact wpOp_step ho (fun K' hK => h K' (fun a w hS hW => hK a w ⟨hS, hW hS⟩))
  · exact hs j hj
theorem wpAnyS_ready {rs : List Nat} {fuel : Nat} {listed : Array Bool} {a : Act} {w : World} (hr : Region.ready md ops listed = rs) (hne : rs ≠ [])
    (h : AllReadyS P md ops Q H fuel listed a w rs) : wpAnyS P md ops Q H (fuel + 1) listed a w :=
  ⟨fun h0 => absurd (hr ▸ h0) hne, hr ▸ h⟩
theorem wpAnyS_done {listed : Array Bool} {a : Act} {w : World} (hr : Region.ready md ops listed = []) (h : Q .normal a w) :
    ∀ fuel, wpAnyS P md ops Q H fuel listed a w
  | 0 => ⟨hr, h⟩
  | _ + 1 => ⟨fun _ => h, by rw [hr]; simp⟩
/-- The beginning. -/
theorem wp_region_S {id : Nat} {a : Act} {w : World} (H : List (Nat × (World → Prop))) (hm : P.follows .mixedOrders = true)
    (h : wpAnyS P .any ops Q H ops.size (Array.replicate ops.size false) a w.drew) : (Code.region id ops true).wp P Q a w :=
  wp_region_any hm (wpAny_of_S _ _ _ _ h)
end
end Go.Proofs.Ytofhaechpllaoaa
