/- ModelPlays: plain law, and the document's After and Result with what they leave apart. -/
import Derived.Test.YtofhaechpllaoaaPkC
namespace Go.Proofs.Ytofhaechpllaoaa
open Go Go.RowKit

def Apart (B : Nat) (sv sv' : Value) (l l' : List PairD) : Prop := (sv' = sv ∧ l' = l) ∨ ∀ g, sv'.ownBlock = some g → B ≤ g
theorem row_apart {B : Nat} {w : World} {v : Value} {l : List PairD} (h : RowP B w v l) : ∀ g, v.ownBlock = some g → B ≤ g := fun g hg => (owns_lt h hg).2

set_option maxRecDepth 100000 in
set_option maxHeartbeats 2000000 in
theorem ref_afterB (sv : Value) (l : List PairD) (o : OpD) (w : World) (h : Arr w 2 PairD.cells sv l) (hmax : l.length ≤ 10000000) :
    Calls Try.prog 24 #[sv, o.agg] w fun e w' => ∃ sv', e = .returned sv' ∧ Arr w' 2 PairD.cells sv' (afterR l o) ∧ Apart w.heap.size sv sv' l (afterR l o) ∧ Below w.heap.size w w' := by
  obtain ⟨kind, key, val, high, most⟩ := o
  have HA := Lib.hid h
  clear h
  unfold afterR
  by_cases h2 : kind = 2
  · subst h2
    go_enter Try.func24, Try.ntmps24
    go_wp2_with (go_at_call 21; with_reducible refine (ref_put sv l key val _ (HA.out.alloc _) hmax).mono ?_; rintro e w' ⟨a, c, rfl, hr, hbx⟩)
    go_ret
    exact ⟨_, rfl, Arr.ofRow hr, .inr (fun g hg => by have := row_apart hr g hg; simp at this; omega), (Joins.below_alloc1 w _).trans (hbx.mono (by simp))⟩
  · by_cases h3 : kind = 3
    · subst h3
      go_enter Try.func24, Try.ntmps24
      go_wp2_with (go_at_call 43; with_reducible refine (ref_drop sv l key _ (HA.out.alloc _) (by omega)).mono ?_; rintro e w' ⟨a, c, rfl, hr, hbx⟩)
      go_ret
      exact ⟨_, rfl, Arr.ofRow hr, .inr (fun g hg => by have := row_apart hr g hg; simp at this; omega), (Joins.below_alloc1 w _).trans (hbx.mono (by simp))⟩
    · go_enter Try.func24, Try.ntmps24
      go_wp2
      go_ret
      simp only [h2, h3, if_false]
      exact ⟨_, rfl, HA.out.alloc _, .inl ⟨rfl, rfl⟩, Joins.below_alloc1 w _⟩

set_option maxRecDepth 100000 in
set_option maxHeartbeats 2000000 in
theorem ref_resultB (sv : Value) (l : List PairD) (o : OpD) (w : World) (h : Arr w 2 PairD.cells sv l) (hmax : l.length ≤ 10000000) (hr : o.right = true) :
    Calls Try.prog 23 #[sv, o.agg] w fun e w' => ∃ r a c, ResR l o r ∧ e = .returned (.agg #[.int .i64 r.1, .int .u64 r.2.1, .slice a r.2.2.length c]) ∧ Arr w' 2 PairD.cells (.slice a r.2.2.length c) r.2.2 ∧
      (∀ g, (Value.slice a r.2.2.length c).ownBlock = some g → w.heap.size ≤ g) ∧ Below w.heap.size w w' := by
  obtain ⟨kind, key, val, high, most⟩ := o
  have HA := Lib.hid h
  clear h
  unfold ResR
  dsimp only
  by_cases h4 : kind = 4
  · subst h4
    have hm : 0 ≤ most := by unfold OpD.right at hr; simp at hr; omega
    simp only [if_true]
    go_enter Try.func23, Try.ntmps23
    go_wp2_with (go_at_call 33; with_reducible refine (ref_within sv l key high most _ ((HA.out.alloc _).alloc _) (by omega) hm).mono ?_; rintro e w' ⟨a, c, rfl, hrw, hbx⟩; obtain ⟨E, nx, rfl⟩ := below_ext hbx; have HR := Lib.hid hrw; clear hrw hbx)
    (try simp only [Exit.inBlock, Exit.then])
    refine bodyPost_ret (v := .agg #[.int .i64 4, .int .u64 0, .slice a (withinR l key high most).length c]) ?_ rfl ⟨(4, 0, withinR l key high most), a, c, rfl, rfl, ?_, ?_, (by ((repeat' (first | exact Below.refl _ _ | assumption | (refine Below_alloc ?_ ?_ _) | (refine Below_ext ?_ ?_ _ _) | (refine Below_setCell ?_ _ _ _ ?_) | apply Below.drew | refine Below_drewN ?_ _)) <;> first | done | (simp; done) | (simp; omega)))⟩
    · rw [results_cell1 rfl]
      go_simp
    · exact arr_swap HR.out
    · intro g hg; have := row_apart HR.out g hg; simp at this; omega
  · simp only [h4, if_false]
    go_enter Try.func23, Try.ntmps23
    go_wp2_with (go_at_call 31; with_reducible refine (ref_at sv l key _ ((HA.out.alloc _).alloc _) (by omega)).mono ?_; rintro e w' ⟨⟨i, rfl, hi⟩, hbx⟩; obtain ⟨E, nx, rfl⟩ := below_ext hbx; clear hbx; rcases hi with ⟨rfl, hno⟩ | ⟨j, q, rfl, hq, hk⟩; rotate_left; obtain ⟨b, o, c', e, hh, e0, e1⟩ := HA.out.pair (by ((repeat' (first | exact Below.refl _ _ | assumption | (refine Below_alloc ?_ ?_ _) | (refine Below_ext ?_ ?_ _ _) | (refine Below_setCell ?_ _ _ _ ?_) | apply Below.drew | refine Below_drewN ?_ _)) <;> first | done | (simp; done) | (simp; omega))) hq; cases e; have hjl := (List.getElem?_eq_some_iff.1 hq).1)
    · (try simp only [Exit.inBlock, Exit.then])
      refine bodyPost_ret (v := .agg #[.int .i64 2, .int .u64 q.val, .slice none 0 0]) ?_ rfl ⟨(2, q.val, []), none, 0, .inr ⟨q, List.mem_of_getElem? hq, hk, rfl⟩, rfl, Arr.zero _ _ _ _ _ (by omega), (fun g hg => by cases hg), (by ((repeat' (first | exact Below.refl _ _ | assumption | (refine Below_alloc ?_ ?_ _) | (refine Below_ext ?_ ?_ _ _) | (refine Below_setCell ?_ _ _ _ ?_) | apply Below.drew | refine Below_drewN ?_ _)) <;> first | done | (simp; done) | (simp; omega)))⟩
      rw [results_cell1 rfl]
      go_simp
    · (try simp only [Exit.inBlock, Exit.then])
      refine bodyPost_ret (v := .agg #[.int .i64 1, .int .u64 0, .slice none 0 0]) ?_ rfl ⟨(1, 0, []), none, 0, .inl ⟨hno, rfl⟩, rfl, Arr.zero _ _ _ _ _ (by omega), (fun g hg => by cases hg), (by ((repeat' (first | exact Below.refl _ _ | assumption | (refine Below_alloc ?_ ?_ _) | (refine Below_ext ?_ ?_ _ _) | (refine Below_setCell ?_ _ _ _ ?_) | apply Below.drew | refine Below_drewN ?_ _)) <;> first | done | (simp; done) | (simp; omega)))⟩
      rw [results_cell1 rfl]
      go_simp

/-! Plain. -/
theorem take_lt {m : List PairD} (h : Rising m) (k : Int) : (∀ q ∈ m.take (place (keysOf m) k), q.key < k) ∧ (∀ q ∈ m.drop (place (keysOf m) k), k ≤ q.key) := by
  refine ⟨fun q hq => ?_, fun q hq => ?_⟩
  · obtain ⟨i, hi⟩ := List.mem_iff_getElem?.1 hq
    rw [List.getElem?_take] at hi
    split at hi
    · rename_i hlt
      exact (place_spec h k i q hi).2 hlt
    · cases hi
  · obtain ⟨i, hi⟩ := List.mem_iff_getElem?.1 hq
    rw [List.getElem?_drop] at hi
    have := place_spec h k _ q hi
    rcases Int.lt_or_le q.key k with h1 | h1
    · have := this.1 h1; omega
    · exact h1
theorem filt_takeWhile (hi : Int) : ∀ {l : List PairD}, Rising l → l.filter (fun q => decide (q.key ≤ hi)) = l.takeWhile (fun q => decide (q.key ≤ hi))
  | [], _ => rfl
  | q :: l, h => by
    by_cases hq : q.key ≤ hi
    · simp only [List.filter_cons, List.takeWhile_cons, hq, decide_true, if_true]
      rw [filt_takeWhile hi (List.Pairwise.of_cons h)]
    · simp only [List.filter_cons, List.takeWhile_cons, hq, decide_false, Bool.false_eq_true, if_false]
      rw [List.filter_eq_nil_iff]
      intro x hx
      have := (List.pairwise_cons.1 h).1 x hx
      simp; omega
theorem within_eq {m : List PairD} (h : Rising m) (lo hi most : Int) : withinR m lo hi most = scanL (m.drop (place (keysOf m) lo)) hi most := by
  unfold withinR scanL
  congr 1
  obtain ⟨h1, h2⟩ := take_lt h lo
  have hs : m = m.take (place (keysOf m) lo) ++ m.drop (place (keysOf m) lo) := (List.take_append_drop _ _).symm
  have hr : Rising (m.drop (place (keysOf m) lo)) := List.Pairwise.drop h
  generalize m.take (place (keysOf m) lo) = A at *
  generalize m.drop (place (keysOf m) lo) = B at *
  subst hs
  rw [List.filter_append, List.filter_eq_nil_iff.2 (fun q hq => by have := h1 q hq; simp [withinP]; omega), List.nil_append, ← filt_takeWhile hi hr]
  exact List.filter_congr (fun q hq => by have := h2 q hq; simp only [withinP, decide_eq_decide]; omega)
theorem res_eq {m : List PairD} (h : Rising m) {o : OpD} (ho : o.right = true) {r : Int × Int × List PairD} (hr : ResR m o r) : r = resOf m o := by
  unfold ResR at hr
  unfold resOf
  rw [if_neg (by rw [ho]; simp)]
  split at hr
  · rename_i h4
    rw [if_pos h4, hr, within_eq h]
  · rename_i h4
    rw [if_neg h4]
    rcases hr with ⟨h1, rfl⟩ | ⟨q, hq, hk, rfl⟩
    · simp [toldK, getM, not_at h1]
    · obtain ⟨a1, a2⟩ := has_at (k := q.key) (v := q.val) h (by cases q; exact hq)
      rw [hk] at a1 a2
      simp [toldK, a1, a2]
theorem after_eq {m : List PairD} (h : Rising m) {o : OpD} (ho : o.right = true) : afterR m o = afterM m o := by
  unfold afterR afterM
  simp only [ho, Bool.true_eq_false, if_false]
  rw [putR_eq h, putM_eq h, dropM_eq h]
theorem afterM_rising {m : List PairD} (h : Rising m) (o : OpD) : Rising (afterM m o) := by
  unfold afterM
  split
  · exact h
  · split
    · rw [putM_eq h]; exact putL_rising _ _ _ h
    · split
      · rw [dropM_eq h]; exact dropR_rising h _
      · exact h
def putAll (l : List PairD) : List PairD := l.foldl (fun p q => putR p q.key q.val) []
theorem putAll_go : ∀ (l m : List PairD), Rising m → l.foldl (fun p q => putR p q.key q.val) m = l.foldl (fun p q => putM p q.key q.val) m ∧ Rising (l.foldl (fun p q => putM p q.key q.val) m)
  | [], m, h => ⟨rfl, h⟩
  | x :: l, m, h => by
    simp only [List.foldl_cons]
    rw [putR_eq h, putM_eq h]
    exact putAll_go l _ (putL_rising _ _ _ h)
theorem putAll_eq (l : List PairD) : putAll l = newM l ∧ Rising (newM l) := putAll_go l [] List.Pairwise.nil
theorem putAll_succ {l : List PairD} {j : Nat} {x : PairD} (hx : l[j]? = some x) : putAll (l.take (j + 1)) = putR (putAll (l.take j)) x.key x.val := by
  unfold putAll
  rw [List.take_add_one, hx]; simp
/-- The pairs behind the first operations. -/
def mAt (m : List PairD) (os : List OpD) : List PairD := os.foldl afterM m
theorem mAt_rising : ∀ (os : List OpD) {m : List PairD}, Rising m → Rising (mAt m os)
  | [], _, h => h
  | o :: os, m, h => mAt_rising os (m := afterM m o) (afterM_rising h o)
theorem mAt_succ {m : List PairD} {os : List OpD} {j : Nat} {o : OpD} (h : os[j]? = some o) : mAt m (os.take (j + 1)) = afterM (mAt m (os.take j)) o := by
  unfold mAt
  rw [List.take_add_one, h]; simp
theorem mAt_len : ∀ (os : List OpD) (m : List PairD), (mAt m os).length ≤ m.length + os.length
  | [], m => by simp [mAt]
  | o :: os, m => by have := mAt_len os (afterM m o); have := afterM_len m o; simp only [mAt, List.foldl_cons, List.length_cons] at *; omega
/-- An operation of a slice, read in a world behind. -/
theorem Arr.op {w wr : World} {v : Value} {l : List OpD} (h : Arr w 5 OpD.cells v l) (hb : Below w.heap.size w wr) {j : Nat} {x : OpD} (hx : l[j]? = some x) :
    ∃ b o c, v = .slice (some ⟨b, o, none⟩) l.length c ∧ wr.holds b ∧ wr.cell? ⟨b, o + j * 5, none⟩ = some (.int .i64 x.kind) ∧ wr.cell? ⟨b, o + j * 5 + 1, none⟩ = some (.int .u64 x.key) ∧ wr.cell? ⟨b, o + j * 5 + 2, none⟩ = some (.int .u64 x.val) ∧ wr.cell? ⟨b, o + j * 5 + 3, none⟩ = some (.int .u64 x.high) ∧ wr.cell? ⟨b, o + j * 5 + 4, none⟩ = some (.int .i64 x.most) := by
  obtain ⟨a, c, rfl, _, _, q⟩ := h
  obtain ⟨b, o, rfl, hb1, q⟩ := q j x hx
  have f := fun n u h => (hb.cell (p := ⟨b, o + j * 5 + n, none⟩) hb1).trans (q n u h)
  exact ⟨b, o, c, rfl, Nat.lt_of_lt_of_le hb1 hb.size, f 0 _ rfl, f 1 _ rfl, f 2 _ rfl, f 3 _ rfl, f 4 _ rfl⟩

theorem Arr.kp2 {α : Type} {S : Nat → Prop} {w w' : World} {k : Nat} {enc : α → List Value} {v : Value} {l : List α} (h : Arr w k enc v l) (hk : Kp S w w') (hS : l ≠ [] → ∀ g, v.ownBlock = some g → ¬ S g) : Arr w' k enc v l := by
  by_cases hl : l = []
  · subst hl
    obtain ⟨a, cap, rfl, _, hc, _⟩ := h
    exact Arr.zero _ _ _ _ _ hc
  · exact h.kp hk (hS hl)
theorem Arr.lt {α : Type} {w : World} {k : Nat} {enc : α → List Value} {v : Value} {l : List α} (h : Arr w k enc v l) (hl : l ≠ []) : ∀ g, v.ownBlock = some g → g < w.heap.size := by
  obtain ⟨a, cap, rfl, _, _, q⟩ := h
  obtain ⟨x, l', rfl⟩ := List.exists_cons_of_ne_nil hl
  obtain ⟨b, o, rfl, hb, _⟩ := q 0 x rfl
  intro g hg
  simp [Value.ownBlock] at hg
  subst hg
  exact hb
theorem done_outE {base p : Nat} {kv vv : Value} {m m' : List PairD} {o : OpD} {r : Int × Int × List PairD} (ha : afterM m o = m') (hr : resOf m o = r) {w : World} {e : Ending} {w' : World} (h : DoneO base p kv vv m o w e w') :
    ∃ kv' vv' a c, e = .returned (.agg #[.int .i64 r.1, .int .u64 r.2.1, .slice a r.2.2.length c]) ∧ MapAt base w' p kv' vv' m' ∧ RowP w.heap.size w' (.slice a r.2.2.length c) r.2.2 ∧ Kp (foot p kv vv) w w' ∧ ∀ g, foot p kv' vv' g → foot p kv vv g ∨ w.heap.size ≤ g := by
  subst ha hr; exact h
/-- Apart behind an operation on the map. -/
theorem apart_after {l : List PairD} {w1 w2 : World} {v : Value} {F F' : Nat → Prop} (hA : Arr w1 2 PairD.cells v l) (h1 : l ≠ [] → ∀ g, F g → v.ownBlock ≠ some g) (hf : ∀ g, F' g → F g ∨ w2.heap.size ≤ g) (hs : w1.heap.size ≤ w2.heap.size) :
    l ≠ [] → ∀ g, F' g → v.ownBlock ≠ some g := fun hl g hg e => by
  rcases hf g hg with h | h
  · exact h1 hl g h e
  · have := hA.lt hl g e; omega
theorem apart_new {l l' : List PairD} {B : Nat} {v v' : Value} {F : Nat → Prop} (h1 : l ≠ [] → ∀ g, F g → v.ownBlock ≠ some g) (hF : ∀ g, F g → g < B) (ha : Apart B v v' l l') :
    l' ≠ [] → ∀ g, F g → v'.ownBlock ≠ some g := fun h g hg e => by
  rcases ha with ⟨rfl, rfl⟩ | ha
  · exact h1 h g hg e
  · have := ha g e; have := hF g hg; omega
theorem arr_swap2 {u : World} {A B : Obj} {E3 E4 : Array Obj} {n3 n4 : Nat} {v : Value} {l : List PairD} (h : Arr (((u.alloc A).ext E3 n3).ext E4 n4) 2 PairD.cells v l) (hg : ∀ g, v.ownBlock = some g → ((u.alloc A).ext E3 n3).heap.size ≤ g) :
    Arr (((u.alloc B).ext E3 n3).ext E4 n4) 2 PairD.cells v l := h.of_same (by simp) (fun g _ hv => by
  have := hg g hv
  simp at this
  show ((u.heap.push B ++ E3) ++ E4)[g]? = ((u.heap.push A ++ E3) ++ E4)[g]?
  rw [Array.getElem?_append_right (by simp; omega), Array.getElem?_append_right (by simp; omega)]
  simp)
def OpU (o : OpD) : Prop := 0 ≤ o.key ∧ o.key ≤ 18446744073709551615
theorem afterM_inU {m : List PairD} (hr : Rising m) (h : InU m) {o : OpD} (ho : OpU o) : InU (afterM m o) := by
  unfold afterM
  split
  · exact h
  · split
    · rw [putM_eq hr]
      intro q hq
      rcases putL_mem _ _ _ _ hq with rfl | hq
      · exact ho
      · exact h q hq
    · split
      · rw [dropM_eq hr]
        exact fun q hq => h q (List.mem_filter.1 hq).1
      · exact h
theorem mAt_inU : ∀ (os : List OpD) {m : List PairD}, Rising m → InU m → (∀ o ∈ os, OpU o) → InU (mAt m os)
  | [], _, _, h, _ => h
  | o :: os, m, hr, h, ho => mAt_inU os (m := afterM m o) (afterM_rising hr o) (afterM_inU hr h (ho o (by simp))) (fun x hx => ho x (by simp [hx]))
end Go.Proofs.Ytofhaechpllaoaa
