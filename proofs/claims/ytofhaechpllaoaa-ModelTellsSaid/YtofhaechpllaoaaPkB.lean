/- Contracts of the map of pairs (package model). Contracts of the map's other turns: drop, Get, Len. The plain mathematics of a map as rising pairs: what the model does and what the document says are one. No program in sight. slices.Values over pairs: what a loop over it is handed. slices.Collect over a function that tells pairs. model: the rest. model.New. -/
import Derived.Test.YtofhaechpllaoaaPkA
import Derived.RangeFuncNested
import Derived.RangeFuncBound
import Derived.RangeFuncCalls
import Derived.RangeFuncBox
import Derived.RangeFuncLeaves
import Derived.Shelf.Abstract
import Derived.Shelf.RegionOpen
import Derived.OwnWalkIn
import Derived.TacticsInMore
import Derived.LoopNIn
import Derived.LoopIn
import Derived.Maps.AppendAt
namespace Go.Proofs.Ytofhaechpllaoaa
open Go Go.RowKit

def u64v (x : Int) : Value := .int .u64 x
theorem flat_u64 (l : List Int) : l.flatMap u64c = l.map u64v := by
  induction l with
  | nil => rfl
  | cons x l ih => rw [List.flatMap_cons, ih]; rfl
theorem Arr.of_u64 {w : World} {base : Nat} {v : Value} {l : List Int} (h : w.ownsRow base 22 1 v l.length (l.map u64v)) : Arr w 1 u64c v l :=
  Arr.of_owns (k := 1) u64c_len (by rw [flat_u64]; exact h)

/-- Where a key is looked for among rising keys. -/
def place (ks : List Int) (key : Int) : Nat := bs (passed 1 key) ks 0 ks.length
def isAt (ks : List Int) (key : Int) : Bool := ks[place ks key]? == some key

theorem bs_le (p : Int → Bool) (ks : List Int) (lo hi : Nat) (h : lo ≤ hi) : lo ≤ bs p ks lo hi ∧ bs p ks lo hi ≤ hi := by
  obtain ⟨d, hd⟩ : ∃ d, d = hi - lo := ⟨_, rfl⟩
  induction d using Nat.strongRecOn generalizing lo hi with
  | _ d ih =>
    by_cases hlt : lo < hi
    · rw [bs, dif_pos hlt]
      split
      · have := ih _ (by omega) (lo + (hi - lo) / 2 + 1) hi (by omega) rfl; omega
      · have := ih _ (by omega) lo (lo + (hi - lo) / 2) (by omega) rfl; omega
    · rw [bs_done _ _ hlt]; omega
theorem place_le (ks : List Int) (key : Int) : place ks key ≤ ks.length := (bs_le _ _ _ _ (Nat.zero_le _)).2

set_option maxRecDepth 100000 in
theorem find_any (p : Nat) (key : Int) (kv : Value) (ks : List Int) (w : World) (hp : w.cell? ⟨p, 0, none⟩ = some kv) (hph : w.holds p) (hk : Arr w 1 u64c kv ks) (hmax : ks.length ≤ 1000000000) :
    Calls Try.prog 47 #[.pointer (some ⟨p, 0, none⟩), .int .u64 key] w fun e w' => e = .returned (.tuple #[.int .i64 (place ks key), .bool (isAt ks key)]) ∧ Below w.heap.size w w' := by
  have hpl := place_le ks key
  have H := seek_of 1 key kv ks w (.inl rfl) hk (by omega)
  have hk2 := hk
  obtain ⟨a, cap, rfl, hl, hc, q⟩ := hk
  change Calls _ _ _ _ fun e w' => e = .returned (.int .i64 (place ks key)) ∧ _ at H
  by_cases hlt : place ks key < ks.length
  · obtain ⟨b, o, rfl, hb, q⟩ := q _ _ (List.getElem?_eq_getElem hlt)
    have e0 := q 0 _ rfl
    have hat : isAt ks key = (ks[place ks key] == key) := by
      unfold isAt; rw [List.getElem?_eq_getElem hlt]; rfl
    rw [hat]
    simp only [Nat.mul_one, Nat.add_zero] at e0
    generalize hx : ks[place ks key] = x at *
    generalize hpl2 : place ks key = i at *
    clear hx hpl2 q hat
    go_enter Try.func47, Try.ntmps47
    go_wp2_with (go_at_call 54; refine H.mono ?_; rintro e w' ⟨rfl, hbx⟩; obtain ⟨E, nx, rfl⟩ := below_ext hbx; clear hbx)
    go_quiet (fail)
    go_wp2
    go_ret2
    exact ⟨rfl, (by ((repeat' (first | exact Below.refl _ _ | assumption | (refine Below_alloc ?_ ?_ _) | (refine Below_ext ?_ ?_ _ _) | (refine Below_setCell ?_ _ _ _ ?_) | apply Below.drew | refine Below_drewN ?_ _)) <;> first | done | (simp; done) | (simp; omega)))⟩
  · have hat : isAt ks key = false := by
      unfold isAt; rw [List.getElem?_eq_none (by omega)]; rfl
    rw [hat]
    generalize hpl2 : place ks key = i at *
    clear hpl2 q hat hk2
    have hd : decide ((i : Int) < (ks.length : Int)) = false := decide_eq_false (by omega)
    go_enter Try.func47, Try.ntmps47
    go_wp2_with (go_at_call 54; refine H.mono ?_; rintro e w' ⟨rfl, hbx⟩; obtain ⟨E, nx, rfl⟩ := below_ext hbx; clear hbx)
    go_quiet (fail)
    go_wp2
    go_ret2
    exact ⟨rfl, (by ((repeat' (first | exact Below.refl _ _ | assumption | (refine Below_alloc ?_ ?_ _) | (refine Below_ext ?_ ?_ _ _) | (refine Below_setCell ?_ _ _ _ ?_) | apply Below.drew | refine Below_drewN ?_ _)) <;> first | done | (simp; done) | (simp; omega)))⟩

def keysV (m : List PairD) : List Value := m.map fun q => u64v q.key
def valsV (m : List PairD) : List Value := m.map fun q => u64v q.val
def keysOf (m : List PairD) : List Int := m.map (·.key)
theorem keysV_eq (m : List PairD) : keysV m = (keysOf m).map u64v := by simp [keysV, keysOf]
def foot (p : Nat) (kv vv : Value) (g : Nat) : Prop := g = p ∨ kv.ownBlock = some g ∨ vv.ownBlock = some g

/-- A map that lies in memory of the call's own: its struct in block p, its keys and its values in rows of their own. -/
structure MapAt (base : Nat) (w : World) (p : Nat) (kv vv : Value) (m : List PairD) : Prop where
  hb : base ≤ p
  hp : w.heap[p]? = some (.cells #[kv, vv] 68 (0, 0))
  hk : w.ownsRow base 22 1 kv m.length (keysV m)
  hv : w.ownsRow base 22 1 vv m.length (valsV m)
  kp : kv.ownBlock ≠ some p
  vp : vv.ownBlock ≠ some p
  kvp : ∀ g, kv.ownBlock = some g → vv.ownBlock ≠ some g

def putM (m : List PairD) (k v : Int) : List PairD :=
  if isAt (keysOf m) k then m.set (place (keysOf m) k) ⟨k, v⟩ else m.take (place (keysOf m) k) ++ ⟨k, v⟩ :: m.drop (place (keysOf m) k)
def dropM (m : List PairD) (k : Int) : List PairD := if isAt (keysOf m) k then m.eraseIdx (place (keysOf m) k) else m

/-- What a turn of a map leaves. -/
def Turned (base p : Nat) (kv vv : Value) (m' : List PairD) (w : World) (e : Ending) (w' : World) : Prop :=
  e = .returned (.tuple #[]) ∧ ∃ kv' vv', MapAt base w' p kv' vv' m' ∧ Kp (foot p kv vv) w w' ∧ ∀ g, foot p kv' vv' g → foot p kv vv g ∨ w.heap.size ≤ g

theorem block_lt {w : World} {g : Nat} {o : Obj} (h : w.heap[g]? = some o) : g < w.heap.size := by
  rcases Nat.lt_or_ge g w.heap.size with hlt | hge
  · exact hlt
  · rw [Array.getElem?_eq_none hge] at h; cases h
theorem owns_at {w w' : World} {base e size n : Nat} {v : Value} {xs : List Value} (h : w.ownsRow base e size v n xs) (hb : ∀ g, v.ownBlock = some g → w'.heap[g]? = w.heap[g]?) : w'.ownsRow base e size v n xs := by
  refine ⟨h.1, h.2.imp id ?_⟩
  rintro ⟨g, cap, cur, rfl, h2, h3, h4⟩
  exact ⟨g, cap, cur, rfl, h2, by rw [hb g rfl]; exact h3, h4⟩
theorem owns_lt {w : World} {base e size n : Nat} {v : Value} {xs : List Value} (h : w.ownsRow base e size v n xs) {g : Nat} (hg : v.ownBlock = some g) : g < w.heap.size ∧ base ≤ g := by
  rcases h.2 with ⟨rfl, _⟩ | ⟨g', cap, cur, rfl, h2, h3, _⟩
  · cases hg
  · cases hg; exact ⟨block_lt h3, h2⟩
theorem owns_ext {w : World} {base e size n : Nat} {v : Value} {xs : List Value} (h : w.ownsRow base e size v n xs) (E : Array Obj) (k : Nat) : (w.ext E k).ownsRow base e size v n xs :=
  owns_at h fun g hg => ext_heap w E k g (owns_lt h hg).1
theorem Kp.cell {S : Nat → Prop} {w w' : World} (h : Kp S w w') {b : Nat} (hb : w.holds b) (hS : ¬ S b) (o : Nat) : w'.cell? ⟨b, o, none⟩ = w.cell? ⟨b, o, none⟩ := World.cell?_of_block (w := w) (h.block b hb hS)
theorem Kp.frozen {S : Nat → Prop} {w w' : World} (h : Kp S w w') {b : Nat} (hb : w.holds b) (hS : ¬ S b) (o : Nat) : w'.frozen? ⟨b, o, none⟩ = w.frozen? ⟨b, o, none⟩ := World.frozen?_of_block (w := w) (h.block b hb hS)
theorem Kp.holds {S : Nat → Prop} {w w' : World} (h : Kp S w w') {b : Nat} (hb : w.holds b) : w'.holds b := Nat.lt_of_lt_of_le hb h.size
theorem MapAt.kp_of {S : Nat → Prop} {base : Nat} {w w' : World} {p : Nat} {kv vv : Value} {m : List PairD} (h : MapAt base w p kv vv m) (hk : Kp S w w') (hS : ∀ g, foot p kv vv g → ¬ S g) : MapAt base w' p kv vv m :=
  ⟨h.hb, by rw [hk.block p (block_lt h.hp) (hS p (.inl rfl))]; exact h.hp, owns_at h.hk fun g hg => hk.block g (owns_lt h.hk hg).1 (hS g (.inr (.inl hg))),
    owns_at h.hv fun g hg => hk.block g (owns_lt h.hv hg).1 (hS g (.inr (.inr hg))), h.kp, h.vp, h.kvp⟩
theorem MapAt.foot_lt {base : Nat} {w : World} {p : Nat} {kv vv : Value} {m : List PairD} (h : MapAt base w p kv vv m) {g : Nat} (hg : foot p kv vv g) : g < w.heap.size ∧ base ≤ g := by
  rcases hg with rfl | hg | hg
  · exact ⟨block_lt h.hp, h.hb⟩
  · exact owns_lt h.hk hg
  · exact owns_lt h.hv hg
theorem MapAt.below {base : Nat} {w w' : World} {p : Nat} {kv vv : Value} {m : List PairD} (h : MapAt base w p kv vv m) (hb : Below w.heap.size w w') : MapAt base w' p kv vv m :=
  h.kp_of (S := fun _ => False) (.of_below hb) fun _ _ => id
theorem MapAt.ext {base : Nat} {w : World} {p : Nat} {kv vv : Value} {m : List PairD} (h : MapAt base w p kv vv m) (E : Array Obj) (n : Nat) : MapAt base (w.ext E n) p kv vv m := h.below (below_of_ext w E n)
theorem MapAt.drew {base : Nat} {w : World} {p : Nat} {kv vv : Value} {m : List PairD} (h : MapAt base w p kv vv m) : MapAt base w.drew p kv vv m := ⟨h.hb, h.hp, h.hk, h.hv, h.kp, h.vp, h.kvp⟩
theorem MapAt.alloc {base : Nat} {w : World} {p : Nat} {kv vv : Value} {m : List PairD} (h : MapAt base w p kv vv m) (o : Obj) : MapAt base (w.alloc o) p kv vv m := h.below (Joins.below_alloc1 w o)
theorem MapAt.find {base : Nat} {w : World} {p : Nat} {kv vv : Value} {m : List PairD} (h : MapAt base w p kv vv m) (key : Int) (hmax : m.length ≤ 1000000000) :
    Calls Try.prog 47 #[.pointer (some ⟨p, 0, none⟩), .int .u64 key] w fun e w' => e = .returned (.tuple #[.int .i64 (place (keysOf m) key), .bool (isAt (keysOf m) key)]) ∧ Below w.heap.size w w' :=
  find_any p key kv (keysOf m) w (by simp [World.cell?, h.hp]) (block_lt h.hp) (Arr.of_u64 (base := base) (by have := h.hk; rwa [keysV_eq, show m.length = (keysOf m).length from by simp [keysOf]] at this)) (by simpa [keysOf] using hmax)

theorem isAt_lt {ks : List Int} {k : Int} (h : isAt ks k = true) : place ks k < ks.length := by
  unfold isAt at h
  rcases Nat.lt_or_ge (place ks k) ks.length with h1 | h1
  · exact h1
  · rw [List.getElem?_eq_none h1] at h; cases h

theorem isAt_key {m : List PairD} {k : Int} (h : isAt (keysOf m) k = true) : (m[place (keysOf m) k]?).map (·.key) = some k := by
  unfold isAt at h
  have := eq_of_beq h
  rwa [keysOf, List.getElem?_map] at this
theorem keysV_set {m : List PairD} {k : Int} (h : isAt (keysOf m) k = true) (v : Int) : keysV (m.set (place (keysOf m) k) ⟨k, v⟩) = keysV m := by
  have hk := isAt_key h
  generalize place (keysOf m) k = i at *
  apply List.ext_getElem?
  intro j
  simp only [keysV, List.getElem?_map, List.getElem?_set]
  by_cases hj : i = j
  · subst hj
    cases hm : m[i]? with
    | none => simp [hm] at hk
    | some q =>
      rw [hm] at hk; simp at hk
      have := (List.getElem?_eq_some_iff.1 hm).1
      simp [this, hk]
  · simp [hj]
theorem kp_setCell (w : World) (g o : Nat) (v : Value) : Kp (fun k => k = g) w (w.setCell ⟨g, o, none⟩ v) :=
  ⟨rfl, rfl, rfl, by simp, fun k _ hk => Below.heap_setCell w ⟨g, o, none⟩ v k hk⟩
theorem Kp.ext {S : Nat → Prop} {w w' : World} (h : Kp S w w') (E : Array Obj) (n : Nat) : Kp S w (w'.ext E n) :=
  h.trans (T := fun _ => False) (.of_below (below_of_ext w' E n)) (fun _ _ h => h.elim)

theorem keysV_cell {w : World} {g : Nat} {m : List PairD} (cur : Array Value) (hcur : w.heap[g]? = some (.cells cur 22 (0, 0))) (htk : cur.toList.take (m.length * 1) = keysV m) {i : Nat} {q : PairD} (hq : m[i]? = some q) : w.cell? ⟨g, i, none⟩ = some (.int .u64 q.key) := by
  have h1 : (keysV m)[i]? = some (u64v q.key) := by rw [keysV, List.getElem?_map, hq]; rfl
  rw [← htk, List.getElem?_take] at h1
  split at h1
  · simpa [World.cell?, hcur, u64v] using h1
  · cases h1

theorem valsV_cell {w : World} {g : Nat} {m : List PairD} (cur : Array Value) (hcur : w.heap[g]? = some (.cells cur 22 (0, 0))) (htk : cur.toList.take (m.length * 1) = valsV m) {i : Nat} {q : PairD} (hq : m[i]? = some q) : w.cell? ⟨g, i, none⟩ = some (.int .u64 q.val) := by
  have h1 : (valsV m)[i]? = some (u64v q.val) := by rw [valsV, List.getElem?_map, hq]; rfl
  rw [← htk, List.getElem?_take] at h1
  split at h1
  · simpa [World.cell?, hcur, u64v] using h1
  · cases h1

set_option maxRecDepth 100000 in
theorem put_at (base p : Nat) (kv vv : Value) (m : List PairD) (k v : Int) (w : World) (h : MapAt base w p kv vv m) (hmax : m.length ≤ 1000000000) (his : isAt (keysOf m) k = true) :
    Calls Try.prog 42 #[.pointer (some ⟨p, 0, none⟩), .int .u64 k, .int .u64 v] w (Turned base p kv vv (putM m k v) w) := by
  have hlt := isAt_lt his
  have hpl : place (keysOf m) k < m.length := by simpa [keysOf] using hlt
  have H := h.find k hmax
  have hks := keysV_set his v
  obtain ⟨a, cap, hvv, hc1, hc2, h3⟩ := owns_shape h.hv
  rcases h3 with ⟨_, h0, _⟩ | ⟨g, cur, rfl, hbg, hg, hcur, hsz, htk⟩
  · omega
  have hput : putM m k v = m.set (place (keysOf m) k) ⟨k, v⟩ := by rw [putM, if_pos his]
  rw [his] at H
  rw [hput]
  clear hput his hlt
  generalize place (keysOf m) k = i at *
  subst hvv
  have hp1 : w.cell? ⟨p, 1, none⟩ = some (.slice (some ⟨g, 0, none⟩) m.length cap) := by simp [World.cell?, h.hp]
  have hph : w.holds p := block_lt h.hp
  have hgh : w.holds g := hg
  have hgc := valsV_cell cur hcur htk (List.getElem?_eq_getElem hpl)
  have hgf : w.frozen? ⟨g, i, none⟩ = false := by simp [World.frozen?, hcur]
  have hpg : p ≠ g := fun e => h.vp (by rw [e]; rfl)
  have hfin : ∀ E n, Turned base p kv (.slice (some ⟨g, 0, none⟩) m.length cap) (m.set i ⟨k, v⟩) w (.returned (.tuple #[])) ((w.setCell ⟨g, i, none⟩ (.int .u64 v)).ext E n) := fun E n => by
    have hkp := kp_setCell w g i (.int .u64 v)
    refine ⟨rfl, kv, _, MapAt.ext ⟨h.hb, ?_, ?_, ?_, h.kp, h.vp, h.kvp⟩ E n, (hkp.weaken (fun j hj => .inr (.inr (by rw [hj]; rfl)))).ext E n, fun j hj => .inl hj⟩
    · rw [hkp.block p hph hpg]; exact h.hp
    · rw [hks, List.length_set]
      exact owns_at h.hk fun j hj => hkp.block j (owns_lt h.hk hj).1 (fun e => h.kvp j hj (by rw [e]; rfl))
    · rw [List.length_set]
      refine ⟨by simp [valsV], .inr ⟨g, cap, cur.setIfInBounds i (.int .u64 v), rfl, hbg, Joins.block_setCell hcur _, hc1, by unfold maxLen; exact hc2, by simp [hsz], ?_⟩⟩
      have : valsV (m.set i ⟨k, v⟩) = (valsV m).set i (u64v v) := by simp [valsV, List.map_set]
      rw [this, ← htk]
      simp [List.take_set, u64v]
  clear hks h hcur hsz htk hpg
  go_enter Try.func42, Try.ntmps42
  go_wp2_with (go_at_call 47; refine H.mono ?_; rintro e w' ⟨rfl, hbx⟩; obtain ⟨E, nx, rfl⟩ := below_ext hbx; clear hbx)
  go_end0
  exact hfin _ _


theorem keysV_one (m : List PairD) : ∀ u ∈ keysV m, u.oneCell' = true := by
  intro u hu
  obtain ⟨q, _, rfl⟩ := List.mem_map.1 hu
  rfl
theorem valsV_one (m : List PairD) : ∀ u ∈ valsV m, u.oneCell' = true := by
  intro u hu
  obtain ⟨q, _, rfl⟩ := List.mem_map.1 hu
  rfl
theorem heap_lt_ext {w : World} {E : Array Obj} {n k : Nat} {o : Obj} (h : w.heap[k]? = some o) : (w.ext E n).heap[k]? = some o := by rw [ext_heap w E n k (block_lt h)]; exact h
theorem heap_lt_alloc {w : World} {k : Nat} {o o' : Obj} (h : w.heap[k]? = some o) : (w.alloc o').heap[k]? = some o := by rw [Below.heap_alloc w o' k (block_lt h)]; exact h
theorem heap_lt_drew {w : World} {k : Nat} {o : Obj} (h : w.heap[k]? = some o) : (w.drew).heap[k]? = some o := h
theorem heap_at_alloc {w : World} {k : Nat} {o : Obj} (h : k = w.heap.size) : (w.alloc o).heap[k]? = some o := by rw [h]; exact heap_alloc_new w o

/-- Insertion of one value into a row of the call's own, with what it leaves. -/
theorem insert_row {base : Nat} {v : Value} {xs : List Value} {i : Nat} {x : Value} {vb : Nat} {w : World} (hx1 : x.oneCell' = true) (h1 : ∀ u ∈ xs, u.oneCell' = true) (hown : w.ownsRow base 22 1 v xs.length xs)
    (hvb : w.heap[vb]? = some (.cells #[x] 22 (0, 0))) (hne : ∀ g, v.ownBlock = some g → vb ≠ g) (hbase : base ≤ w.heap.size) (hmax : xs.length ≤ 1000000000) (hi : i ≤ xs.length) :
    Calls Try.prog 51 #[v, .int .i64 i, .slice (some ⟨vb, 0, none⟩) 1 1] w fun e w' => ∃ g cap, e = .returned (.slice (some ⟨g, 0, none⟩) (xs.length + 1) cap) ∧
      w'.ownsRow base 22 1 (.slice (some ⟨g, 0, none⟩) (xs.length + 1) cap) (xs.length + 1) (insAt xs i x) ∧ Kp (fun g => v.ownBlock = some g) w w' ∧ (v.ownBlock = some g ∨ w.heap.size ≤ g) := by
  refine (insert_any base v xs i x vb w hx1 h1 hown hvb hne hbase hmax hi).mono ?_
  rintro e w' ⟨v', rfl, hown', hkp, hw⟩
  obtain ⟨g, cap, rfl, _, _⟩ := hown'.form (by omega)
  refine ⟨g, cap, rfl, hown', hkp, ?_⟩
  rcases hw with h | ⟨g', h, hg⟩
  · exact .inl (by rw [← h]; rfl)
  · cases h; exact .inr hg


theorem MapAt.insK {base : Nat} {w0 : World} {p : Nat} {kv vv : Value} {m : List PairD} {i : Nat} {k : Int} (h : MapAt base w0 p kv vv m) (hmax : m.length ≤ 100000000) (hi : i ≤ m.length)
    {w : World} {vb : Nat} (hb : Below w0.heap.size w0 w) (hvb : w.heap[vb]? = some (.cells #[.int .u64 k] 22 (0, 0))) (hnew : w0.heap.size ≤ vb) :
    Calls Try.prog 51 #[kv, .int .i64 i, .slice (some ⟨vb, 0, none⟩) 1 1] w fun e w' => ∃ g cap, e = .returned (.slice (some ⟨g, 0, none⟩) (m.length + 1) cap) ∧
      w'.ownsRow base 22 1 (.slice (some ⟨g, 0, none⟩) (m.length + 1) cap) (m.length + 1) (insAt (keysV m) i (.int .u64 k)) ∧ Kp (fun g => kv.ownBlock = some g) w w' ∧ (kv.ownBlock = some g ∨ w.heap.size ≤ g) := by
  have hm := h.below hb
  have hkl : (keysV m).length = m.length := by simp [keysV]
  have := insert_row (base := base) (v := kv) (xs := keysV m) (i := i) (x := .int .u64 k) (vb := vb) (w := w) rfl (keysV_one m) (by rw [hkl]; exact hm.hk) hvb
    (fun g hg => by have := (owns_lt h.hk hg).1; omega) (by have := hm.hb; have := block_lt hm.hp; omega) (by omega) (by omega)
  rw [hkl] at this
  exact this
theorem MapAt.insV {base : Nat} {w0 : World} {p : Nat} {kv vv : Value} {m : List PairD} {i : Nat} {k : Int} (h : MapAt base w0 p kv vv m) (hmax : m.length ≤ 100000000) (hi : i ≤ m.length)
    {w : World} {vb : Nat} (hb : Kp (fun g => kv.ownBlock = some g) w0 w) (hvb : w.heap[vb]? = some (.cells #[.int .u64 k] 22 (0, 0))) (hnew : w0.heap.size ≤ vb) :
    Calls Try.prog 51 #[vv, .int .i64 i, .slice (some ⟨vb, 0, none⟩) 1 1] w fun e w' => ∃ g cap, e = .returned (.slice (some ⟨g, 0, none⟩) (m.length + 1) cap) ∧
      w'.ownsRow base 22 1 (.slice (some ⟨g, 0, none⟩) (m.length + 1) cap) (m.length + 1) (insAt (valsV m) i (.int .u64 k)) ∧ Kp (fun g => vv.ownBlock = some g) w w' ∧ (vv.ownBlock = some g ∨ w.heap.size ≤ g) := by
  have hv : w.ownsRow base 22 1 vv m.length (valsV m) := owns_at h.hv fun g hg => hb.block g (owns_lt h.hv hg).1 (fun hk => h.kvp g hk hg)
  have hkl : (valsV m).length = m.length := by simp [valsV]
  have := insert_row (base := base) (v := vv) (xs := valsV m) (i := i) (x := .int .u64 k) (vb := vb) (w := w) rfl (valsV_one m) (by rw [hkl]; exact hv) hvb
    (fun g hg => by have := (owns_lt h.hv hg).1; omega) (by have := h.hb; have := block_lt h.hp; have := hb.size; omega) (by omega) (by omega)
  rw [hkl] at this
  exact this
/-- What stands of the struct's block behind a call that turned another row. -/
theorem Kp.alloc {S : Nat → Prop} {w w' : World} (h : Kp S w w') (o : Obj) : Kp S w (w'.alloc o) :=
  h.trans (T := fun _ => False) (.of_below (Joins.below_alloc1 w' o)) (fun _ _ h => h.elim)
theorem Kp.drew {S : Nat → Prop} {w w' : World} (h : Kp S w w') : Kp S w w'.drew := ⟨h.os, h.tape, h.output, h.size, h.block⟩
theorem Kp.cells {S : Nat → Prop} {w w' : World} (h : Kp S w w') {b : Nat} (hb : w.holds b) (hS : ¬ S b) : (∀ o, w'.cell? ⟨b, o, none⟩ = w.cell? ⟨b, o, none⟩) ∧ (∀ o, w'.frozen? ⟨b, o, none⟩ = w.frozen? ⟨b, o, none⟩) ∧ w'.holds b :=
  ⟨fun o => h.cell hb hS o, fun o => h.frozen hb hS o, h.holds hb⟩

theorem MapAt.newK {base : Nat} {w : World} {p : Nat} {kv vv : Value} {m : List PairD} (h : MapAt base w p kv vv m) {n : Nat} (hn : w.heap.size ≤ n) : ¬ kv.ownBlock = some n := fun e => by
  have := (owns_lt h.hk e).1; omega

/-- The map behind both rows' turns and the two stores into its struct. -/
theorem MapAt.turned {base : Nat} {w0 w1 w2 : World} {p : Nat} {kv vv : Value} {m m' : List PairD} (h : MapAt base w0 p kv vv m) {g1 c1 g2 c2 n : Nat} {ks vs : List Value} (hn : m'.length = n) (hks : keysV m' = ks) (hvs : valsV m' = vs)
    (k1 : Kp (fun g => kv.ownBlock = some g) w0 w1) (k2 : Kp (fun g => vv.ownBlock = some g) w1 w2)
    (o1 : w1.ownsRow base 22 1 (.slice (some ⟨g1, 0, none⟩) n c1) n ks) (o2 : w2.ownsRow base 22 1 (.slice (some ⟨g2, 0, none⟩) n c2) n vs)
    (n1 : kv.ownBlock = some g1 ∨ w0.heap.size ≤ g1) (n2 : vv.ownBlock = some g2 ∨ w1.heap.size ≤ g2) (hbw : base ≤ w0.heap.size) :
    Turned base p kv vv m' w0 (.returned (.tuple #[])) ((w2.setCell ⟨p, 0, none⟩ (.slice (some ⟨g1, 0, none⟩) n c1)).setCell ⟨p, 1, none⟩ (.slice (some ⟨g2, 0, none⟩) n c2)) := by
  subst hn hks hvs
  have hp : p < w0.heap.size := block_lt h.hp
  have hp1 : w1.heap[p]? = some (.cells #[kv, vv] 68 (0, 0)) := by rw [k1.block p hp h.kp]; exact h.hp
  have hp2 : w2.heap[p]? = some (.cells #[kv, vv] 68 (0, 0)) := by rw [k2.block p (block_lt hp1) h.vp]; exact hp1
  have hg1 : g1 < w1.heap.size := (owns_lt o1 rfl).1
  have hg2 : g2 < w2.heap.size := (owns_lt o2 rfl).1
  have hg1p : g1 ≠ p := by
    rcases n1 with n | n
    · exact fun e => h.kp (by rw [← e]; exact n)
    · omega
  have hg2p : g2 ≠ p := by
    have := k1.size
    rcases n2 with n | n
    · exact fun e => h.vp (by rw [← e]; exact n)
    · omega
  have hg12 : vv.ownBlock ≠ some g1 := by
    rcases n1 with n | n
    · exact h.kvp g1 n
    · intro e; have := (owns_lt h.hv e).1; omega
  have hg21 : g1 ≠ g2 := by
    rcases n2 with n | n
    · exact fun e => hg12 (by rw [e]; exact n)
    · omega
  have k3 := kp_setCell w2 p 0 (.slice (some ⟨g1, 0, none⟩) m'.length c1)
  have k4 := kp_setCell (w2.setCell ⟨p, 0, none⟩ (.slice (some ⟨g1, 0, none⟩) m'.length c1)) p 1 (.slice (some ⟨g2, 0, none⟩) m'.length c2)
  have k34 := k3.trans k4 (fun _ _ h => h)
  have hh := Joins.block_setCell (i := 1) (Joins.block_setCell (i := 0) hp2 (.slice (some ⟨g1, 0, none⟩) m'.length c1)) (.slice (some ⟨g2, 0, none⟩) m'.length c2)
  refine ⟨rfl, _, _, ⟨h.hb, hh, ?_, ?_, ?_, ?_, ?_⟩, ?_, ?_⟩
  · exact owns_at (w := w2) (owns_at o1 fun g hg => by cases hg; exact k2.block g1 hg1 hg12) fun g hg => by cases hg; exact k34.block g1 (Nat.lt_of_lt_of_le hg1 k2.size) hg1p
  · exact owns_at o2 fun g hg => by cases hg; exact k34.block g2 hg2 hg2p
  · intro e; cases e; exact hg1p rfl
  · intro e; cases e; exact hg2p rfl
  · intro g e1 e2; cases e1; cases e2; exact hg21 rfl
  · exact (((k1.weaken (T := foot p kv vv) fun _ h => .inr (.inl h)).trans k2 (fun _ _ h => .inr (.inr h))).trans k34 (fun _ _ h => .inl h))
  · rintro g (rfl | e | e)
    · exact .inl (.inl rfl)
    · cases e
      exact n1.elim (fun n => .inl (.inr (.inl n))) .inr
    · cases e
      have := k1.size
      exact n2.elim (fun n => .inl (.inr (.inr n))) (fun n => .inr (by show w0.heap.size ≤ g2; omega))


/-- What is known behind the first of the two calls. -/
theorem MapAt.after1 {base : Nat} {w W1 w1 : World} {p : Nat} {kv vv : Value} {m : List PairD} (h : MapAt base w p kv vv m) (hb : Below w.heap.size w W1) (hkp : Kp (fun g => kv.ownBlock = some g) W1 w1) :
    (∀ o, w1.cell? ⟨p, o, none⟩ = w.cell? ⟨p, o, none⟩) ∧ (∀ o, w1.frozen? ⟨p, o, none⟩ = w.frozen? ⟨p, o, none⟩) ∧ w1.holds p ∧ Kp (fun g => kv.ownBlock = some g) w w1 := by
  have k := (Kp.of_below (S := fun g => kv.ownBlock = some g) hb).trans hkp (fun _ _ h => h)
  obtain ⟨a, b, c⟩ := k.cells (b := p) (block_lt h.hp) h.kp
  exact ⟨a, b, c, k⟩
/-- .. and behind the second one. -/
theorem MapAt.after2 {base : Nat} {w W1 w1 : World} {p : Nat} {kv vv : Value} {m : List PairD} (h : MapAt base w p kv vv m) (hb : Kp (fun g => kv.ownBlock = some g) w W1) (hkp : Kp (fun g => vv.ownBlock = some g) W1 w1) :
    (∀ o, w1.cell? ⟨p, o, none⟩ = w.cell? ⟨p, o, none⟩) ∧ (∀ o, w1.frozen? ⟨p, o, none⟩ = w.frozen? ⟨p, o, none⟩) ∧ w1.holds p ∧ Kp (fun g => kv.ownBlock = some g ∨ vv.ownBlock = some g) w w1 := by
  have k := (hb.weaken (T := fun g => kv.ownBlock = some g ∨ vv.ownBlock = some g) (fun _ => .inl)).trans hkp (fun _ _ => .inr)
  obtain ⟨a, b, c⟩ := k.cells (b := p) (block_lt h.hp) (fun e => e.elim h.kp h.vp)
  exact ⟨a, b, c, k⟩

set_option maxRecDepth 100000 in
set_option maxHeartbeats 4000000 in
theorem put_new (base p : Nat) (kv vv : Value) (m : List PairD) (k v : Int) (w : World) (h : MapAt base w p kv vv m) (hmax : m.length ≤ 100000000) (his : isAt (keysOf m) k = false) :
    Calls Try.prog 42 #[.pointer (some ⟨p, 0, none⟩), .int .u64 k, .int .u64 v] w (Turned base p kv vv (putM m k v) w) := by
  have hpl : place (keysOf m) k ≤ m.length := by have := place_le (keysOf m) k; simpa [keysOf] using this
  have H := h.find k (by omega)
  have hput : putM m k v = m.take (place (keysOf m) k) ++ ⟨k, v⟩ :: m.drop (place (keysOf m) k) := by simp [putM, his]
  rw [his] at H
  rw [hput]
  clear hput his
  generalize place (keysOf m) k = i at *
  have hp0 : w.cell? ⟨p, 0, none⟩ = some kv := by simp [World.cell?, h.hp]
  have hp1 : w.cell? ⟨p, 1, none⟩ = some vv := by simp [World.cell?, h.hp]
  have hph : w.holds p := block_lt h.hp
  have hpf0 : w.frozen? ⟨p, 0, none⟩ = false := by simp [World.frozen?, h.hp]
  have hpf1 : w.frozen? ⟨p, 1, none⟩ = false := by simp [World.frozen?, h.hp]
  go_enter Try.func42, Try.ntmps42
  go_wp2_with (go_at_call 47; refine H.mono ?_; rintro e w' ⟨rfl, hbx⟩; obtain ⟨E, nx, rfl⟩ := below_ext hbx; clear hbx)
  have hml : (m.take i ++ ⟨k, v⟩ :: m.drop i : List PairD).length = m.length + 1 := by simp; omega
  have hmk : keysV (m.take i ++ ⟨k, v⟩ :: m.drop i) = insAt (keysV m) i (.int .u64 k) := by simp [keysV, insAt, u64v, List.map_take, List.map_drop]
  have hmv : valsV (m.take i ++ ⟨k, v⟩ :: m.drop i) = insAt (valsV m) i (.int .u64 v) := by simp [valsV, insAt, u64v, List.map_take, List.map_drop]
  have hbase : base ≤ w.heap.size := by have := h.hb; have : p < w.heap.size := hph; omega
  have HH := Lib.hid h
  clear H h
  have hS : HeldTill [(9, fun w' => w'.cell? ⟨p, 0, none⟩ = some kv), (17, fun w' => w'.cell? ⟨p, 1, none⟩ = some vv)] (Array.replicate 24 false) (w.ext E nx).drew := by
    intro x hx _
    rcases List.mem_cons.1 hx with rfl | hx
    · show World.cell? _ _ = _; go_simp
    · rcases List.mem_cons.1 hx with rfl | hx
      · show World.cell? _ _ = _; go_simp
      · cases hx
  refine wp_region_S [(9, fun w' => w'.cell? ⟨p, 0, none⟩ = some kv), (17, fun w' => w'.cell? ⟨p, 1, none⟩ = some vv)] (by kernel_rfl) ?_
  ((refine wpAnyS_take (i := 0) (v := ?_) rfl (by kernel_rfl) (by kernel_rfl) (by kernel_rfl) (by kernel_rfl) (by kernel_rfl) (by kernel_rfl) (fun _ _ _ h => h) hS (Or.inl ⟨by kernel_rfl, ?_⟩) (fun hS1 => ?_); rotate_left; (focus (intro w _; go_simp; first | done | with_reducible rfl)); clear hS; have hS := hS1; clear hS1); (refine wpAnyS_take (i := 1) (v := ?_) rfl (by kernel_rfl) (by kernel_rfl) (by kernel_rfl) (by kernel_rfl) (by kernel_rfl) (by kernel_rfl) (fun _ _ _ h => h) hS (Or.inl ⟨by kernel_rfl, ?_⟩) (fun hS1 => ?_); rotate_left; (focus (intro w _; go_simp; first | done | with_reducible rfl)); clear hS; have hS := hS1; clear hS1); (refine wpAnyS_take (i := 2) (v := ?_) rfl (by kernel_rfl) (by kernel_rfl) (by kernel_rfl) (by kernel_rfl) (by kernel_rfl) (by kernel_rfl) (fun _ _ _ h => h) hS (Or.inl ⟨by kernel_rfl, ?_⟩) (fun hS1 => ?_); rotate_left; (focus (intro w _; go_simp; first | done | with_reducible rfl)); clear hS; have hS := hS1; clear hS1); (refine wpAnyS_take (i := 3) (v := ?_) rfl (by kernel_rfl) (by kernel_rfl) (by kernel_rfl) (by kernel_rfl) (by kernel_rfl) (by kernel_rfl) (fun _ _ _ h => h) hS (Or.inl ⟨by kernel_rfl, ?_⟩) (fun hS1 => ?_); rotate_left; (focus (intro w _; go_simp; first | done | with_reducible rfl)); clear hS; have hS := hS1; clear hS1); (refine wpAnyS_take (i := 4) (v := ?_) rfl (by kernel_rfl) (by kernel_rfl) (by kernel_rfl) (by kernel_rfl) (by kernel_rfl) (by kernel_rfl) (fun _ _ _ h => h) hS (Or.inl ⟨by kernel_rfl, ?_⟩) (fun hS1 => ?_); rotate_left; (focus (intro w _; go_simp; first | done | with_reducible rfl)); clear hS; have hS := hS1; clear hS1))
  (refine wpAnyS_load (i := 5) (c := 9) (T := fun w' => w'.cell? ⟨p, 0, none⟩ = some kv) (v := ?_) rfl (by kernel_rfl) (by kernel_rfl) (by kernel_rfl) (by kernel_rfl) (by kernel_rfl) (by kernel_rfl) (by kernel_rfl) (by simp) (fun _ _ _ h => h) hS (Or.inl ⟨by kernel_rfl, ?_⟩) (fun hS1 => ?_); rotate_left; (focus (intro w hT; go_simp; first | done | with_reducible rfl)); clear hS; have hS := hS1; clear hS1)
  ((refine wpAnyS_take (i := 6) (v := ?_) rfl (by kernel_rfl) (by kernel_rfl) (by kernel_rfl) (by kernel_rfl) (by kernel_rfl) (by kernel_rfl) (fun _ _ _ h => h) hS (Or.inl ⟨by kernel_rfl, ?_⟩) (fun hS1 => ?_); rotate_left; (focus (intro w _; go_simp; first | done | with_reducible rfl)); clear hS; have hS := hS1; clear hS1); (refine wpAnyS_take (i := 7) (v := ?_) rfl (by kernel_rfl) (by kernel_rfl) (by kernel_rfl) (by kernel_rfl) (by kernel_rfl) (by kernel_rfl) (fun _ _ _ h => h) hS (Or.inl ⟨by kernel_rfl, ?_⟩) (fun hS1 => ?_); rotate_left; (focus (intro w _; go_simp; first | done | with_reducible rfl)); clear hS; have hS := hS1; clear hS1); (refine wpAnyS_take (i := 10) (v := ?_) rfl (by kernel_rfl) (by kernel_rfl) (by kernel_rfl) (by kernel_rfl) (by kernel_rfl) (by kernel_rfl) (fun _ _ _ h => h) hS (Or.inl ⟨by kernel_rfl, ?_⟩) (fun hS1 => ?_); rotate_left; (focus (intro w _; go_simp; first | done | with_reducible rfl)); clear hS; have hS := hS1; clear hS1); (refine wpAnyS_take (i := 11) (v := ?_) rfl (by kernel_rfl) (by kernel_rfl) (by kernel_rfl) (by kernel_rfl) (by kernel_rfl) (by kernel_rfl) (fun _ _ _ h => h) hS (Or.inl ⟨by kernel_rfl, ?_⟩) (fun hS1 => ?_); rotate_left; (focus (intro w _; go_simp; first | done | with_reducible rfl)); clear hS; have hS := hS1; clear hS1); (refine wpAnyS_take (i := 12) (v := ?_) rfl (by kernel_rfl) (by kernel_rfl) (by kernel_rfl) (by kernel_rfl) (by kernel_rfl) (by kernel_rfl) (fun _ _ _ h => h) hS (Or.inl ⟨by kernel_rfl, ?_⟩) (fun hS1 => ?_); rotate_left; (focus (intro w _; go_simp; first | done | with_reducible rfl)); clear hS; have hS := hS1; clear hS1))
  (refine wpAnyS_load (i := 13) (c := 17) (T := fun w' => w'.cell? ⟨p, 1, none⟩ = some vv) (v := ?_) rfl (by kernel_rfl) (by kernel_rfl) (by kernel_rfl) (by kernel_rfl) (by kernel_rfl) (by kernel_rfl) (by kernel_rfl) (by simp) (fun _ _ _ h => h) hS (Or.inl ⟨by kernel_rfl, ?_⟩) (fun hS1 => ?_); rotate_left; (focus (intro w hT; go_simp; first | done | with_reducible rfl)); clear hS; have hS := hS1; clear hS1)
  ((refine wpAnyS_take (i := 14) (v := ?_) rfl (by kernel_rfl) (by kernel_rfl) (by kernel_rfl) (by kernel_rfl) (by kernel_rfl) (by kernel_rfl) (fun _ _ _ h => h) hS (Or.inl ⟨by kernel_rfl, ?_⟩) (fun hS1 => ?_); rotate_left; (focus (intro w _; go_simp; first | done | with_reducible rfl)); clear hS; have hS := hS1; clear hS1); (refine wpAnyS_take (i := 15) (v := ?_) rfl (by kernel_rfl) (by kernel_rfl) (by kernel_rfl) (by kernel_rfl) (by kernel_rfl) (by kernel_rfl) (fun _ _ _ h => h) hS (Or.inl ⟨by kernel_rfl, ?_⟩) (fun hS1 => ?_); rotate_left; (focus (intro w _; go_simp; first | done | with_reducible rfl)); clear hS; have hS := hS1; clear hS1))
  refine wpAnyS_ready (rs := [8, 16]) (by kernel_rfl) (by simp) ?_
  refine AllReadyS.cons rfl (fun K hK => ?_) (AllReadyS.cons rfl (fun K hK => ?_) AllReadyS.nil)
  · go_simp
    refine hK.out _ _ ?_ (fun hS1 => ?_)
    · clear hK hS; (intro x hx hl; simp only [List.mem_cons, List.not_mem_nil, or_false] at hx; rcases hx with rfl | rfl; all_goals (first | exact Bool.noConfusion (show true = false from hl) | (show World.cell? _ _ = _; go_simp; done)))
    clear hK K hS
    have hS := hS1
    clear hS1
    refine wpAnyS_ready (rs := [9, 16]) (by kernel_rfl) (by simp) ?_
    refine AllReadyS.cons rfl (fun K hK => ?_) (AllReadyS.cons rfl (fun K hK => ?_) AllReadyS.nil)
    · go_simp
      ((with_reducible refine (HH.out.insK hmax hpl (by ((repeat' (first | exact Below.refl _ _ | assumption | (refine Below_alloc ?_ ?_ _) | (refine Below_ext ?_ ?_ _ _) | (refine Below_setCell ?_ _ _ _ ?_) | apply Below.drew | refine Below_drewN ?_ _)) <;> first | done | (simp; done) | (simp; omega))) (by (repeat' (first | assumption | ((refine heap_at_alloc ?_); (simp; done)) | refine heap_lt_alloc ?_ | refine heap_lt_ext ?_ | refine heap_lt_drew ?_)); done) (by first | omega | (simp; done) | (simp; omega))).mono ?_))
      rintro e w1 ⟨g1, c1, rfl, hown1, hkp1, hg1⟩
      obtain ⟨hq, hf, hh, hkw⟩ := HH.out.after1 (by ((repeat' (first | exact Below.refl _ _ | assumption | (refine Below_alloc ?_ ?_ _) | (refine Below_ext ?_ ?_ _ _) | (refine Below_setCell ?_ _ _ _ ?_) | apply Below.drew | refine Below_drewN ?_ _)) <;> first | done | (simp; done) | (simp; omega))) hkp1
      have hs1 := hkp1.size
      simp only [World.size_alloc, ext_size] at hs1
      have hgg : kv.ownBlock = some g1 ∨ w.heap.size ≤ g1 := hg1.imp id (fun h => by simp only [World.size_alloc, ext_size, World.size_drew] at h; omega)
      have HK1 := Lib.hid (And.intro hown1 (And.intro hgg hkw))
      have HB1 := Lib.hid hkp1.block
      clear hown1 hkp1 hg1 hgg hkw
      simp only []
      refine hK.out _ _ ?_ (fun hS1 => ?_)
      · clear hK hS; (intro x hx hl; simp only [List.mem_cons, List.not_mem_nil, or_false] at hx; rcases hx with rfl | rfl; all_goals (first | exact Bool.noConfusion (show true = false from hl) | (show World.cell? _ _ = _; go_simp; done)))
      clear hK K hS
      have hS := hS1
      clear hS1
      refine wpAnyS_ready (rs := [16]) (by kernel_rfl) (by simp) ?_
      refine AllReadyS.cons rfl (fun K hK => ?_) AllReadyS.nil
      go_simp
      refine hK.out _ _ ?_ (fun hS1 => ?_)
      · clear hK hS; (intro x hx hl; simp only [List.mem_cons, List.not_mem_nil, or_false] at hx; rcases hx with rfl | rfl; all_goals (first | exact Bool.noConfusion (show true = false from hl) | (show World.cell? _ _ = _; go_simp; done)))
      clear hK K hS
      have hS := hS1
      clear hS1
      refine wpAnyS_ready (rs := [17]) (by kernel_rfl) (by simp) ?_
      refine AllReadyS.cons rfl (fun K hK => ?_) AllReadyS.nil
      go_simp
      ((with_reducible refine (HH.out.insV hmax hpl (by have := HK1.out.2.2; exact (by (repeat' (first | assumption | refine Kp.ext ?_ _ _ | refine Kp.alloc ?_ _ | refine Kp.drew ?_)))) (by first | ((repeat' (first | assumption | ((refine heap_at_alloc ?_); (simp; done)) | refine heap_lt_alloc ?_ | refine heap_lt_ext ?_ | refine heap_lt_drew ?_)); done) | (rw [HB1.out _ (by first | omega | (simp; done) | (simp; omega)) (HH.out.newK (by first | omega | (simp; done) | (simp; omega)))]; (repeat' (first | assumption | ((refine heap_at_alloc ?_); (simp; done)) | refine heap_lt_alloc ?_ | refine heap_lt_ext ?_ | refine heap_lt_drew ?_)); done)) (by first | omega | (simp; done) | (simp; omega))).mono ?_))
      rintro e w2 ⟨g2, c2, rfl, hown2, hkp2, hg2⟩
      obtain ⟨hq2, hf2, hh2, hkw2⟩ := HH.out.after2 (by have := HK1.out.2.2; exact (by (repeat' (first | assumption | refine Kp.ext ?_ _ _ | refine Kp.alloc ?_ _ | refine Kp.drew ?_)))) hkp2
      have HK2 := Lib.hid (And.intro hown2 (And.intro hg2 (And.intro hkp2 hkw2)))
      clear hown2 hkp2 hg2 hkw2 HB1
      simp only []
      refine hK.out _ _ ?_ (fun hS1 => ?_)
      · clear hK hS; (intro x hx hl; simp only [List.mem_cons, List.not_mem_nil, or_false] at hx; rcases hx with rfl | rfl; all_goals (first | exact Bool.noConfusion (show true = false from hl) | (show World.cell? _ _ = _; go_simp; done)))
      clear hK K hS
      have hS := hS1
      clear hS1
      ((refine wpAnyS_take (i := 18) (v := ?_) rfl (by kernel_rfl) (by kernel_rfl) (by kernel_rfl) (by kernel_rfl) (by kernel_rfl) (by kernel_rfl) (fun _ _ _ h => h) hS (Or.inl ⟨by kernel_rfl, ?_⟩) (fun hS1 => ?_); rotate_left; (focus (intro w _; go_simp; first | done | with_reducible rfl)); clear hS; have hS := hS1; clear hS1); (refine wpAnyS_take (i := 19) (v := ?_) rfl (by kernel_rfl) (by kernel_rfl) (by kernel_rfl) (by kernel_rfl) (by kernel_rfl) (by kernel_rfl) (fun _ _ _ h => h) hS (Or.inl ⟨by kernel_rfl, ?_⟩) (fun hS1 => ?_); rotate_left; (focus (intro w _; go_simp; first | done | with_reducible rfl)); clear hS; have hS := hS1; clear hS1))
      refine wpAnyS_ready (rs := [20]) (by kernel_rfl) (by simp) ?_
      refine AllReadyS.cons rfl (fun K hK => ?_) AllReadyS.nil
      go_simp
      refine hK.out _ _ ?_ (fun hS1 => ?_)
      · clear hK hS; (intro x hx hl; simp only [List.mem_cons, List.not_mem_nil, or_false] at hx; rcases hx with rfl | rfl; all_goals (first | exact Bool.noConfusion (show true = false from hl) | (show World.cell? _ _ = _; go_simp; done)))
      clear hK K hS
      have hS := hS1
      clear hS1
      ((refine wpAnyS_take (i := 21) (v := ?_) rfl (by kernel_rfl) (by kernel_rfl) (by kernel_rfl) (by kernel_rfl) (by kernel_rfl) (by kernel_rfl) (fun _ _ _ h => h) hS (Or.inl ⟨by kernel_rfl, ?_⟩) (fun hS1 => ?_); rotate_left; (focus (intro w _; go_simp; first | done | with_reducible rfl)); clear hS; have hS := hS1; clear hS1); (refine wpAnyS_take (i := 22) (v := ?_) rfl (by kernel_rfl) (by kernel_rfl) (by kernel_rfl) (by kernel_rfl) (by kernel_rfl) (by kernel_rfl) (fun _ _ _ h => h) hS (Or.inl ⟨by kernel_rfl, ?_⟩) (fun hS1 => ?_); rotate_left; (focus (intro w _; go_simp; first | done | with_reducible rfl)); clear hS; have hS := hS1; clear hS1))
      refine wpAnyS_ready (rs := [23]) (by kernel_rfl) (by simp) ?_
      refine AllReadyS.cons rfl (fun K hK => ?_) AllReadyS.nil
      go_simp
      refine hK.out _ _ ?_ (fun hS1 => ?_)
      · clear hK hS; (intro x hx hl; simp only [List.mem_cons, List.not_mem_nil, or_false] at hx; rcases hx with rfl | rfl; all_goals (first | exact Bool.noConfusion (show true = false from hl) | (show World.cell? _ _ = _; go_simp; done)))
      clear hK K hS
      have hS := hS1
      clear hS1
      refine wpAnyS_done (by kernel_rfl) ?_ _
      go_wp2
      go_end0
      exact HH.out.turned hml hmk hmv (by have := HK1.out.2.2; exact (by (repeat' (first | assumption | refine Kp.ext ?_ _ _ | refine Kp.alloc ?_ _ | refine Kp.drew ?_)))) HK2.out.2.2.1 (by have := HK1.out.1; exact (by (repeat' (first | assumption | refine owns_ext ?_ _ _ | refine World.ownsRow.alloc ?_ _ | refine World.ownsRow.drew ?_)))) HK2.out.1 HK1.out.2.1 HK2.out.2.1 hbase
    · go_simp
      refine hK.out _ _ ?_ (fun hS1 => ?_)
      · clear hK hS; (intro x hx hl; simp only [List.mem_cons, List.not_mem_nil, or_false] at hx; rcases hx with rfl | rfl; all_goals (first | exact Bool.noConfusion (show true = false from hl) | (show World.cell? _ _ = _; go_simp; done)))
      clear hK K hS
      have hS := hS1
      clear hS1
      refine wpAnyS_ready (rs := [9]) (by kernel_rfl) (by simp) ?_
      refine AllReadyS.cons rfl (fun K hK => ?_) AllReadyS.nil
      go_simp
      ((with_reducible refine (HH.out.insK hmax hpl (by ((repeat' (first | exact Below.refl _ _ | assumption | (refine Below_alloc ?_ ?_ _) | (refine Below_ext ?_ ?_ _ _) | (refine Below_setCell ?_ _ _ _ ?_) | apply Below.drew | refine Below_drewN ?_ _)) <;> first | done | (simp; done) | (simp; omega))) (by (repeat' (first | assumption | ((refine heap_at_alloc ?_); (simp; done)) | refine heap_lt_alloc ?_ | refine heap_lt_ext ?_ | refine heap_lt_drew ?_)); done) (by first | omega | (simp; done) | (simp; omega))).mono ?_))
      rintro e w1 ⟨g1, c1, rfl, hown1, hkp1, hg1⟩
      obtain ⟨hq, hf, hh, hkw⟩ := HH.out.after1 (by ((repeat' (first | exact Below.refl _ _ | assumption | (refine Below_alloc ?_ ?_ _) | (refine Below_ext ?_ ?_ _ _) | (refine Below_setCell ?_ _ _ _ ?_) | apply Below.drew | refine Below_drewN ?_ _)) <;> first | done | (simp; done) | (simp; omega))) hkp1
      have hs1 := hkp1.size
      simp only [World.size_alloc, ext_size] at hs1
      have hgg : kv.ownBlock = some g1 ∨ w.heap.size ≤ g1 := hg1.imp id (fun h => by simp only [World.size_alloc, ext_size, World.size_drew] at h; omega)
      have HK1 := Lib.hid (And.intro hown1 (And.intro hgg hkw))
      have HB1 := Lib.hid hkp1.block
      clear hown1 hkp1 hg1 hgg hkw
      simp only []
      refine hK.out _ _ ?_ (fun hS1 => ?_)
      · clear hK hS; (intro x hx hl; simp only [List.mem_cons, List.not_mem_nil, or_false] at hx; rcases hx with rfl | rfl; all_goals (first | exact Bool.noConfusion (show true = false from hl) | (show World.cell? _ _ = _; go_simp; done)))
      clear hK K hS
      have hS := hS1
      clear hS1
      refine wpAnyS_ready (rs := [17]) (by kernel_rfl) (by simp) ?_
      refine AllReadyS.cons rfl (fun K hK => ?_) AllReadyS.nil
      go_simp
      ((with_reducible refine (HH.out.insV hmax hpl (by have := HK1.out.2.2; exact (by (repeat' (first | assumption | refine Kp.ext ?_ _ _ | refine Kp.alloc ?_ _ | refine Kp.drew ?_)))) (by first | ((repeat' (first | assumption | ((refine heap_at_alloc ?_); (simp; done)) | refine heap_lt_alloc ?_ | refine heap_lt_ext ?_ | refine heap_lt_drew ?_)); done) | (rw [HB1.out _ (by first | omega | (simp; done) | (simp; omega)) (HH.out.newK (by first | omega | (simp; done) | (simp; omega)))]; (repeat' (first | assumption | ((refine heap_at_alloc ?_); (simp; done)) | refine heap_lt_alloc ?_ | refine heap_lt_ext ?_ | refine heap_lt_drew ?_)); done)) (by first | omega | (simp; done) | (simp; omega))).mono ?_))
      rintro e w2 ⟨g2, c2, rfl, hown2, hkp2, hg2⟩
      obtain ⟨hq2, hf2, hh2, hkw2⟩ := HH.out.after2 (by have := HK1.out.2.2; exact (by (repeat' (first | assumption | refine Kp.ext ?_ _ _ | refine Kp.alloc ?_ _ | refine Kp.drew ?_)))) hkp2
      have HK2 := Lib.hid (And.intro hown2 (And.intro hg2 (And.intro hkp2 hkw2)))
      clear hown2 hkp2 hg2 hkw2 HB1
      simp only []
      refine hK.out _ _ ?_ (fun hS1 => ?_)
      · clear hK hS; (intro x hx hl; simp only [List.mem_cons, List.not_mem_nil, or_false] at hx; rcases hx with rfl | rfl; all_goals (first | exact Bool.noConfusion (show true = false from hl) | (show World.cell? _ _ = _; go_simp; done)))
      clear hK K hS
      have hS := hS1
      clear hS1
      ((refine wpAnyS_take (i := 18) (v := ?_) rfl (by kernel_rfl) (by kernel_rfl) (by kernel_rfl) (by kernel_rfl) (by kernel_rfl) (by kernel_rfl) (fun _ _ _ h => h) hS (Or.inl ⟨by kernel_rfl, ?_⟩) (fun hS1 => ?_); rotate_left; (focus (intro w _; go_simp; first | done | with_reducible rfl)); clear hS; have hS := hS1; clear hS1); (refine wpAnyS_take (i := 19) (v := ?_) rfl (by kernel_rfl) (by kernel_rfl) (by kernel_rfl) (by kernel_rfl) (by kernel_rfl) (by kernel_rfl) (fun _ _ _ h => h) hS (Or.inl ⟨by kernel_rfl, ?_⟩) (fun hS1 => ?_); rotate_left; (focus (intro w _; go_simp; first | done | with_reducible rfl)); clear hS; have hS := hS1; clear hS1))
      refine wpAnyS_ready (rs := [20]) (by kernel_rfl) (by simp) ?_
      refine AllReadyS.cons rfl (fun K hK => ?_) AllReadyS.nil
      go_simp
      refine hK.out _ _ ?_ (fun hS1 => ?_)
      · clear hK hS; (intro x hx hl; simp only [List.mem_cons, List.not_mem_nil, or_false] at hx; rcases hx with rfl | rfl; all_goals (first | exact Bool.noConfusion (show true = false from hl) | (show World.cell? _ _ = _; go_simp; done)))
      clear hK K hS
      have hS := hS1
      clear hS1
      ((refine wpAnyS_take (i := 21) (v := ?_) rfl (by kernel_rfl) (by kernel_rfl) (by kernel_rfl) (by kernel_rfl) (by kernel_rfl) (by kernel_rfl) (fun _ _ _ h => h) hS (Or.inl ⟨by kernel_rfl, ?_⟩) (fun hS1 => ?_); rotate_left; (focus (intro w _; go_simp; first | done | with_reducible rfl)); clear hS; have hS := hS1; clear hS1); (refine wpAnyS_take (i := 22) (v := ?_) rfl (by kernel_rfl) (by kernel_rfl) (by kernel_rfl) (by kernel_rfl) (by kernel_rfl) (by kernel_rfl) (fun _ _ _ h => h) hS (Or.inl ⟨by kernel_rfl, ?_⟩) (fun hS1 => ?_); rotate_left; (focus (intro w _; go_simp; first | done | with_reducible rfl)); clear hS; have hS := hS1; clear hS1))
      refine wpAnyS_ready (rs := [23]) (by kernel_rfl) (by simp) ?_
      refine AllReadyS.cons rfl (fun K hK => ?_) AllReadyS.nil
      go_simp
      refine hK.out _ _ ?_ (fun hS1 => ?_)
      · clear hK hS; (intro x hx hl; simp only [List.mem_cons, List.not_mem_nil, or_false] at hx; rcases hx with rfl | rfl; all_goals (first | exact Bool.noConfusion (show true = false from hl) | (show World.cell? _ _ = _; go_simp; done)))
      clear hK K hS
      have hS := hS1
      clear hS1
      refine wpAnyS_done (by kernel_rfl) ?_ _
      go_wp2
      go_end0
      exact HH.out.turned hml hmk hmv (by have := HK1.out.2.2; exact (by (repeat' (first | assumption | refine Kp.ext ?_ _ _ | refine Kp.alloc ?_ _ | refine Kp.drew ?_)))) HK2.out.2.2.1 (by have := HK1.out.1; exact (by (repeat' (first | assumption | refine owns_ext ?_ _ _ | refine World.ownsRow.alloc ?_ _ | refine World.ownsRow.drew ?_)))) HK2.out.1 HK1.out.2.1 HK2.out.2.1 hbase
  · go_simp
    refine hK.out _ _ ?_ (fun hS1 => ?_)
    · clear hK hS; (intro x hx hl; simp only [List.mem_cons, List.not_mem_nil, or_false] at hx; rcases hx with rfl | rfl; all_goals (first | exact Bool.noConfusion (show true = false from hl) | (show World.cell? _ _ = _; go_simp; done)))
    clear hK K hS
    have hS := hS1
    clear hS1
    refine wpAnyS_ready (rs := [8]) (by kernel_rfl) (by simp) ?_
    refine AllReadyS.cons rfl (fun K hK => ?_) AllReadyS.nil
    go_simp
    refine hK.out _ _ ?_ (fun hS1 => ?_)
    · clear hK hS; (intro x hx hl; simp only [List.mem_cons, List.not_mem_nil, or_false] at hx; rcases hx with rfl | rfl; all_goals (first | exact Bool.noConfusion (show true = false from hl) | (show World.cell? _ _ = _; go_simp; done)))
    clear hK K hS
    have hS := hS1
    clear hS1
    refine wpAnyS_ready (rs := [9]) (by kernel_rfl) (by simp) ?_
    refine AllReadyS.cons rfl (fun K hK => ?_) AllReadyS.nil
    go_simp
    ((with_reducible refine (HH.out.insK hmax hpl (by ((repeat' (first | exact Below.refl _ _ | assumption | (refine Below_alloc ?_ ?_ _) | (refine Below_ext ?_ ?_ _ _) | (refine Below_setCell ?_ _ _ _ ?_) | apply Below.drew | refine Below_drewN ?_ _)) <;> first | done | (simp; done) | (simp; omega))) (by (repeat' (first | assumption | ((refine heap_at_alloc ?_); (simp; done)) | refine heap_lt_alloc ?_ | refine heap_lt_ext ?_ | refine heap_lt_drew ?_)); done) (by first | omega | (simp; done) | (simp; omega))).mono ?_))
    rintro e w1 ⟨g1, c1, rfl, hown1, hkp1, hg1⟩
    obtain ⟨hq, hf, hh, hkw⟩ := HH.out.after1 (by ((repeat' (first | exact Below.refl _ _ | assumption | (refine Below_alloc ?_ ?_ _) | (refine Below_ext ?_ ?_ _ _) | (refine Below_setCell ?_ _ _ _ ?_) | apply Below.drew | refine Below_drewN ?_ _)) <;> first | done | (simp; done) | (simp; omega))) hkp1
    have hs1 := hkp1.size
    simp only [World.size_alloc, ext_size] at hs1
    have hgg : kv.ownBlock = some g1 ∨ w.heap.size ≤ g1 := hg1.imp id (fun h => by simp only [World.size_alloc, ext_size, World.size_drew] at h; omega)
    have HK1 := Lib.hid (And.intro hown1 (And.intro hgg hkw))
    have HB1 := Lib.hid hkp1.block
    clear hown1 hkp1 hg1 hgg hkw
    simp only []
    refine hK.out _ _ ?_ (fun hS1 => ?_)
    · clear hK hS; (intro x hx hl; simp only [List.mem_cons, List.not_mem_nil, or_false] at hx; rcases hx with rfl | rfl; all_goals (first | exact Bool.noConfusion (show true = false from hl) | (show World.cell? _ _ = _; go_simp; done)))
    clear hK K hS
    have hS := hS1
    clear hS1
    refine wpAnyS_ready (rs := [17]) (by kernel_rfl) (by simp) ?_
    refine AllReadyS.cons rfl (fun K hK => ?_) AllReadyS.nil
    go_simp
    ((with_reducible refine (HH.out.insV hmax hpl (by have := HK1.out.2.2; exact (by (repeat' (first | assumption | refine Kp.ext ?_ _ _ | refine Kp.alloc ?_ _ | refine Kp.drew ?_)))) (by first | ((repeat' (first | assumption | ((refine heap_at_alloc ?_); (simp; done)) | refine heap_lt_alloc ?_ | refine heap_lt_ext ?_ | refine heap_lt_drew ?_)); done) | (rw [HB1.out _ (by first | omega | (simp; done) | (simp; omega)) (HH.out.newK (by first | omega | (simp; done) | (simp; omega)))]; (repeat' (first | assumption | ((refine heap_at_alloc ?_); (simp; done)) | refine heap_lt_alloc ?_ | refine heap_lt_ext ?_ | refine heap_lt_drew ?_)); done)) (by first | omega | (simp; done) | (simp; omega))).mono ?_))
    rintro e w2 ⟨g2, c2, rfl, hown2, hkp2, hg2⟩
    obtain ⟨hq2, hf2, hh2, hkw2⟩ := HH.out.after2 (by have := HK1.out.2.2; exact (by (repeat' (first | assumption | refine Kp.ext ?_ _ _ | refine Kp.alloc ?_ _ | refine Kp.drew ?_)))) hkp2
    have HK2 := Lib.hid (And.intro hown2 (And.intro hg2 (And.intro hkp2 hkw2)))
    clear hown2 hkp2 hg2 hkw2 HB1
    simp only []
    refine hK.out _ _ ?_ (fun hS1 => ?_)
    · clear hK hS; (intro x hx hl; simp only [List.mem_cons, List.not_mem_nil, or_false] at hx; rcases hx with rfl | rfl; all_goals (first | exact Bool.noConfusion (show true = false from hl) | (show World.cell? _ _ = _; go_simp; done)))
    clear hK K hS
    have hS := hS1
    clear hS1
    ((refine wpAnyS_take (i := 18) (v := ?_) rfl (by kernel_rfl) (by kernel_rfl) (by kernel_rfl) (by kernel_rfl) (by kernel_rfl) (by kernel_rfl) (fun _ _ _ h => h) hS (Or.inl ⟨by kernel_rfl, ?_⟩) (fun hS1 => ?_); rotate_left; (focus (intro w _; go_simp; first | done | with_reducible rfl)); clear hS; have hS := hS1; clear hS1); (refine wpAnyS_take (i := 19) (v := ?_) rfl (by kernel_rfl) (by kernel_rfl) (by kernel_rfl) (by kernel_rfl) (by kernel_rfl) (by kernel_rfl) (fun _ _ _ h => h) hS (Or.inl ⟨by kernel_rfl, ?_⟩) (fun hS1 => ?_); rotate_left; (focus (intro w _; go_simp; first | done | with_reducible rfl)); clear hS; have hS := hS1; clear hS1))
    refine wpAnyS_ready (rs := [20]) (by kernel_rfl) (by simp) ?_
    refine AllReadyS.cons rfl (fun K hK => ?_) AllReadyS.nil
    go_simp
    refine hK.out _ _ ?_ (fun hS1 => ?_)
    · clear hK hS; (intro x hx hl; simp only [List.mem_cons, List.not_mem_nil, or_false] at hx; rcases hx with rfl | rfl; all_goals (first | exact Bool.noConfusion (show true = false from hl) | (show World.cell? _ _ = _; go_simp; done)))
    clear hK K hS
    have hS := hS1
    clear hS1
    ((refine wpAnyS_take (i := 21) (v := ?_) rfl (by kernel_rfl) (by kernel_rfl) (by kernel_rfl) (by kernel_rfl) (by kernel_rfl) (by kernel_rfl) (fun _ _ _ h => h) hS (Or.inl ⟨by kernel_rfl, ?_⟩) (fun hS1 => ?_); rotate_left; (focus (intro w _; go_simp; first | done | with_reducible rfl)); clear hS; have hS := hS1; clear hS1); (refine wpAnyS_take (i := 22) (v := ?_) rfl (by kernel_rfl) (by kernel_rfl) (by kernel_rfl) (by kernel_rfl) (by kernel_rfl) (by kernel_rfl) (fun _ _ _ h => h) hS (Or.inl ⟨by kernel_rfl, ?_⟩) (fun hS1 => ?_); rotate_left; (focus (intro w _; go_simp; first | done | with_reducible rfl)); clear hS; have hS := hS1; clear hS1))
    refine wpAnyS_ready (rs := [23]) (by kernel_rfl) (by simp) ?_
    refine AllReadyS.cons rfl (fun K hK => ?_) AllReadyS.nil
    go_simp
    refine hK.out _ _ ?_ (fun hS1 => ?_)
    · clear hK hS; (intro x hx hl; simp only [List.mem_cons, List.not_mem_nil, or_false] at hx; rcases hx with rfl | rfl; all_goals (first | exact Bool.noConfusion (show true = false from hl) | (show World.cell? _ _ = _; go_simp; done)))
    clear hK K hS
    have hS := hS1
    clear hS1
    refine wpAnyS_done (by kernel_rfl) ?_ _
    go_wp2
    go_end0
    exact HH.out.turned hml hmk hmv (by have := HK1.out.2.2; exact (by (repeat' (first | assumption | refine Kp.ext ?_ _ _ | refine Kp.alloc ?_ _ | refine Kp.drew ?_)))) HK2.out.2.2.1 (by have := HK1.out.1; exact (by (repeat' (first | assumption | refine owns_ext ?_ _ _ | refine World.ownsRow.alloc ?_ _ | refine World.ownsRow.drew ?_)))) HK2.out.1 HK1.out.2.1 HK2.out.2.1 hbase
theorem put_any (base p : Nat) (kv vv : Value) (m : List PairD) (k v : Int) (w : World) (h : MapAt base w p kv vv m) (hmax : m.length ≤ 100000000) :
    Calls Try.prog 42 #[.pointer (some ⟨p, 0, none⟩), .int .u64 k, .int .u64 v] w (Turned base p kv vv (putM m k v) w) := by
  cases his : isAt (keysOf m) k with
  | true => exact put_at base p kv vv m k v w h (by omega) his
  | false => exact put_new base p kv vv m k v w h hmax his
end Go.Proofs.Ytofhaechpllaoaa
namespace Go.Proofs.Ytofhaechpllaoaa
open Go Go.RowKit

theorem map_erase {α β : Type} (f : α → β) : ∀ (l : List α) (i : Nat), (l.eraseIdx i).map f = (l.map f).eraseIdx i
  | [], _ => rfl
  | _ :: _, 0 => rfl
  | x :: l, i + 1 => by simp [List.eraseIdx_cons_succ, map_erase f l i]
theorem keysV_erase (m : List PairD) (i : Nat) : keysV (m.eraseIdx i) = (keysV m).eraseIdx i := map_erase _ m i
theorem valsV_erase (m : List PairD) (i : Nat) : valsV (m.eraseIdx i) = (valsV m).eraseIdx i := map_erase _ m i

/-- Deletion of one value out of a row of the call's own, with what it leaves. -/
theorem delete_row {base : Nat} {v : Value} {xs : List Value} {i n : Nat} {w : World} (h1 : ∀ u ∈ xs, u.oneCell' = true) (hl : xs.length = n) (hown : w.ownsRow base 22 1 v n xs) (hmax : n ≤ 1000000000) (hi : i < n) :
    Calls Try.prog 52 #[v, .int .i64 i, .int .i64 ((i : Int) + 1)] w fun e w' => ∃ g cap, e = .returned (.slice (some ⟨g, 0, none⟩) (n - 1) cap) ∧
      w'.ownsRow base 22 1 (.slice (some ⟨g, 0, none⟩) (n - 1) cap) (n - 1) (xs.eraseIdx i) ∧ Kp (fun g => v.ownBlock = some g) w w' ∧ v.ownBlock = some g := by
  subst hl
  refine (delete_one base v xs i w h1 hown hmax hi).mono ?_
  rintro e w' ⟨v', rfl, hown', hkp, hw⟩
  obtain ⟨g, hg⟩ : ∃ g, v.ownBlock = some g := by
    obtain ⟨a, cap, rfl, _, _, h3⟩ := owns_shape hown
    rcases h3 with ⟨_, h0, _⟩ | ⟨g, cur, rfl, _⟩
    · omega
    · exact ⟨g, rfl⟩
  obtain ⟨a, cap, rfl, _, _, h3⟩ := owns_shape hown'
  rcases h3 with ⟨rfl, _, _⟩ | ⟨g', cur, rfl, _⟩
  · rw [hg] at hw; cases hw
  · rw [hg] at hw; cases hw
    exact ⟨g', cap, rfl, hown', hkp, hg⟩

theorem MapAt.delK {base : Nat} {w0 : World} {p : Nat} {kv vv : Value} {m : List PairD} {i : Nat} (h : MapAt base w0 p kv vv m) (hmax : m.length ≤ 100000000) (hi : i < m.length)
    {w : World} (hb : Below w0.heap.size w0 w) :
    Calls Try.prog 52 #[kv, .int .i64 i, .int .i64 ((i : Int) + 1)] w fun e w' => ∃ g cap, e = .returned (.slice (some ⟨g, 0, none⟩) (m.length - 1) cap) ∧
      w'.ownsRow base 22 1 (.slice (some ⟨g, 0, none⟩) (m.length - 1) cap) (m.length - 1) ((keysV m).eraseIdx i) ∧ Kp (fun g => kv.ownBlock = some g) w w' ∧ kv.ownBlock = some g :=
  delete_row (keysV_one m) (by simp [keysV]) (h.below hb).hk (by omega) hi
theorem MapAt.delV {base : Nat} {w0 : World} {p : Nat} {kv vv : Value} {m : List PairD} {i : Nat} (h : MapAt base w0 p kv vv m) (hmax : m.length ≤ 100000000) (hi : i < m.length)
    {w : World} (hb : Kp (fun g => kv.ownBlock = some g) w0 w) :
    Calls Try.prog 52 #[vv, .int .i64 i, .int .i64 ((i : Int) + 1)] w fun e w' => ∃ g cap, e = .returned (.slice (some ⟨g, 0, none⟩) (m.length - 1) cap) ∧
      w'.ownsRow base 22 1 (.slice (some ⟨g, 0, none⟩) (m.length - 1) cap) (m.length - 1) ((valsV m).eraseIdx i) ∧ Kp (fun g => vv.ownBlock = some g) w w' ∧ vv.ownBlock = some g :=
  delete_row (valsV_one m) (by simp [valsV]) (owns_at h.hv fun g hg => hb.block g (owns_lt h.hv hg).1 (fun hk => h.kvp g hk hg)) (by omega) hi

def getM (m : List PairD) (k : Int) : Int := if isAt (keysOf m) k then (m.getD (place (keysOf m) k) ⟨0, 0⟩).val else 0
theorem get_any (base p : Nat) (kv vv : Value) (m : List PairD) (k : Int) (w : World) (h : MapAt base w p kv vv m) (hmax : m.length ≤ 100000000) :
    Calls Try.prog 30 #[.pointer (some ⟨p, 0, none⟩), .int .u64 k] w fun e w' => e = .returned (.tuple #[.int .u64 (getM m k), .bool (isAt (keysOf m) k)]) ∧ Below w.heap.size w w' := by
  have H := h.find k (by omega)
  cases his : isAt (keysOf m) k with
  | false =>
    rw [his] at H
    have hg : getM m k = 0 := by simp [getM, his]
    rw [hg]
    generalize place (keysOf m) k = i at *
    clear h his hg
    go_enter Try.func30, Try.ntmps30
    go_wp2_with (go_at_call 47; refine H.mono ?_; rintro e w' ⟨rfl, hbx⟩; obtain ⟨E, nx, rfl⟩ := below_ext hbx; clear hbx)
    go_ret2
    exact ⟨rfl, (by ((repeat' (first | exact Below.refl _ _ | assumption | (refine Below_alloc ?_ ?_ _) | (refine Below_ext ?_ ?_ _ _) | (refine Below_setCell ?_ _ _ _ ?_) | apply Below.drew | refine Below_drewN ?_ _)) <;> first | done | (simp; done) | (simp; omega)))⟩
  | true =>
    rw [his] at H
    have hlt := isAt_lt his
    have hpl : place (keysOf m) k < m.length := by simpa [keysOf] using hlt
    obtain ⟨a, cap, hvv, hc1, hc2, h3⟩ := owns_shape h.hv
    rcases h3 with ⟨_, h0, _⟩ | ⟨g, cur, rfl, hbg, hg, hcur, hsz, htk⟩
    · omega
    have hgm : getM m k = m[place (keysOf m) k].val := by simp [getM, his, hpl]
    rw [hgm]
    have hgc := valsV_cell cur hcur htk (List.getElem?_eq_getElem hpl)
    subst hvv
    have hp1 : w.cell? ⟨p, 1, none⟩ = some (.slice (some ⟨g, 0, none⟩) m.length cap) := by simp [World.cell?, h.hp]
    have hph : w.holds p := block_lt h.hp
    have hgh : w.holds g := hg
    clear h his hgm hlt hcur hsz htk
    generalize m[place (keysOf m) k].val = x at *
    generalize place (keysOf m) k = i at *
    go_enter Try.func30, Try.ntmps30
    go_wp2_with (go_at_call 47; refine H.mono ?_; rintro e w' ⟨rfl, hbx⟩; obtain ⟨E, nx, rfl⟩ := below_ext hbx; clear hbx)
    go_ret2
    exact ⟨rfl, (by ((repeat' (first | exact Below.refl _ _ | assumption | (refine Below_alloc ?_ ?_ _) | (refine Below_ext ?_ ?_ _ _) | (refine Below_setCell ?_ _ _ _ ?_) | apply Below.drew | refine Below_drewN ?_ _)) <;> first | done | (simp; done) | (simp; omega)))⟩

theorem get_nil (k : Int) (w : World) :
    Calls Try.prog 30 #[.pointer none, .int .u64 k] w fun e w' => e = .returned (.tuple #[.int .u64 0, .bool false]) ∧ Below w.heap.size w w' := by
  go_enter Try.func30, Try.ntmps30
  go_wp2
  go_ret2
  exact ⟨rfl, (by ((repeat' (first | exact Below.refl _ _ | assumption | (refine Below_alloc ?_ ?_ _) | (refine Below_ext ?_ ?_ _ _) | (refine Below_setCell ?_ _ _ _ ?_) | apply Below.drew | refine Below_drewN ?_ _)) <;> first | done | (simp; done) | (simp; omega)))⟩
theorem len_any (base p : Nat) (kv vv : Value) (m : List PairD) (w : World) (h : MapAt base w p kv vv m) :
    Calls Try.prog 27 #[.pointer (some ⟨p, 0, none⟩)] w fun e w' => e = .returned (.int .i64 m.length) ∧ Below w.heap.size w w' := by
  obtain ⟨a, cap, rfl, hc1, hc2, h3⟩ := owns_shape h.hk
  have hp0 : w.cell? ⟨p, 0, none⟩ = some (.slice a m.length cap) := by simp [World.cell?, h.hp]
  clear h h3
  go_enter Try.func27, Try.ntmps27
  go_wp2
  go_ret
  exact ⟨rfl, (by ((repeat' (first | exact Below.refl _ _ | assumption | (refine Below_alloc ?_ ?_ _) | (refine Below_ext ?_ ?_ _ _) | (refine Below_setCell ?_ _ _ _ ?_) | apply Below.drew | refine Below_drewN ?_ _)) <;> first | done | (simp; done) | (simp; omega)))⟩
theorem len_nil (w : World) : Calls Try.prog 27 #[.pointer none] w fun e w' => e = .returned (.int .i64 0) ∧ Below w.heap.size w w' := by
  go_enter Try.func27, Try.ntmps27
  go_wp2
  go_ret
  exact ⟨rfl, (by ((repeat' (first | exact Below.refl _ _ | assumption | (refine Below_alloc ?_ ?_ _) | (refine Below_ext ?_ ?_ _ _) | (refine Below_setCell ?_ _ _ _ ?_) | apply Below.drew | refine Below_drewN ?_ _)) <;> first | done | (simp; done) | (simp; omega)))⟩

theorem drop_no (base p : Nat) (kv vv : Value) (m : List PairD) (k : Int) (w : World) (h : MapAt base w p kv vv m) (hmax : m.length ≤ 100000000) (his : isAt (keysOf m) k = false) :
    Calls Try.prog 45 #[.pointer (some ⟨p, 0, none⟩), .int .u64 k] w (Turned base p kv vv (dropM m k) w) := by
  have H := h.find k (by omega)
  have hd : dropM m k = m := by simp [dropM, his]
  rw [his] at H
  rw [hd]
  have hfin : ∀ E n, Turned base p kv vv m w (.returned (.tuple #[])) (w.ext E n) := fun E n => ⟨rfl, kv, vv, h.ext E n, Kp.of_below (below_of_ext w E n), fun g hg => .inl hg⟩
  generalize place (keysOf m) k = i at *
  clear h his hd
  go_enter Try.func45, Try.ntmps45
  go_wp2_with (go_at_call 47; refine H.mono ?_; rintro e w' ⟨rfl, hbx⟩; obtain ⟨E, nx, rfl⟩ := below_ext hbx; clear hbx)
  go_end0
  exact hfin _ _

set_option maxRecDepth 100000 in
set_option maxHeartbeats 2000000 in
theorem drop_at (base p : Nat) (kv vv : Value) (m : List PairD) (k : Int) (w : World) (h : MapAt base w p kv vv m) (hmax : m.length ≤ 100000000) (his : isAt (keysOf m) k = true) :
    Calls Try.prog 45 #[.pointer (some ⟨p, 0, none⟩), .int .u64 k] w (Turned base p kv vv (dropM m k) w) := by
  have H := h.find k (by omega)
  have hpl : place (keysOf m) k < m.length := by simpa [keysOf] using isAt_lt his
  have hd : dropM m k = m.eraseIdx (place (keysOf m) k) := by simp [dropM, his]
  rw [his] at H
  rw [hd]
  clear hd his
  generalize place (keysOf m) k = i at *
  have hml : (m.eraseIdx i).length = m.length - 1 := by rw [List.length_eraseIdx_of_lt hpl]
  have hmk := keysV_erase m i
  have hmv := valsV_erase m i
  have hp0 : w.cell? ⟨p, 0, none⟩ = some kv := by simp [World.cell?, h.hp]
  have hp1 : w.cell? ⟨p, 1, none⟩ = some vv := by simp [World.cell?, h.hp]
  have hph : w.holds p := block_lt h.hp
  have hpf0 : w.frozen? ⟨p, 0, none⟩ = false := by simp [World.frozen?, h.hp]
  have hpf1 : w.frozen? ⟨p, 1, none⟩ = false := by simp [World.frozen?, h.hp]
  have hbase : base ≤ w.heap.size := by have := h.hb; have : p < w.heap.size := hph; omega
  have HH := Lib.hid h
  have HML := Lib.hid hml
  have HMK := Lib.hid hmk
  have HMV := Lib.hid hmv
  clear h hml hmk hmv
  go_enter Try.func45, Try.ntmps45
  go_wp2_with (go_at_call 47; refine H.mono ?_; rintro e w' ⟨rfl, hbx⟩; obtain ⟨E, nx, rfl⟩ := below_ext hbx; clear hbx)
  clear H
  have hS : HeldTill [(9, fun w' => w'.cell? ⟨p, 0, none⟩ = some kv), (17, fun w' => w'.cell? ⟨p, 1, none⟩ = some vv)] (Array.replicate 24 false) (w.ext E nx).drew := by
    intro x hx _
    simp only [List.mem_cons, List.not_mem_nil, or_false] at hx
    rcases hx with rfl | rfl
    all_goals (show World.cell? _ _ = _; go_simp)
  have hw1 : IntKind.i64.wrap ((i : Int) + 1) = (i : Int) + 1 := by rw [IntKind.wrap_i64]; omega
  refine wp_region_S [(9, fun w' => w'.cell? ⟨p, 0, none⟩ = some kv), (17, fun w' => w'.cell? ⟨p, 1, none⟩ = some vv)] (by kernel_rfl) ?_
  (refine wpAnyS_take (i := 0) (v := ?_) rfl (by kernel_rfl) (by kernel_rfl) (by kernel_rfl) (by kernel_rfl) (by kernel_rfl) (by kernel_rfl) (fun _ _ _ h => h) hS (Or.inl ⟨by kernel_rfl, ?_⟩) (fun hS1 => ?_); rotate_left; (focus (intro w _; go_simp; first | done | with_reducible rfl)); clear hS; have hS := hS1; clear hS1)
  (refine wpAnyS_take (i := 1) (v := ?_) rfl (by kernel_rfl) (by kernel_rfl) (by kernel_rfl) (by kernel_rfl) (by kernel_rfl) (by kernel_rfl) (fun _ _ _ h => h) hS (Or.inl ⟨by kernel_rfl, ?_⟩) (fun hS1 => ?_); rotate_left; (focus (intro w _; go_simp; first | done | with_reducible rfl)); clear hS; have hS := hS1; clear hS1)
  (refine wpAnyS_take (i := 2) (v := ?_) rfl (by kernel_rfl) (by kernel_rfl) (by kernel_rfl) (by kernel_rfl) (by kernel_rfl) (by kernel_rfl) (fun _ _ _ h => h) hS (Or.inl ⟨by kernel_rfl, ?_⟩) (fun hS1 => ?_); rotate_left; (focus (intro w _; go_simp; first | done | with_reducible rfl)); clear hS; have hS := hS1; clear hS1)
  (refine wpAnyS_take (i := 3) (v := ?_) rfl (by kernel_rfl) (by kernel_rfl) (by kernel_rfl) (by kernel_rfl) (by kernel_rfl) (by kernel_rfl) (fun _ _ _ h => h) hS (Or.inl ⟨by kernel_rfl, ?_⟩) (fun hS1 => ?_); rotate_left; (focus (intro w _; go_simp; first | done | with_reducible rfl)); clear hS; have hS := hS1; clear hS1)
  (refine wpAnyS_take (i := 4) (v := ?_) rfl (by kernel_rfl) (by kernel_rfl) (by kernel_rfl) (by kernel_rfl) (by kernel_rfl) (by kernel_rfl) (fun _ _ _ h => h) hS (Or.inl ⟨by kernel_rfl, ?_⟩) (fun hS1 => ?_); rotate_left; (focus (intro w _; go_simp; first | done | with_reducible rfl)); clear hS; have hS := hS1; clear hS1)
  (refine wpAnyS_load (i := 5) (c := 9) (T := fun w' => w'.cell? ⟨p, 0, none⟩ = some kv) (v := ?_) rfl (by kernel_rfl) (by kernel_rfl) (by kernel_rfl) (by kernel_rfl) (by kernel_rfl) (by kernel_rfl) (by kernel_rfl) (by simp) (fun _ _ _ h => h) hS (Or.inl ⟨by kernel_rfl, ?_⟩) (fun hS1 => ?_); rotate_left; (focus (intro w hT; go_simp; first | done | with_reducible rfl)); clear hS; have hS := hS1; clear hS1)
  (refine wpAnyS_take (i := 6) (v := ?_) rfl (by kernel_rfl) (by kernel_rfl) (by kernel_rfl) (by kernel_rfl) (by kernel_rfl) (by kernel_rfl) (fun _ _ _ h => h) hS (Or.inl ⟨by kernel_rfl, ?_⟩) (fun hS1 => ?_); rotate_left; (focus (intro w _; go_simp; first | done | with_reducible rfl)); clear hS; have hS := hS1; clear hS1)
  (refine wpAnyS_take (i := 7) (v := ?_) rfl (by kernel_rfl) (by kernel_rfl) (by kernel_rfl) (by kernel_rfl) (by kernel_rfl) (by kernel_rfl) (fun _ _ _ h => h) hS (Or.inl ⟨by kernel_rfl, ?_⟩) (fun hS1 => ?_); rotate_left; (focus (intro w _; go_simp; first | done | with_reducible rfl)); clear hS; have hS := hS1; clear hS1)
  (refine wpAnyS_take (i := 8) (v := ?_) rfl (by kernel_rfl) (by kernel_rfl) (by kernel_rfl) (by kernel_rfl) (by kernel_rfl) (by kernel_rfl) (fun _ _ _ h => h) hS (Or.inl ⟨by kernel_rfl, ?_⟩) (fun hS1 => ?_); rotate_left; (focus (intro w _; go_simp; first | done | with_reducible rfl)); clear hS; have hS := hS1; clear hS1)
  (refine wpAnyS_take (i := 10) (v := ?_) rfl (by kernel_rfl) (by kernel_rfl) (by kernel_rfl) (by kernel_rfl) (by kernel_rfl) (by kernel_rfl) (fun _ _ _ h => h) hS (Or.inl ⟨by kernel_rfl, ?_⟩) (fun hS1 => ?_); rotate_left; (focus (intro w _; go_simp; first | done | with_reducible rfl)); clear hS; have hS := hS1; clear hS1)
  (refine wpAnyS_take (i := 11) (v := ?_) rfl (by kernel_rfl) (by kernel_rfl) (by kernel_rfl) (by kernel_rfl) (by kernel_rfl) (by kernel_rfl) (fun _ _ _ h => h) hS (Or.inl ⟨by kernel_rfl, ?_⟩) (fun hS1 => ?_); rotate_left; (focus (intro w _; go_simp; first | done | with_reducible rfl)); clear hS; have hS := hS1; clear hS1)
  (refine wpAnyS_take (i := 12) (v := ?_) rfl (by kernel_rfl) (by kernel_rfl) (by kernel_rfl) (by kernel_rfl) (by kernel_rfl) (by kernel_rfl) (fun _ _ _ h => h) hS (Or.inl ⟨by kernel_rfl, ?_⟩) (fun hS1 => ?_); rotate_left; (focus (intro w _; go_simp; first | done | with_reducible rfl)); clear hS; have hS := hS1; clear hS1)
  (refine wpAnyS_load (i := 13) (c := 17) (T := fun w' => w'.cell? ⟨p, 1, none⟩ = some vv) (v := ?_) rfl (by kernel_rfl) (by kernel_rfl) (by kernel_rfl) (by kernel_rfl) (by kernel_rfl) (by kernel_rfl) (by kernel_rfl) (by simp) (fun _ _ _ h => h) hS (Or.inl ⟨by kernel_rfl, ?_⟩) (fun hS1 => ?_); rotate_left; (focus (intro w hT; go_simp; first | done | with_reducible rfl)); clear hS; have hS := hS1; clear hS1)
  (refine wpAnyS_take (i := 14) (v := ?_) rfl (by kernel_rfl) (by kernel_rfl) (by kernel_rfl) (by kernel_rfl) (by kernel_rfl) (by kernel_rfl) (fun _ _ _ h => h) hS (Or.inl ⟨by kernel_rfl, ?_⟩) (fun hS1 => ?_); rotate_left; (focus (intro w _; go_simp; first | done | with_reducible rfl)); clear hS; have hS := hS1; clear hS1)
  (refine wpAnyS_take (i := 15) (v := ?_) rfl (by kernel_rfl) (by kernel_rfl) (by kernel_rfl) (by kernel_rfl) (by kernel_rfl) (by kernel_rfl) (fun _ _ _ h => h) hS (Or.inl ⟨by kernel_rfl, ?_⟩) (fun hS1 => ?_); rotate_left; (focus (intro w _; go_simp; first | done | with_reducible rfl)); clear hS; have hS := hS1; clear hS1)
  (refine wpAnyS_take (i := 16) (v := ?_) rfl (by kernel_rfl) (by kernel_rfl) (by kernel_rfl) (by kernel_rfl) (by kernel_rfl) (by kernel_rfl) (fun _ _ _ h => h) hS (Or.inl ⟨by kernel_rfl, ?_⟩) (fun hS1 => ?_); rotate_left; (focus (intro w _; go_simp; first | done | with_reducible rfl)); clear hS; have hS := hS1; clear hS1)
  refine wpAnyS_ready (rs := [9]) (by kernel_rfl) (by simp) ?_
  refine AllReadyS.cons rfl (fun K hK => ?_) AllReadyS.nil
  go_simp
  ((with_reducible refine (HH.out.delK hmax hpl (by ((repeat' (first | exact Below.refl _ _ | assumption | (refine Below_alloc ?_ ?_ _) | (refine Below_ext ?_ ?_ _ _) | (refine Below_setCell ?_ _ _ _ ?_) | apply Below.drew | refine Below_drewN ?_ _)) <;> first | done | (simp; done) | (simp; omega)))).mono ?_))
  rintro e w1 ⟨g1, c1, rfl, hown1, hkp1, hg1⟩
  obtain ⟨hq, hf, hh, hkw⟩ := HH.out.after1 (by ((repeat' (first | exact Below.refl _ _ | assumption | (refine Below_alloc ?_ ?_ _) | (refine Below_ext ?_ ?_ _ _) | (refine Below_setCell ?_ _ _ _ ?_) | apply Below.drew | refine Below_drewN ?_ _)) <;> first | done | (simp; done) | (simp; omega))) hkp1
  have HK1 := Lib.hid (And.intro hown1 (And.intro hg1 hkw))
  clear hown1 hkp1 hg1 hkw
  simp only []
  refine hK.out _ _ ?_ (fun hS1 => ?_)
  · clear hK hS; (intro x hx hl; simp only [List.mem_cons, List.not_mem_nil, or_false] at hx; rcases hx with rfl | rfl; all_goals (first | exact Bool.noConfusion (show true = false from hl) | (show World.cell? _ _ = _; go_simp; done)))
  clear hK K hS
  have hS := hS1
  clear hS1
  refine wpAnyS_ready (rs := [17]) (by kernel_rfl) (by simp) ?_
  refine AllReadyS.cons rfl (fun K hK => ?_) AllReadyS.nil
  go_simp
  ((with_reducible refine (HH.out.delV hmax hpl (by have := HK1.out.2.2; exact (by (repeat' (first | assumption | refine Kp.ext ?_ _ _ | refine Kp.alloc ?_ _ | refine Kp.drew ?_))))).mono ?_))
  rintro e w2 ⟨g2, c2, rfl, hown2, hkp2, hg2⟩
  obtain ⟨hq2, hf2, hh2, hkw2⟩ := HH.out.after2 (by have := HK1.out.2.2; exact (by (repeat' (first | assumption | refine Kp.ext ?_ _ _ | refine Kp.alloc ?_ _ | refine Kp.drew ?_)))) hkp2
  have HK2 := Lib.hid (And.intro hown2 (And.intro hg2 (And.intro hkp2 hkw2)))
  clear hown2 hkp2 hg2 hkw2
  simp only []
  refine hK.out _ _ ?_ (fun hS1 => ?_)
  · clear hK hS; (intro x hx hl; simp only [List.mem_cons, List.not_mem_nil, or_false] at hx; rcases hx with rfl | rfl; all_goals (first | exact Bool.noConfusion (show true = false from hl) | (show World.cell? _ _ = _; go_simp; done)))
  clear hK K hS
  have hS := hS1
  clear hS1
  (refine wpAnyS_take (i := 18) (v := ?_) rfl (by kernel_rfl) (by kernel_rfl) (by kernel_rfl) (by kernel_rfl) (by kernel_rfl) (by kernel_rfl) (fun _ _ _ h => h) hS (Or.inl ⟨by kernel_rfl, ?_⟩) (fun hS1 => ?_); rotate_left; (focus (intro w _; go_simp; first | done | with_reducible rfl)); clear hS; have hS := hS1; clear hS1)
  (refine wpAnyS_take (i := 19) (v := ?_) rfl (by kernel_rfl) (by kernel_rfl) (by kernel_rfl) (by kernel_rfl) (by kernel_rfl) (by kernel_rfl) (fun _ _ _ h => h) hS (Or.inl ⟨by kernel_rfl, ?_⟩) (fun hS1 => ?_); rotate_left; (focus (intro w _; go_simp; first | done | with_reducible rfl)); clear hS; have hS := hS1; clear hS1)
  refine wpAnyS_ready (rs := [20]) (by kernel_rfl) (by simp) ?_
  refine AllReadyS.cons rfl (fun K hK => ?_) AllReadyS.nil
  go_simp
  refine hK.out _ _ ?_ (fun hS1 => ?_)
  · clear hK hS; (intro x hx hl; simp only [List.mem_cons, List.not_mem_nil, or_false] at hx; rcases hx with rfl | rfl; all_goals (first | exact Bool.noConfusion (show true = false from hl) | (show World.cell? _ _ = _; go_simp; done)))
  clear hK K hS
  have hS := hS1
  clear hS1
  (refine wpAnyS_take (i := 21) (v := ?_) rfl (by kernel_rfl) (by kernel_rfl) (by kernel_rfl) (by kernel_rfl) (by kernel_rfl) (by kernel_rfl) (fun _ _ _ h => h) hS (Or.inl ⟨by kernel_rfl, ?_⟩) (fun hS1 => ?_); rotate_left; (focus (intro w _; go_simp; first | done | with_reducible rfl)); clear hS; have hS := hS1; clear hS1)
  (refine wpAnyS_take (i := 22) (v := ?_) rfl (by kernel_rfl) (by kernel_rfl) (by kernel_rfl) (by kernel_rfl) (by kernel_rfl) (by kernel_rfl) (fun _ _ _ h => h) hS (Or.inl ⟨by kernel_rfl, ?_⟩) (fun hS1 => ?_); rotate_left; (focus (intro w _; go_simp; first | done | with_reducible rfl)); clear hS; have hS := hS1; clear hS1)
  refine wpAnyS_ready (rs := [23]) (by kernel_rfl) (by simp) ?_
  refine AllReadyS.cons rfl (fun K hK => ?_) AllReadyS.nil
  go_simp
  refine hK.out _ _ ?_ (fun hS1 => ?_)
  · clear hK hS; (intro x hx hl; simp only [List.mem_cons, List.not_mem_nil, or_false] at hx; rcases hx with rfl | rfl; all_goals (first | exact Bool.noConfusion (show true = false from hl) | (show World.cell? _ _ = _; go_simp; done)))
  clear hK K hS
  have hS := hS1
  clear hS1
  refine wpAnyS_done (by kernel_rfl) ?_ _
  go_wp2
  go_end0
  exact HH.out.turned HML.out HMK.out HMV.out (by have := HK1.out.2.2; exact (by (repeat' (first | assumption | refine Kp.ext ?_ _ _ | refine Kp.alloc ?_ _ | refine Kp.drew ?_)))) HK2.out.2.2.1 (by have := HK1.out.1; exact (by (repeat' (first | assumption | refine owns_ext ?_ _ _ | refine World.ownsRow.alloc ?_ _ | refine World.ownsRow.drew ?_)))) HK2.out.1 (.inl HK1.out.2.1) (.inl HK2.out.2.1) hbase

theorem drop_any (base p : Nat) (kv vv : Value) (m : List PairD) (k : Int) (w : World) (h : MapAt base w p kv vv m) (hmax : m.length ≤ 100000000) :
    Calls Try.prog 45 #[.pointer (some ⟨p, 0, none⟩), .int .u64 k] w (Turned base p kv vv (dropM m k) w) := by
  cases his : isAt (keysOf m) k with
  | true => exact drop_at base p kv vv m k w h hmax his
  | false => exact drop_no base p kv vv m k w h hmax his
end Go.Proofs.Ytofhaechpllaoaa
namespace Go.Proofs.Ytofhaechpllaoaa

def Rising (l : List PairD) : Prop := l.Pairwise fun a b => a.key < b.key

theorem bs_spec (p : Int → Bool) (ks : List Int) (hm : ∀ (i j : Nat) (x y : Int), i ≤ j → ks[i]? = some x → ks[j]? = some y → p y = true → p x = true) :
    ∀ (d lo hi : Nat), d = hi - lo → lo ≤ hi → hi ≤ ks.length → (∀ j x, j < lo → ks[j]? = some x → p x = true) → (∀ j x, hi ≤ j → ks[j]? = some x → p x = false) →
      ∀ j x, ks[j]? = some x → (p x = true ↔ j < bs p ks lo hi) := by
  intro d
  induction d using Nat.strongRecOn with
  | _ d ih =>
    intro lo hi hd hl hh h1 h2 j x hj
    by_cases hlt : lo < hi
    · have hml : lo + (hi - lo) / 2 < ks.length := by omega
      rw [bs_step p ks hlt (List.getElem?_eq_getElem hml)]
      by_cases hp : p ks[lo + (hi - lo) / 2] = true
      · rw [if_pos hp]
        exact ih _ (by omega) (lo + (hi - lo) / 2 + 1) hi rfl (by omega) hh
          (fun j' x' hj' hx' => hm j' (lo + (hi - lo) / 2) x' _ (by omega) hx' (List.getElem?_eq_getElem hml) hp) h2 j x hj
      · rw [if_neg hp]
        refine ih _ (by omega) lo (lo + (hi - lo) / 2) rfl (by omega) (by omega) h1 (fun j' x' hj' hx' => ?_) j x hj
        cases hx : p x' with
        | false => rfl
        | true => exact absurd (hm (lo + (hi - lo) / 2) j' _ x' (by omega) (List.getElem?_eq_getElem hml) hx' hx) hp
    · rw [bs_done _ _ hlt]
      constructor
      · intro hp
        rcases Nat.lt_or_ge j lo with h | h
        · exact h
        · have := h2 j x (by omega) hj
          rw [hp] at this; cases this
      · intro hj'; exact h1 j x hj' hj

theorem rising_get {l : List PairD} (h : Rising l) {i j : Nat} {a b : PairD} (hij : i < j) (hi : l[i]? = some a) (hj : l[j]? = some b) : a.key < b.key := by
  obtain ⟨h1, rfl⟩ := List.getElem?_eq_some_iff.1 hi
  obtain ⟨h2, rfl⟩ := List.getElem?_eq_some_iff.1 hj
  exact List.pairwise_iff_getElem.1 h i j h1 h2 hij
theorem rising_get_le {l : List PairD} (h : Rising l) {i j : Nat} {a b : PairD} (hij : i ≤ j) (hi : l[i]? = some a) (hj : l[j]? = some b) : a.key ≤ b.key := by
  rcases Nat.lt_or_eq_of_le hij with h1 | h1
  · exact Int.le_of_lt (rising_get h h1 hi hj)
  · subst h1; rw [hi] at hj; cases hj; exact Int.le_refl _

theorem keysOf_get (l : List PairD) (j : Nat) : (keysOf l)[j]? = (l[j]?).map (·.key) := by simp [keysOf]

/-- The place of a key among rising ones: whoever is ahead of it is less, whoever is not is not. -/
theorem place_spec {l : List PairD} (h : Rising l) (k : Int) (j : Nat) (q : PairD) (hj : l[j]? = some q) : q.key < k ↔ j < place (keysOf l) k := by
  have hm : ∀ (i j : Nat) (x y : Int), i ≤ j → (keysOf l)[i]? = some x → (keysOf l)[j]? = some y → passed 1 k y = true → passed 1 k x = true := by
    intro i j x y hij hx hy hp
    rw [keysOf_get] at hx hy
    obtain ⟨a, ha, rfl⟩ := Option.map_eq_some_iff.1 hx
    obtain ⟨b, hb, rfl⟩ := Option.map_eq_some_iff.1 hy
    have := rising_get_le h hij ha hb
    simp only [passed, if_true, decide_eq_true_eq] at hp ⊢
    omega
  have := bs_spec (passed 1 k) (keysOf l) hm _ 0 (keysOf l).length rfl (Nat.zero_le _) (Nat.le_refl _) (fun j x hj _ => absurd hj (by omega))
    (fun j x hj hx => by rw [List.getElem?_eq_none hj] at hx; cases hx) j q.key (by rw [keysOf_get, hj]; rfl)
  simpa [passed, place] using this

def putL : List PairD → Int → Int → List PairD
  | [], k, v => [⟨k, v⟩]
  | q :: l, k, v => if q.key < k then q :: putL l k v else if q.key = k then ⟨k, v⟩ :: l else ⟨k, v⟩ :: q :: l

theorem putL_at (k v : Int) : ∀ (l : List PairD) (i : Nat), (∀ j q, l[j]? = some q → (q.key < k ↔ j < i)) → i ≤ l.length →
    putL l k v = if (l[i]?).map (·.key) = some k then l.set i ⟨k, v⟩ else l.take i ++ ⟨k, v⟩ :: l.drop i := by
  intro l
  induction l with
  | nil => intro i _ hi; simp at hi; subst hi; simp [putL]
  | cons q l ih =>
    intro i h hi
    cases i with
    | zero =>
      have h0 := h 0 q rfl
      have hn : ¬ q.key < k := by simpa using h0
      rw [putL, if_neg hn]
      by_cases he : q.key = k
      · simp [he]
      · simp [he]
    | succ i =>
      have h0 : q.key < k := (h 0 q rfl).2 (by omega)
      rw [putL, if_pos h0, ih i (fun j q' hj => by have := h (j + 1) q' (by simpa using hj); omega) (by simpa using hi)]
      simp only [List.getElem?_cons_succ, List.set_cons_succ, List.take_succ_cons, List.drop_succ_cons, List.cons_append]
      split <;> rfl

theorem putM_eq {l : List PairD} (h : Rising l) (k v : Int) : putM l k v = putL l k v := by
  have hle : place (keysOf l) k ≤ l.length := by have := place_le (keysOf l) k; simpa [keysOf] using this
  rw [putL_at k v l (place (keysOf l) k) (fun j q hj => place_spec h k j q hj) hle]
  unfold putM isAt
  rw [keysOf_get]
  by_cases he : (l[place (keysOf l) k]?).map (·.key) = some k
  · simp [he]
  · rw [if_neg he, if_neg (by simpa using he)]

/-- What the document's Put makes. -/
def putStep (k v : Int) (st : List PairD × Bool) (q : PairD) : List PairD × Bool :=
  let st1 := if k ≤ q.key ∧ st.2 = false then (st.1 ++ [⟨k, v⟩], true) else st
  if q.key ≠ k then (st1.1 ++ [q], st1.2) else st1
def putFin (k v : Int) (st : List PairD × Bool) : List PairD := if st.2 = true then st.1 else st.1 ++ [⟨k, v⟩]
def putR (l : List PairD) (k v : Int) : List PairD := putFin k v (l.foldl (putStep k v) ([], false))

theorem putStep_done (k v : Int) : ∀ (l out : List PairD), (∀ q ∈ l, k < q.key) → l.foldl (putStep k v) (out, true) = (out ++ l, true) := by
  intro l
  induction l with
  | nil => intro out _; simp
  | cons q l ih =>
    intro out h
    have hq := h q (by simp)
    rw [List.foldl_cons, show putStep k v (out, true) q = (out ++ [q], true) by simp [putStep, show q.key ≠ k by omega], ih _ (fun q' hq' => h q' (by simp [hq']))]
    simp
theorem putR_go (k v : Int) : ∀ (l out : List PairD), Rising l → putFin k v (l.foldl (putStep k v) (out, false)) = out ++ putL l k v := by
  intro l
  induction l with
  | nil => intro out _; simp [putFin, putL]
  | cons q l ih =>
    intro out h
    have hgt : ∀ q' ∈ l, q.key < q'.key := (List.pairwise_cons.1 h).1
    have hl : Rising l := (List.pairwise_cons.1 h).2
    rw [List.foldl_cons, putL]
    by_cases h1 : q.key < k
    · rw [show putStep k v (out, false) q = (out ++ [q], false) by simp [putStep, show ¬ k ≤ q.key by omega, show q.key ≠ k by omega], ih _ hl, if_pos h1]
      simp
    · rw [if_neg h1]
      by_cases h2 : q.key = k
      · rw [show putStep k v (out, false) q = (out ++ [⟨k, v⟩], true) by simp [putStep, h2], putStep_done k v l _ (fun q' hq' => by have := hgt q' hq'; omega), if_pos h2]
        simp [putFin]
      · rw [show putStep k v (out, false) q = (out ++ [⟨k, v⟩] ++ [q], true) by simp [putStep, h2, show k ≤ q.key by omega], putStep_done k v l _ (fun q' hq' => by have := hgt q' hq'; omega), if_neg h2]
        simp [putFin]
theorem putR_eq {l : List PairD} (h : Rising l) (k v : Int) : putR l k v = putL l k v := by
  rw [putR, putR_go k v l [] h]; simp

theorem putL_mem (k v : Int) : ∀ (l : List PairD) (q : PairD), q ∈ putL l k v → q = ⟨k, v⟩ ∨ q ∈ l := by
  intro l
  induction l with
  | nil => intro q h; simpa [putL] using h
  | cons a l ih =>
    intro q h
    rw [putL] at h
    split at h
    · rcases List.mem_cons.1 h with rfl | h
      · exact .inr (by simp)
      · exact (ih q h).imp id (fun h => by simp [h])
    · split at h
      · rcases List.mem_cons.1 h with rfl | h
        · exact .inl rfl
        · exact .inr (by simp [h])
      · rcases List.mem_cons.1 h with rfl | h
        · exact .inl rfl
        · exact .inr h
theorem putL_rising (k v : Int) : ∀ (l : List PairD), Rising l → Rising (putL l k v) := by
  intro l
  induction l with
  | nil => intro _; simp [putL, Rising]
  | cons a l ih =>
    intro h
    have hgt : ∀ q' ∈ l, a.key < q'.key := (List.pairwise_cons.1 h).1
    have hl : Rising l := (List.pairwise_cons.1 h).2
    rw [putL]
    split
    · rename_i h1
      refine List.pairwise_cons.2 ⟨fun q hq => ?_, ih hl⟩
      rcases putL_mem k v l q hq with rfl | hq
      · exact h1
      · exact hgt q hq
    · rename_i h1
      split
      · rename_i h2
        exact List.pairwise_cons.2 ⟨fun q hq => by have := hgt q hq; show k < q.key; omega, hl⟩
      · rename_i h2
        refine List.pairwise_cons.2 ⟨fun q hq => ?_, h⟩
        rcases List.mem_cons.1 hq with rfl | hq
        · show k < q.key; omega
        · have := hgt q hq; show k < q.key; omega

/-- What the document's Drop makes: also what the model's does. -/
def dropR (l : List PairD) (k : Int) : List PairD := l.filter fun q => q.key ≠ k
theorem dropR_rising {l : List PairD} (h : Rising l) (k : Int) : Rising (dropR l k) := List.Pairwise.filter _ h
theorem filter_eraseIdx (k : Int) : ∀ (l : List PairD) (i : Nat), Rising l → (l[i]?).map (·.key) = some k → l.filter (fun q => q.key ≠ k) = l.eraseIdx i := by
  intro l
  induction l with
  | nil => intro i _ h; simp at h
  | cons q l ih =>
    intro i h hi
    have hgt : ∀ q' ∈ l, q.key < q'.key := (List.pairwise_cons.1 h).1
    have hl : Rising l := (List.pairwise_cons.1 h).2
    cases i with
    | zero =>
      have hk : q.key = k := by simpa using hi
      rw [List.filter_cons_of_neg (by simp [hk]), List.eraseIdx_cons_zero]
      refine List.filter_eq_self.2 fun q' hq' => ?_
      have := hgt q' hq'
      simp; omega
    | succ i =>
      have hi' : (l[i]?).map (·.key) = some k := by simpa using hi
      obtain ⟨q', hq', hk'⟩ := Option.map_eq_some_iff.1 hi'
      have := hgt q' (List.mem_of_getElem? hq')
      rw [List.filter_cons_of_pos (by simp; omega), List.eraseIdx_cons_succ, ih i hl hi']
theorem dropM_eq {l : List PairD} (h : Rising l) (k : Int) : dropM l k = dropR l k := by
  unfold dropM isAt dropR
  rw [keysOf_get]
  by_cases he : (l[place (keysOf l) k]?).map (·.key) = some k
  · rw [if_pos (by simpa using he), filter_eraseIdx k l _ h he]
  · rw [if_neg (by simpa using he)]
    refine (List.filter_eq_self.2 fun q hq => ?_).symm
    obtain ⟨j, hj⟩ := List.mem_iff_getElem?.1 hq
    have h1 := place_spec h k j q hj
    suffices q.key ≠ k by simpa using this
    intro hk
    have hjp : place (keysOf l) k ≤ j := by omega
    have hlt : place (keysOf l) k < l.length := by have := (List.getElem?_eq_some_iff.1 hj).1; omega
    have h2 := place_spec h k _ _ (List.getElem?_eq_getElem hlt)
    have h3 := rising_get_le h hjp (List.getElem?_eq_getElem hlt) hj
    exact he (by rw [List.getElem?_eq_getElem hlt]; simp; omega)
end Go.Proofs.Ytofhaechpllaoaa
namespace Go.Proofs.Ytofhaechpllaoaa
open Go Go.RowKit Go.Shelf
attribute [local go_sem] Oper.semAt_some

theorem abides_alloc {β : Type} {B : Nat} {J : β → World → Prop} (h : AbidesFrom B J) {s : β} {W : World} (hs : J s W) (o : Obj) : J s (W.alloc o) :=
  h s W _ none hs (World.grownBy_alloc W o none) (fun r e => by cases e)

/-- What lay in the blocks from lo to n₀ lies on. -/
def Mid (lo n₀ : Nat) (W W' : World) : Prop := W.heap.size ≤ W'.heap.size ∧ ∀ k, lo ≤ k → k < n₀ → k < W.heap.size → W'.heap[k]? = W.heap[k]?
theorem Mid.refl (lo n₀ : Nat) (W : World) : Mid lo n₀ W W := ⟨Nat.le_refl _, fun _ _ _ _ => rfl⟩
theorem Mid.trans {lo n₀ : Nat} {A B C : World} (h : Mid lo n₀ A B) (k : Mid lo n₀ B C) : Mid lo n₀ A C :=
  ⟨Nat.le_trans h.1 k.1, fun i a b c => (k.2 i a b (Nat.lt_of_lt_of_le c h.1)).trans (h.2 i a b c)⟩
theorem Mid.of_below {lo n₀ n₁ : Nat} {A B : World} (h : Below n₁ A B) (hn : n₀ ≤ n₁ := by omega) : Mid lo n₀ A B := ⟨h.size, fun i _ b _ => h.block i (by omega)⟩
theorem Mid.ofB {lo n₀ : Nat} {A B : World} (h : Below A.heap.size A B) : Mid lo n₀ A B := ⟨h.size, fun i _ _ c => h.block i c⟩
theorem Mid.alloc (lo n₀ : Nat) (W : World) (o : Obj) : Mid lo n₀ W (W.alloc o) := .ofB (Joins.below_alloc1 W o)
theorem Mid.cell {lo n₀ : Nat} {W W' : World} (h : Mid lo n₀ W W') {b : Nat} (h1 : lo ≤ b) (h2 : b < n₀) (h3 : W.holds b) (o : Nat) : W'.cell? ⟨b, o, none⟩ = W.cell? ⟨b, o, none⟩ := World.cell?_of_block (w := W) (h.2 b h1 h2 h3)
theorem Mid.put {lo n₀ : Nat} {w : World} (hn : n₀ ≤ w.heap.size) (W : World) (l : Nat) (o o' : Obj) (hl : w.heap.size ≤ l) (h : W.heap[l]? = some o) (h1 : o.isCells = false) (h2 : o.isWalk = false) : Mid lo n₀ W (W.putObj l o') :=
  .of_below (belowK_b hn W l o o' hl h h1 h2) (Nat.le_refl _)

abbrev encP (x : PairD) : Array Value := #[.agg #[.int .u64 x.key, .int .u64 x.val]]

set_option maxRecDepth 100000 in
set_option maxHeartbeats 2000000 in
theorem values1_in (l Bs lo n₀ n : Nat) (hn : 1 ≤ n) (a : Option Addr) (cap : Nat) (ps : List PairD) (hmax : ps.length ≤ 1000000000) (J Jx : List PairD → World → Prop) (B0 : Nat)
    (hJ : AbidesFrom B0 J)
    (hY : ∀ pre x W, J pre W → pre.length < ps.length → YieldAt Fence.wide (n - 1) Try.prog l (encP x) W fun e W' =>
      (e = .returned (.bool true) ∧ J (pre ++ [x]) W' ∧ Mid lo n₀ W W') ∨ (e = .returned (.bool false) ∧ Jx (pre ++ [x]) W'))
    (W : World) (hBs : W.cell? ⟨Bs, 0, none⟩ = some (.slice a ps.length cap)) (hc : Arr W 2 PairD.cells (.slice a ps.length cap) ps) (hlow : ∀ g, (Value.slice a ps.length cap).ownBlock = some g → lo ≤ g ∧ g < n₀) (h0 : J [] W) :
    CallsIn Fence.wide n Try.prog 55 #[.func (.yield l) #[] #[], .pointer (some ⟨Bs, 0, none⟩)] W fun e W' => (∃ v, e = .returned v) ∧
      ((∃ ys, ys = ps ∧ J ys W') ∨ (∃ pre, pre <+: ps ∧ Jx pre W')) := by
  refine callsIn_of_wp Try.func55 rfl trivial ?_ rfl
  simp only [Try.ntmps55, List.size_toArray, List.length_cons, List.length_nil, Nat.reduceAdd, Nat.reduceSub, Array.replicate_succ, Array.replicate_zero, List.push_toArray, List.append_toArray, List.nil_append, List.cons_append]
  gi_wp2
  gi_loopw [7] (fun i wr => ∃ k : Nat, k ≤ ps.length ∧ i = .int .i64 k ∧ J (ps.take k) wr ∧ Mid lo n₀ W wr)
    (fun i _ => ps.length - (intOf i).toNat)
  case atStart => exact ⟨0, Nat.zero_le _, rfl, by simpa using h0, Mid.refl _ _ _⟩
  case round =>
    obtain ⟨k, hk, rfl, hJs, hnx⟩ := hrel
    by_cases hlt : k < ps.length
    · obtain ⟨x, hx⟩ : ∃ x, ps[k]? = some x := ⟨_, List.getElem?_eq_getElem hlt⟩
      obtain ⟨_, _, hv, _, _, q⟩ := hc
      cases hv
      obtain ⟨b, o, rfl, hb, q⟩ := q k x hx
      obtain ⟨hbl, hbn⟩ := hlow b rfl
      have hw1 : wr.holds b := Nat.lt_of_lt_of_le hb hnx.1
      have e0 := (hnx.cell hbl hbn hb (o + k * 2 + 0)).trans (q 0 _ rfl)
      have e1 := (hnx.cell hbl hbn hb (o + k * 2 + 1)).trans (q 1 _ rfl)
      simp only [Nat.add_zero] at e0
      have hts : ps.take k ++ [x] = ps.take (k + 1) := by rw [List.take_add_one, hx]; rfl
      have HT := Lib.hid hts
      have HX := Lib.hid hx
      clear q hx hts
      obtain ⟨fn, tmps, assign, body, hy, hR⟩ := hY _ x (wr.alloc (.cells #[.int .u64 x.key, .int .u64 x.val] 47)) (abides_alloc hJ hJs _) (by rw [List.length_take]; omega)
      gi_wp2
      refine hR.mono ?_
      rintro e W3 (⟨rfl, hJ3, hk3⟩ | ⟨rfl, hJx3⟩)
      · gi_wp2
        go_roundw
        case rel => exact ⟨k + 1, by omega, by go_num, by rw [← HT.out]; exact hJ3, (hnx.trans (Mid.alloc _ _ _ _)).trans hk3⟩
        case measure => simp [intOf]; omega
      · gi_wp2
        refine bodyPost_ret (results_none rfl _ _ _) rfl ?_
        exact ⟨⟨_, rfl⟩, .inr ⟨_, by rw [HT.out]; exact List.take_prefix _ _, hJx3⟩⟩
    · obtain rfl : k = ps.length := by omega
      gi_wp2
      go_end0
      exact ⟨⟨_, rfl⟩, .inl ⟨_, rfl, by simpa using hJs⟩⟩

theorem info_pair : (Try.prog.info? 47).map (fun i => (i.zero, i.size, i.bytes)) = some (some (.agg #[.int .u64 0, .int .u64 0]), 2, 16) := by kernel_rfl

/-- slices.Values: the slice is boxed, the function captures the box. -/
theorem values_any (v : Value) (a : Option Addr) (len cap : Nat) (hv : v = .slice a len cap) (w : World) :
    Calls Try.prog 49 #[v] w fun e w' => e = .returned (.func (.func 55) #[] #[.pointer (some ⟨w.heap.size, 0, none⟩)]) ∧ w' = w.alloc (.cells #[v] 25) := by
  subst hv
  have hmf : ∀ (fn : Fn) (first cap : Array Value) (w : World), (Instr.makeFunc fn first cap).run Try.prog w = .ok (.func fn first cap) w := fun _ _ _ _ => rfl
  go_enter Try.func49, Try.ntmps49
  go_wp2
  go_ret
  exact ⟨rfl, rfl⟩

/-- A function value whose calls tell the pairs of a list, which lies below block n₀. -/
def TellsP (w : World) (lo n₀ : Nat) (f : Value) (ps : List PairD) : Prop :=
  ∃ g a cap, f = .func (.func 55) #[] #[.pointer (some ⟨g, 0, none⟩)] ∧ lo ≤ g ∧ g < n₀ ∧ n₀ ≤ w.heap.size ∧ w.cell? ⟨g, 0, none⟩ = some (.slice a ps.length cap) ∧ Arr w 2 PairD.cells (.slice a ps.length cap) ps ∧
    (∀ h, (Value.slice a ps.length cap).ownBlock = some h → lo ≤ h ∧ h < n₀) ∧ ps.length ≤ 1000000000

theorem tellsP_stops {w : World} {lo n₀ g : Nat} {ps : List PairD} {a : Option Addr} {cap : Nat} (hgl : lo ≤ g) (hg : g < n₀) (hn₀ : n₀ ≤ w.heap.size) (hc : w.cell? ⟨g, 0, none⟩ = some (.slice a ps.length cap)) (ha : Arr w 2 PairD.cells (.slice a ps.length cap) ps)
    (hl : ∀ h, (Value.slice a ps.length cap).ownBlock = some h → lo ≤ h ∧ h < n₀) (hmax : ps.length ≤ 1000000000) (n : Nat) (hn : 1 ≤ n) :
    SeqStopsK Fence.wide n Try.prog 55 #[.pointer (some ⟨g, 0, none⟩)] encP (Mid lo n₀) (fun ys => ys = ps) (fun pre => pre <+: ps) ps.length w := fun l J Jx W hW hJ _ hY h0 =>
  values1_in l g lo n₀ n hn a cap ps hmax J Jx W.heap.size hJ hY W ((hW.cell (p := ⟨g, 0, none⟩) (by show g < _; omega)).trans hc) (ha.below hW) hl h0

theorem owns_base_le {w : World} {b1 b2 e size n : Nat} {v : Value} {xs : List Value} (hb : b1 ≤ b2) (h : w.ownsRow b2 e size v n xs) : w.ownsRow b1 e size v n xs := by
  refine ⟨h.1, h.2.imp id ?_⟩
  rintro ⟨g, cap, cur, h1, h2, h3⟩
  exact ⟨g, cap, cur, h1, by omega, h3⟩
theorem owns_base {w : World} {base e size n : Nat} {v : Value} {xs : List Value} (h : w.ownsRow base e size v n xs) : ∀ g, v.ownBlock = some g → base ≤ g := by
  intro g hg
  rcases h.2 with ⟨rfl, _⟩ | ⟨g', cap, cur, rfl, h1, _⟩
  · cases hg
  · cases hg; exact h1
theorem below_grown {B : Nat} {a x w1 : World} {row : Option Nat} (hg : x.grownBy w1 row) (h : Below B a x) (hr : ∀ g, row = some g → B ≤ g) (hB : B ≤ x.heap.size := by omega) : Below B a w1 :=
  h.trans ⟨hg.os, hg.tape, hg.output, hg.size, fun k hk => hg.block k (Nat.lt_of_lt_of_le hk hB) (fun e => by have := hr k e.symm; omega)⟩

set_option maxRecDepth 100000 in
set_option maxHeartbeats 1000000 in
theorem from_any (base p : Nat) (kv vv : Value) (m : List PairD) (k : Int) (w : World) (h : MapAt base w p kv vv m) (hmax : m.length ≤ 100000000) :
    Calls Try.prog 34 #[.pointer (some ⟨p, 0, none⟩), .int .u64 k] w fun e w' => ∃ f, e = .returned f ∧ TellsP w' w.heap.size w'.heap.size f (m.drop (place (keysOf m) k)) ∧ Below w.heap.size w w' := by
  obtain ⟨i0, hi0, hz0, hzs, hzb⟩ := info_parts info_pair
  have hpl : place (keysOf m) k ≤ m.length := by have := place_le (keysOf m) k; simpa [keysOf] using this
  have H := h.find k (by omega)
  generalize isAt (keysOf m) k = isx at *
  generalize place (keysOf m) k = i at *
  obtain ⟨ak, capk, rfl, hck1, hck2, h3⟩ := owns_shape h.hk
  obtain ⟨av, capv, rfl, hcv1, hcv2, h4⟩ := owns_shape h.hv
  have hp0 : w.cell? ⟨p, 0, none⟩ = some (.slice ak m.length capk) := by simp [World.cell?, h.hp]
  have hp1 : w.cell? ⟨p, 1, none⟩ = some (.slice av m.length capv) := by simp [World.cell?, h.hp]
  have hph : w.holds p := block_lt h.hp
  have HH := Lib.hid h
  clear h
  go_enter Try.func34, Try.ntmps34
  go_wp2_with (go_at_call 47; refine H.mono ?_; rintro e w' ⟨rfl, hbx⟩; obtain ⟨E, nx, rfl⟩ := below_ext hbx; clear hbx)
  clear H
  go_loopg [5, 8] (m.length - i) (fun g l kk wr => ∃ j : Nat, i ≤ j ∧ j ≤ m.length ∧ g = m.length - j ∧ kk = .int .i64 j ∧ wr.ownsRow w.heap.size 47 2 l (j - i) (((m.drop i).take (j - i)).flatMap PairD.cells) ∧ Below w.heap.size w wr)
  case atStart => exact ⟨i, Nat.le_refl _, hpl, rfl, rfl, by simp; exact World.ownsRow_nil _ _ _ _, below_of_ext _ _ _⟩
  case round =>
    obtain ⟨j, hij, hjm, rfl, rfl, hown, hbw⟩ := hrel
    have hq0 : wr.cell? ⟨p, 0, none⟩ = some (.slice ak m.length capk) := (hbw.cell (p := ⟨p, 0, none⟩) hph).trans hp0
    have hq1 : wr.cell? ⟨p, 1, none⟩ = some (.slice av m.length capv) := (hbw.cell (p := ⟨p, 1, none⟩) hph).trans hp1
    have hs := hbw.size
    by_cases hlt : j < m.length
    · rcases h3 with ⟨_, h0, _⟩ | ⟨gk, curk, rfl, hbk, hgk, hcurk, hszk, htkk⟩
      · omega
      rcases h4 with ⟨_, h0, _⟩ | ⟨gv, curv, rfl, hbv, hgv, hcurv, hszv, htkv⟩
      · omega
      obtain ⟨x, hx⟩ : ∃ x, m[j]? = some x := ⟨_, List.getElem?_eq_getElem hlt⟩
      have hkc : wr.cell? ⟨gk, j, none⟩ = some (.int .u64 x.key) := (hbw.cell (p := ⟨gk, j, none⟩) hgk).trans (keysV_cell curk hcurk htkk hx)
      have hvc : wr.cell? ⟨gv, j, none⟩ = some (.int .u64 x.val) := (hbw.cell (p := ⟨gv, j, none⟩) hgv).trans (valsV_cell curv hcurv htkv hx)
      have hj1 : (j : Int) < (m.length : Int) := by omega
      have hj0 : (0 : Int) ≤ (j : Int) := by omega
      have HX := Lib.hid hx
      have HO := Lib.hid hown
      clear hx hcurk htkk hcurv htkv hown
      go_wp2
      have hS : HeldTill [(16, fun w' => w'.cell? ⟨p, 0, none⟩ = some (.slice (some ⟨gk, 0, none⟩) m.length capk)), (16, fun w' => w'.cell? ⟨p, 1, none⟩ = some (.slice (some ⟨gv, 0, none⟩) m.length capv)), (16, fun w' => w'.cell? ⟨gk, j, none⟩ = some (.int .u64 x.key)), (16, fun w' => w'.cell? ⟨gv, j, none⟩ = some (.int .u64 x.val))] (Array.replicate 19 false) wr.drew := by
        intro x hx _
        simp only [List.mem_cons, List.not_mem_nil, or_false] at hx
        rcases hx with rfl | rfl | rfl | rfl
        all_goals (show World.cell? _ _ = _; go_simp)
      have hlen : (((m.drop i).take (j - i)).flatMap PairD.cells ++ [.int .u64 x.key, .int .u64 x.val]) = ((m.drop i).take (j + 1 - i)).flatMap PairD.cells := by
        rw [show j + 1 - i = (j - i) + 1 by omega, List.take_add_one, List.getElem?_drop, show i + (j - i) = j by omega, HX.out]
        simp [PairD.cells]
      have HLEN := Lib.hid hlen
      clear hlen
      refine wp_region_S [(16, fun w' => w'.cell? ⟨p, 0, none⟩ = some (.slice (some ⟨gk, 0, none⟩) m.length capk)), (16, fun w' => w'.cell? ⟨p, 1, none⟩ = some (.slice (some ⟨gv, 0, none⟩) m.length capv)), (16, fun w' => w'.cell? ⟨gk, j, none⟩ = some (.int .u64 x.key)), (16, fun w' => w'.cell? ⟨gv, j, none⟩ = some (.int .u64 x.val))] (by kernel_rfl) ?_
      (refine wpAnyS_take (i := 0) (v := ?_) rfl (by kernel_rfl) (by kernel_rfl) (by kernel_rfl) (by kernel_rfl) (by kernel_rfl) (by kernel_rfl) (fun _ _ _ h => h) hS (Or.inl ⟨by kernel_rfl, ?_⟩) (fun hS1 => ?_); rotate_left; (focus (intro w _; go_simp; first | done | with_reducible rfl)); clear hS; have hS := hS1; clear hS1)
      (refine wpAnyS_take (i := 1) (v := ?_) rfl (by kernel_rfl) (by kernel_rfl) (by kernel_rfl) (by kernel_rfl) (by kernel_rfl) (by kernel_rfl) (fun _ _ _ h => h) hS (Or.inl ⟨by kernel_rfl, ?_⟩) (fun hS1 => ?_); rotate_left; (focus (intro w _; go_simp; first | done | with_reducible rfl)); clear hS; have hS := hS1; clear hS1)
      (refine wpAnyS_take (i := 2) (v := ?_) rfl (by kernel_rfl) (by kernel_rfl) (by kernel_rfl) (by kernel_rfl) (by kernel_rfl) (by kernel_rfl) (fun _ _ _ h => h) hS (Or.inl ⟨by kernel_rfl, ?_⟩) (fun hS1 => ?_); rotate_left; (focus (intro w _; go_simp; first | done | with_reducible rfl)); clear hS; have hS := hS1; clear hS1)
      (refine wpAnyS_take (i := 3) (v := ?_) rfl (by kernel_rfl) (by kernel_rfl) (by kernel_rfl) (by kernel_rfl) (by kernel_rfl) (by kernel_rfl) (fun _ _ _ h => h) hS (Or.inl ⟨by kernel_rfl, ?_⟩) (fun hS1 => ?_); rotate_left; (focus (intro w _; go_simp; first | done | with_reducible rfl)); clear hS; have hS := hS1; clear hS1)
      (refine wpAnyS_load (i := 4) (c := 16) (T := fun w' => w'.cell? ⟨p, 0, none⟩ = some (.slice (some ⟨gk, 0, none⟩) m.length capk)) (v := ?_) rfl (by kernel_rfl) (by kernel_rfl) (by kernel_rfl) (by kernel_rfl) (by kernel_rfl) (by kernel_rfl) (by kernel_rfl) (by simp) (fun _ _ _ h => h) hS (Or.inl ⟨by kernel_rfl, ?_⟩) (fun hS1 => ?_); rotate_left; (focus (intro w hT; go_simp; first | done | with_reducible rfl)); clear hS; have hS := hS1; clear hS1)
      (refine wpAnyS_take (i := 5) (v := ?_) rfl (by kernel_rfl) (by kernel_rfl) (by kernel_rfl) (by kernel_rfl) (by kernel_rfl) (by kernel_rfl) (fun _ _ _ h => h) hS (Or.inl ⟨by kernel_rfl, ?_⟩) (fun hS1 => ?_); rotate_left; (focus (intro w _; go_simp; first | done | with_reducible rfl)); clear hS; have hS := hS1; clear hS1)
      (refine wpAnyS_take (i := 6) (v := ?_) rfl (by kernel_rfl) (by kernel_rfl) (by kernel_rfl) (by kernel_rfl) (by kernel_rfl) (by kernel_rfl) (fun _ _ _ h => h) hS (Or.inl ⟨by kernel_rfl, ?_⟩) (fun hS1 => ?_); rotate_left; (focus (intro w _; go_simp; first | done | with_reducible rfl)); clear hS; have hS := hS1; clear hS1)
      (refine wpAnyS_load (i := 7) (c := 16) (T := fun w' => w'.cell? ⟨gk, j, none⟩ = some (.int .u64 x.key)) (v := ?_) rfl (by kernel_rfl) (by kernel_rfl) (by kernel_rfl) (by kernel_rfl) (by kernel_rfl) (by kernel_rfl) (by kernel_rfl) (by simp) (fun _ _ _ h => h) hS (Or.inl ⟨by kernel_rfl, ?_⟩) (fun hS1 => ?_); rotate_left; (focus (intro w hT; go_simp; first | done | with_reducible rfl)); clear hS; have hS := hS1; clear hS1)
      (refine wpAnyS_take (i := 8) (v := ?_) rfl (by kernel_rfl) (by kernel_rfl) (by kernel_rfl) (by kernel_rfl) (by kernel_rfl) (by kernel_rfl) (fun _ _ _ h => h) hS (Or.inl ⟨by kernel_rfl, ?_⟩) (fun hS1 => ?_); rotate_left; (focus (intro w _; go_simp; first | done | with_reducible rfl)); clear hS; have hS := hS1; clear hS1)
      (refine wpAnyS_take (i := 9) (v := ?_) rfl (by kernel_rfl) (by kernel_rfl) (by kernel_rfl) (by kernel_rfl) (by kernel_rfl) (by kernel_rfl) (fun _ _ _ h => h) hS (Or.inl ⟨by kernel_rfl, ?_⟩) (fun hS1 => ?_); rotate_left; (focus (intro w _; go_simp; first | done | with_reducible rfl)); clear hS; have hS := hS1; clear hS1)
      (refine wpAnyS_take (i := 10) (v := ?_) rfl (by kernel_rfl) (by kernel_rfl) (by kernel_rfl) (by kernel_rfl) (by kernel_rfl) (by kernel_rfl) (fun _ _ _ h => h) hS (Or.inl ⟨by kernel_rfl, ?_⟩) (fun hS1 => ?_); rotate_left; (focus (intro w _; go_simp; first | done | with_reducible rfl)); clear hS; have hS := hS1; clear hS1)
      (refine wpAnyS_load (i := 11) (c := 16) (T := fun w' => w'.cell? ⟨p, 1, none⟩ = some (.slice (some ⟨gv, 0, none⟩) m.length capv)) (v := ?_) rfl (by kernel_rfl) (by kernel_rfl) (by kernel_rfl) (by kernel_rfl) (by kernel_rfl) (by kernel_rfl) (by kernel_rfl) (by simp) (fun _ _ _ h => h) hS (Or.inl ⟨by kernel_rfl, ?_⟩) (fun hS1 => ?_); rotate_left; (focus (intro w hT; go_simp; first | done | with_reducible rfl)); clear hS; have hS := hS1; clear hS1)
      (refine wpAnyS_take (i := 12) (v := ?_) rfl (by kernel_rfl) (by kernel_rfl) (by kernel_rfl) (by kernel_rfl) (by kernel_rfl) (by kernel_rfl) (fun _ _ _ h => h) hS (Or.inl ⟨by kernel_rfl, ?_⟩) (fun hS1 => ?_); rotate_left; (focus (intro w _; go_simp; first | done | with_reducible rfl)); clear hS; have hS := hS1; clear hS1)
      (refine wpAnyS_take (i := 13) (v := ?_) rfl (by kernel_rfl) (by kernel_rfl) (by kernel_rfl) (by kernel_rfl) (by kernel_rfl) (by kernel_rfl) (fun _ _ _ h => h) hS (Or.inl ⟨by kernel_rfl, ?_⟩) (fun hS1 => ?_); rotate_left; (focus (intro w _; go_simp; first | done | with_reducible rfl)); clear hS; have hS := hS1; clear hS1)
      (refine wpAnyS_load (i := 14) (c := 16) (T := fun w' => w'.cell? ⟨gv, j, none⟩ = some (.int .u64 x.val)) (v := ?_) rfl (by kernel_rfl) (by kernel_rfl) (by kernel_rfl) (by kernel_rfl) (by kernel_rfl) (by kernel_rfl) (by kernel_rfl) (by simp) (fun _ _ _ h => h) hS (Or.inl ⟨by kernel_rfl, ?_⟩) (fun hS1 => ?_); rotate_left; (focus (intro w hT; go_simp; first | done | with_reducible rfl)); clear hS; have hS := hS1; clear hS1)
      (refine wpAnyS_take (i := 15) (v := ?_) rfl (by kernel_rfl) (by kernel_rfl) (by kernel_rfl) (by kernel_rfl) (by kernel_rfl) (by kernel_rfl) (fun _ _ _ h => h) hS (Or.inl ⟨by kernel_rfl, ?_⟩) (fun hS1 => ?_); rotate_left; (focus (intro w _; go_simp; first | done | with_reducible rfl)); clear hS; have hS := hS1; clear hS1)
      refine wpAnyS_ready (rs := [16]) (by kernel_rfl) (by simp) ?_
      refine AllReadyS.cons rfl (fun K hK => ?_) AllReadyS.nil
      go_simp
      refine hK.out _ _ ?_ (fun hS1 => ?_)
      · clear hK hS; (intro x hx hl; simp only [List.mem_cons, List.not_mem_nil, or_false] at hx; rcases hx with rfl | rfl | rfl | rfl; all_goals (first | exact Bool.noConfusion (show true = false from hl) | (show World.cell? _ _ = _; go_simp; done)))
      clear hK K hS
      have hS := hS1
      clear hS1
      refine wpAnyS_ready (rs := [17]) (by kernel_rfl) (by simp) ?_
      refine AllReadyS.cons rfl (fun K hK => ?_) AllReadyS.nil
      skip
      refine step_append_lies _ rfl (.tmp 27) (.tmp 43) 25 rfl w.heap.size 47 i0 _ 2 16 Try.underlying25 hi0 hz0 hzs hzb rfl (by omega) _ (j - i) _ rfl (by have := HO.out; exact World.ownsRow.drew (this.alloc _)) ⟨wr.heap.size, 0, none⟩ 1 1 [.int .u64 x.key, .int .u64 x.val] (by rfl) (by rfl) (World.news_of_block (cs := #[.int .u64 x.key, .int .u64 x.val]) (t := 47) (fr := (0, 0)) (heap_alloc_new wr _)) (by simp [Value.oneCell']) (by omega) (by unfold maxLen; omega) (by omega) (by simp; omega) (wr.heap.size + 1) (by simp) ?_
      intro g1 c1 w1 hown1 hgrow hat hlt1
      have HO1 := Lib.hid (And.intro hown1 (And.intro hgrow hat))
      clear hown1 hgrow hat
      simp only [Act.put]
      refine hK.out _ _ ?_ (fun hS1 => ?_)
      · clear hK hS; (intro x hx hl; simp only [List.mem_cons, List.not_mem_nil, or_false] at hx; rcases hx with rfl | rfl | rfl | rfl; all_goals (first | exact Bool.noConfusion (show true = false from hl) | (show World.cell? _ _ = _; go_simp; done)))
      clear hK K hS
      have hS := hS1
      clear hS1
      (refine wpAnyS_take (i := 18) (v := ?_) rfl (by kernel_rfl) (by kernel_rfl) (by kernel_rfl) (by kernel_rfl) (by kernel_rfl) (by kernel_rfl) (fun _ _ _ h => h) hS (Or.inl ⟨by kernel_rfl, ?_⟩) (fun hS1 => ?_); rotate_left; (focus (intro w _; go_simp; first | done | with_reducible rfl)); clear hS; have hS := hS1; clear hS1)
      refine wpAnyS_done (by kernel_rfl) ?_ _
      go_wp2
      go_roundg (m.length - (j + 1))
      case rel =>
        obtain ⟨O1, O2, O3⟩ := HO1.out
        rw [HLEN.out, show j - i + 1 = j + 1 - i by omega] at O1
        exact ⟨j + 1, by omega, by omega, rfl, by go_num, by rw [show j - i + 1 = j + 1 - i by omega]; exact O1, below_grown O2 (by ((repeat' (first | exact Below.refl _ _ | assumption | (refine Below_alloc ?_ ?_ _) | (refine Below_ext ?_ ?_ _ _) | (refine Below_setCell ?_ _ _ _ ?_) | apply Below.drew | refine Below_drewN ?_ _)) <;> first | done | (simp; done) | (simp; omega))) (owns_base HO.out) (by simp; omega)⟩
      case measure => omega
    · obtain rfl : j = m.length := by omega
      obtain ⟨al, cl, hul, hl1, hl2, -⟩ := owns_shape hown
      subst hul
      go_wp2_with (go_at_call 49; with_reducible refine (values_any (.slice al (m.length - i) cl) al _ cl rfl _).mono ?_; rintro e w' ⟨rfl, rfl⟩)
      have hl : (m.drop i).length = m.length - i := List.length_drop
      have ha : Arr wr 2 PairD.cells (.slice al (m.drop i).length cl) (m.drop i) := by
        refine Arr.of_owns PairD.cells_len (base := w.heap.size) (e := 47) ?_
        rw [List.take_of_length_le (by omega)] at hown
        rw [hl]; exact hown
      go_ret
      refine ⟨_, rfl, ⟨wr.heap.size, al, cl, rfl, hbw.size, by simp, Nat.le_refl _, ?_, ha.alloc _, ?_, by omega⟩, hbw.alloc hs _⟩
      · simp [hl]
      · intro g hg; rw [hl] at hg; have := owns_lt hown hg; have := owns_base hown g hg; simp; omega
end Go.Proofs.Ytofhaechpllaoaa
namespace Go.Proofs.Ytofhaechpllaoaa
open Go Go.RowKit Go.Shelf
attribute [local go_sem] Oper.semAt_some

theorem TellsP.below {w w' : World} {lo n₀ : Nat} {f : Value} {ps : List PairD} (h : TellsP w lo n₀ f ps) (hb : Below n₀ w w') : TellsP w' lo n₀ f ps := by
  obtain ⟨g, a, cap, e, hg0, hg, hn, hc, ha, hl, hm⟩ := h
  refine ⟨g, a, cap, e, hg0, hg, Nat.le_trans hn hb.size, (hb.cell (p := ⟨g, 0, none⟩) hg).trans hc, ha.of_same hb.size (fun k _ hk => hb.block k (hl k hk).2), hl, hm⟩
theorem TellsP.up {w : World} {lo n₀ : Nat} {f : Value} {ps : List PairD} (h : TellsP w lo n₀ f ps) : TellsP w lo w.heap.size f ps := by
  obtain ⟨g, a, cap, e, hg0, hg, hn, hc, ha, hl, hm⟩ := h
  exact ⟨g, a, cap, e, hg0, by omega, Nat.le_refl _, hc, ha, fun k hk => ⟨(hl k hk).1, Nat.lt_of_lt_of_le (hl k hk).2 hn⟩, hm⟩

/-- A block of cells that lies as written. -/
def Lies (W : World) (B : Nat) (cs : Array Value) (t : TypeId) : Prop := W.heap[B]? = some (.cells cs t (0, 0))
theorem lies_own {β : Type} (B : Nat) (t : TypeId) (f : β → Array Value) : Own (fun s W => Lies W B (f s) t) := fun s X Y row hs hg hrow =>
  (hg.block B (Array.getElem?_eq_some_iff.1 (show X.heap[B]? = _ from hs)).1 (fun e' => by obtain ⟨o, ho, hc⟩ := hrow B e'.symm; rw [show X.heap[B]? = _ from hs] at ho; cases ho; cases hc)).trans hs

set_option maxRecDepth 100000 in
set_option maxHeartbeats 2000000 in
theorem appendSeq_any (f : Value) (ps : List PairD) (lo n₀ : Nat) (w : World) (hf : TellsP w lo n₀ f ps) :
    Calls Try.prog 53 #[.slice none 0 0, f] w fun e w' => ∃ v, e = .returned v ∧ w'.ownsRow w.heap.size 47 2 v ps.length (ps.flatMap PairD.cells) ∧ (v = .slice none 0 0 ↔ ps = []) ∧ Below w.heap.size w w' := by
  refine (callsIn_wide (n := 4)).1 ?_
  obtain ⟨i0, hi0, hz0, hzs, hzb⟩ := info_parts info_pair
  have hf' := hf.up
  obtain ⟨g, a, cap, rfl, hg0, hg, hn, hc, ha, hl, hm⟩ := hf'
  refine callsIn_of_wp_marks Try.func53 rfl trivial ?_ rfl
  simp only [Try.ntmps53, List.size_toArray, List.length_cons, List.length_nil, Nat.reduceAdd, Nat.reduceSub, Array.replicate_succ, Array.replicate_zero, List.push_toArray, List.append_toArray, List.nil_append, List.cons_append]
  gi_wp2
  have bO := Boxed.new w 25 (.slice none 0 0)
  have hB0 : Below w.heap.size w (w.alloc (.cells #[.slice none 0 0] 25)) := (Below.refl _ w).alloc (Nat.le_refl _) _
  have hT := tellsP_stops (n₀ := w.heap.size) (w := w.alloc (.cells #[.slice none 0 0] 25)) (g := g) hg0 hg (by simp) ((hB0.cell (p := ⟨g, 0, none⟩) hg).trans hc) (ha.below hB0) hl hm 3 (by omega)
  refine wpIn_rangeFunc_ownH rfl (by omega) (gf := 55) (lb := #[.pointer (some ⟨g, 0, none⟩)]) rfl trivial (enters_of Try.func55 (by kernel_rfl) rfl)
    hT Mid.trans (Mid.put (by simp)) (Below.refl _ _) (fun _ => rfl)
    (fun pre W => (∃ v, Boxed W w.heap.size 25 v ∧ W.ownsRow w.heap.size 47 2 v pre.length (pre.flatMap PairD.cells) ∧ (v = .slice none 0 0 ↔ pre = [])) ∧ Below w.heap.size w W)
    (fun _ _ _ => False)
    (OwnFrom.and (Own.from (holdsRow_own w.heap.size w.heap.size 25 47 2 (fun pre => pre.length) (fun pre => pre.flatMap PairD.cells) (fun pre v => v = .slice none 0 0 ↔ pre = [])) _) (ownFrom_below (Nat.le_refl _) (by simp)))
    (fun _ _ _ _ _ hs _ _ => hs)
    ⟨⟨_, bO, World.ownsRow_nil _ _ _ _, by simp⟩, hB0⟩
    (fun x a' W => ∃ Bx, w.heap.size < Bx ∧ Lies W Bx #[.int .u64 x.key, .int .u64 x.val] 47 ∧ a' = { tmps := #[.slice none 0 0, .func (.func 55) #[] #[.pointer (some ⟨g, 0, none⟩)], .pointer (some ⟨w.heap.size, 0, none⟩), undef, .slice none 0 0, .pointer (some ⟨Bx, 0, none⟩), .func (.func 55) #[] #[.pointer (some ⟨g, 0, none⟩)], .agg #[.int .u64 x.key, .int .u64 x.val], undef, undef, undef, undef, undef], defers := [] })
    (fun x a' _ X Y row hs hg hr => by obtain ⟨Bx, h1, h2, h3⟩ := hs; exact ⟨Bx, h1, lies_own Bx 47 (fun (_ : Unit) => #[.int .u64 x.key, .int .u64 x.val]) () X Y row h2 hg (fun r e => (hr r e).2), h3⟩)
    ?assign ?body ?done ?stop
  case assign =>
    rintro l pre x W K ⟨⟨v, hv, hrow, hnil⟩, hB⟩ hK
    gi_wp2
    exact hK _ _ ((KeepsOthers.alloc _ _).from _) (Mid.alloc _ _ _ _) ⟨⟨v, hv.alloc _, hrow.alloc _, hnil⟩, hB.alloc hB.size _⟩ ⟨W.heap.size, hv.lt, World.alloc_heap_new W _, rfl⟩
  case body =>
    rintro l pre x a' W hl2 - ⟨⟨v, hv, hrow, hnil⟩, hB⟩ ⟨Bx, hBx, bX, rfl⟩ hlt
    have hc := hv.cell
    have hc0 : W.cell? ⟨Bx, 0, none⟩ = some (.int .u64 x.key) := by simp [World.cell?, show W.heap[Bx]? = _ from bX]
    have hc1 : W.cell? ⟨Bx, 1, none⟩ = some (.int .u64 x.val) := by simp [World.cell?, show W.heap[Bx]? = _ from bX]
    have hf1 := hv.frozen
    gi_wp2_with (gi_at_builtin; refine wpListIn_append_own _ rfl _ _ 25 rfl w.heap.size 47 i0 _ 2 16 Try.underlying25 hi0 hz0 hzs hzb rfl (by decide) _ _ _ rfl (hrow.alloc _) ⟨W.heap.size, 0, none⟩ 1 1 [.int .u64 x.key, .int .u64 x.val] rfl rfl (World.news_of_block (cs := #[.int .u64 x.key, .int .u64 x.val]) (t := 47) (fr := (0, 0)) (World.alloc_heap_new W _)) (by simp [Value.oneCell']) (by unfold maxLen; omega) (by omega) (by have := hB.size; simp; omega) ?_; intro v' w1 hown' hgrow _; obtain ⟨g', cap', rfl⟩ := ownsRow_succ hown'; obtain ⟨hv1, hv2, hr2, hk2, hb2⟩ := hv.appended (by decide) hrow hB.size (Nat.le_refl _) hown' hgrow; have hc1 := hv1.cell; have hf1 := hv1.frozen)
    exact ⟨hk2.from _, .of_below hb2, ⟨_, hv2, by simpa [PairD.cells] using hr2, by simp⟩, hB.trans hb2⟩
  case done =>
    rintro D ys W hD rfl ⟨⟨v, hv, hrow, hnil⟩, hB⟩ hK
    have hc := hv.cell
    gi_wp2
    refine ⟨by simp, .inl ⟨_, _, rfl, run_takeDeferred hK, ?_⟩⟩
    exact ⟨_, results_tmp rfl _ _ _, v, rfl, ownsRow_putObj hrow _ hK rfl, hnil, hB.trans (belowK_b (w := w) (Nat.le_refl _) W D _ _ (by simp at hD; omega) hK rfl rfl)⟩
  case stop =>
    rintro D c pre W _ _ h _
    exact h.elim

theorem collect_any (f : Value) (ps : List PairD) (lo n₀ : Nat) (w : World) (hf : TellsP w lo n₀ f ps) :
    Calls Try.prog 46 #[f] w fun e w' => ∃ v, e = .returned v ∧ w'.ownsRow w.heap.size 47 2 v ps.length (ps.flatMap PairD.cells) ∧ (v = .slice none 0 0 ↔ ps = []) ∧ Below w.heap.size w w' := by
  go_enter Try.func46, Try.ntmps46
  go_wp2_with (go_at_call 53; with_reducible refine (appendSeq_any f ps lo n₀ _ hf).mono ?_; rintro e w' ⟨v, rfl, h1, h2, h3⟩)
  go_ret
  exact ⟨_, rfl, h1, h2, h3⟩
end Go.Proofs.Ytofhaechpllaoaa
namespace Go.Proofs.Ytofhaechpllaoaa
open Go Go.RowKit Go.Shelf
attribute [local go_sem] Oper.semAt_some

theorem from_nil (k : Int) (w : World) :
    Calls Try.prog 34 #[.pointer none, .int .u64 k] w fun e w' => ∃ f, e = .returned f ∧ TellsP w' w.heap.size w'.heap.size f [] ∧ Below w.heap.size w w' := by
  go_enter Try.func34, Try.ntmps34
  go_wp2_with (go_at_call 49; with_reducible refine (values_any (.slice none 0 0) none 0 0 rfl _).mono ?_; rintro e w' ⟨rfl, rfl⟩)
  go_ret
  exact ⟨_, rfl, ⟨w.heap.size, none, 0, rfl, Nat.le_refl _, by simp, Nat.le_refl _, by simp, Arr.zero _ _ _ _ _ (by omega), by simp [Value.ownBlock], by simp⟩, (by ((repeat' (first | exact Below.refl _ _ | assumption | (refine Below_alloc ?_ ?_ _) | (refine Below_ext ?_ ?_ _ _) | (refine Below_setCell ?_ _ _ _ ?_) | apply Below.drew | refine Below_drewN ?_ _)) <;> first | done | (simp; done) | (simp; omega)))⟩

def RowP (base : Nat) (w' : World) (v : Value) (ps : List PairD) : Prop := w'.ownsRow base 47 2 v ps.length (ps.flatMap PairD.cells)

theorem pairs_any (base p : Nat) (kv vv : Value) (m : List PairD) (w : World) (h : MapAt base w p kv vv m) (hmax : m.length ≤ 100000000) :
    Calls Try.prog 29 #[.pointer (some ⟨p, 0, none⟩)] w fun e w' => ∃ v, e = .returned v ∧ RowP w.heap.size w' v (m.drop (place (keysOf m) 0)) ∧ Below w.heap.size w w' := by
  have H1 := from_any base p kv vv m 0 w h hmax
  generalize m.drop (place (keysOf m) 0) = ps at *
  clear h
  go_enter Try.func29, Try.ntmps29
  go_wp2_with (first | (go_at_call 34; with_reducible refine H1.mono ?_; rintro e w' ⟨f, rfl, hT, hb⟩; have hT2 := Lib.hid hT; have hb2 := Lib.hid hb; clear hT hb) | (go_at_call 46; with_reducible refine (collect_any f ps _ _ _ hT2.out).mono ?_; rintro e w2 ⟨v, rfl, h1, -, h3⟩))
  go_ret
  exact ⟨_, rfl, owns_base_le hb2.out.size h1, hb2.out.trans (h3.mono hb2.out.size)⟩

theorem pairs_nil (w : World) :
    Calls Try.prog 29 #[.pointer none] w fun e w' => ∃ v, e = .returned v ∧ RowP w.heap.size w' v [] ∧ Below w.heap.size w w' := by
  have H1 := from_nil 0 w
  go_enter Try.func29, Try.ntmps29
  go_wp2_with (first | (go_at_call 34; with_reducible refine H1.mono ?_; rintro e w' ⟨f, rfl, hT, hb⟩; have hT2 := Lib.hid hT; have hb2 := Lib.hid hb; clear hT hb) | (go_at_call 46; with_reducible refine (collect_any f [] _ _ _ hT2.out).mono ?_; rintro e w2 ⟨v, rfl, h1, -, h3⟩))
  go_ret
  exact ⟨_, rfl, owns_base_le hb2.out.size h1, hb2.out.trans (h3.mono hb2.out.size)⟩

theorem infoU : (Try.prog.info? 22).map (fun i => (i.zero, i.size, i.bytes)) = some (some (.int .u64 0), 1, 8) := by kernel_rfl

theorem nilcmp_u64 (w : World) (a : Option Addr) (n c n' c' : Nat) : (binOp .eql 66 (.slice a n c) (.slice none n' c')).run Try.prog w = .ok (.bool a.isNone) w := Lib.run_eql_slice_nil w _ _ a n c n' c' Try.underlying66

set_option maxRecDepth 100000 in
set_option maxHeartbeats 1000000 in
theorem clone_u64_some (b off n c : Nat) (news : List Value) (w : World) (hl : news.length = n * 1) (hn : n ≤ 100000000) (hc : ∀ j u, news[j]? = some u → w.cell? ⟨b, off + j, none⟩ = some u) (h1 : ∀ u ∈ news, u.oneCell' = true) :
    Calls Try.prog 48 #[.slice (some ⟨b, off, none⟩) n c] w fun e w' => ∃ v', e = .returned v' ∧ w'.ownsRow w.heap.size 22 1 v' n news ∧ (v' = .slice none 0 0 ↔ False) ∧ Below w.heap.size w w' := by
  obtain ⟨i0, hi0, hz0, hzs, hzb⟩ := info_parts infoU
  have q22 := nilcmp_u64
  have A := Lib.hid hc
  clear hc
  go_enter Try.func48, Try.ntmps48
  go_wp2_with (at_builtin; refine wpList_append_own _ rfl _ _ 66 rfl w.heap.size 22 i0 _ 1 8 Try.underlying66 hi0 hz0 hzs hzb rfl (by decide) _ _ _ rfl (World.ownsRow_made w #[] 0 (Nat.le_refl _) (Nat.zero_le _) (by simp)) ⟨b, off, none⟩ n c news rfl ?qc1 ?qc2 ?qc3 ?qc4 ?qc5 ?qc6 ?_)
  case qc1 => exact hl
  case qc2 =>
    intro j u hj
    rw [Addr.add_lit]
    exact Lib.cell?_alloc_some _ (A.out j u hj)
  case qc3 => exact h1
  case qc4 => unfold maxLen; omega
  case qc5 => omega
  case qc6 => simp
  intro v' w1 hown hgrow hnil
  go_wp2
  go_ret
  refine ⟨v', rfl, by simpa using hown, by simpa using hnil, ?_⟩
  exact ((Below.refl _ w).alloc (Nat.le_refl _) _).grown hgrow (by simp) (by intro k hk; simp [Value.ownBlock] at hk; omega)

set_option maxRecDepth 100000 in
theorem clone_u64_nil (n c : Nat) (w : World) :
    Calls Try.prog 48 #[.slice none n c] w fun e w' => e = .returned (.slice none 0 0) ∧ w' = w := by
  have q22 := nilcmp_u64
  go_enter Try.func48, Try.ntmps48
  go_wp2
  go_ret
  exact ⟨rfl, rfl⟩

theorem nilcmp_pair (w : World) (a : Option Addr) (n c n' c' : Nat) : (binOp .eql 25 (.slice a n c) (.slice none n' c')).run Try.prog w = .ok (.bool a.isNone) w := Lib.run_eql_slice_nil w _ _ a n c n' c' Try.underlying25

set_option maxRecDepth 100000 in
set_option maxHeartbeats 1000000 in
theorem clone_pair_some (b off n c : Nat) (news : List Value) (w : World) (hl : news.length = n * 2) (hn : n ≤ 100000000) (hc : ∀ j u, news[j]? = some u → w.cell? ⟨b, off + j, none⟩ = some u) (h1 : ∀ u ∈ news, u.oneCell' = true) :
    Calls Try.prog 39 #[.slice (some ⟨b, off, none⟩) n c] w fun e w' => ∃ v', e = .returned v' ∧ w'.ownsRow w.heap.size 47 2 v' n news ∧ (v' = .slice none 0 0 ↔ False) ∧ Below w.heap.size w w' := by
  obtain ⟨i0, hi0, hz0, hzs, hzb⟩ := info_parts info_pair
  have q22 := nilcmp_pair
  have A := Lib.hid hc
  clear hc
  go_enter Try.func39, Try.ntmps39
  go_wp2_with (at_builtin; refine wpList_append_own _ rfl _ _ 25 rfl w.heap.size 47 i0 _ 2 16 Try.underlying25 hi0 hz0 hzs hzb rfl (by decide) _ _ _ rfl (World.ownsRow_made w #[] 0 (Nat.le_refl _) (Nat.zero_le _) (by simp)) ⟨b, off, none⟩ n c news rfl ?qc1 ?qc2 ?qc3 ?qc4 ?qc5 ?qc6 ?_)
  case qc1 => exact hl
  case qc2 =>
    intro j u hj
    rw [Addr.add_lit]
    exact Lib.cell?_alloc_some _ (A.out j u hj)
  case qc3 => exact h1
  case qc4 => unfold maxLen; omega
  case qc5 => omega
  case qc6 => simp
  intro v' w1 hown hgrow hnil
  go_wp2
  go_ret
  refine ⟨v', rfl, by simpa using hown, by simpa using hnil, ?_⟩
  exact ((Below.refl _ w).alloc (Nat.le_refl _) _).grown hgrow (by simp) (by intro k hk; simp [Value.ownBlock] at hk; omega)

set_option maxRecDepth 100000 in
theorem clone_pair_nil (n c : Nat) (w : World) :
    Calls Try.prog 39 #[.slice none n c] w fun e w' => e = .returned (.slice none 0 0) ∧ w' = w := by
  have q22 := nilcmp_pair
  go_enter Try.func39, Try.ntmps39
  go_wp2
  go_ret
  exact ⟨rfl, rfl⟩

theorem clone_own {base : Nat} {v : Value} {xs : List Value} {n : Nat} {w : World} (h : w.ownsRow base 22 1 v n xs) (h1 : ∀ u ∈ xs, u.oneCell' = true) (hmax : n ≤ 100000000) :
    Calls Try.prog 48 #[v] w fun e w' => ∃ a' c', e = .returned (.slice a' n c') ∧ w'.ownsRow w.heap.size 22 1 (.slice a' n c') n xs ∧ Below w.heap.size w w' := by
  have hx := h.1
  obtain ⟨a, c, rfl, hc1, hc2, (⟨rfl, rfl, rfl⟩ | ⟨g, cur, rfl, hb, hg, hcur, hsz, htk⟩)⟩ := owns_shape h
  · refine (clone_u64_nil 0 0 w).mono ?_
    rintro e w' ⟨rfl, rfl⟩
    have hx : xs = [] := by simpa using hx
    subst hx
    exact ⟨_, _, rfl, World.ownsRow_nil _ _ _ _, Below.refl _ _⟩
  · refine (clone_u64_some g 0 n c xs w (by omega) hmax ?_ h1).mono ?_
    · intro j u hj
      rw [← htk, List.getElem?_take] at hj
      split at hj
      · simpa [World.cell?, hcur] using hj
      · cases hj
    · rintro e w' ⟨v', rfl, h1, -, h3⟩
      obtain ⟨a', c', rfl, -⟩ := owns_shape h1
      exact ⟨a', c', rfl, h1, h3⟩

theorem row_ne {w : World} {b1 b2 e1 e2 s1 s2 n1 n2 : Nat} {v1 v2 : Value} {x1 x2 : List Value} (h1 : w.ownsRow b1 e1 s1 v1 n1 x1) {w' : World} (hs : w.heap.size ≤ b2) (h2 : w'.ownsRow b2 e2 s2 v2 n2 x2) : ∀ g, v1.ownBlock = some g → v2.ownBlock ≠ some g := by
  intro g hg hg2
  have a := (owns_lt h1 hg).1
  have b := owns_base h2 g hg2
  omega

set_option maxRecDepth 100000 in
set_option maxHeartbeats 2000000 in
theorem copy_any (base p : Nat) (kv vv : Value) (m : List PairD) (w : World) (h : MapAt base w p kv vv m) (hmax : m.length ≤ 100000000) :
    Calls Try.prog 32 #[.pointer (some ⟨p, 0, none⟩)] w fun e w' => ∃ q kv' vv', e = .returned (.pointer (some ⟨q, 0, none⟩)) ∧ MapAt w.heap.size w' q kv' vv' m ∧ Below w.heap.size w w' := by
  have hp0 : w.cell? ⟨p, 0, none⟩ = some kv := by simp [World.cell?, h.hp]
  have hp1 : w.cell? ⟨p, 1, none⟩ = some vv := by simp [World.cell?, h.hp]
  have hph : w.holds p := block_lt h.hp
  have HH := Lib.hid h
  clear h
  go_enter Try.func32, Try.ntmps32
  go_wp2
  have hS : HeldTill [(4, fun w' => w'.cell? ⟨p, 0, none⟩ = some kv), (9, fun w' => w'.cell? ⟨p, 1, none⟩ = some vv)] (Array.replicate 13 false) w.drew := by
    intro x hx _
    simp only [List.mem_cons, List.not_mem_nil, or_false] at hx
    rcases hx with rfl | rfl
    all_goals (show World.cell? _ _ = _; go_simp)
  refine wp_region_S [(4, fun w' => w'.cell? ⟨p, 0, none⟩ = some kv), (9, fun w' => w'.cell? ⟨p, 1, none⟩ = some vv)] (by kernel_rfl) ?_
  (refine wpAnyS_take (i := 0) (v := ?_) rfl (by kernel_rfl) (by kernel_rfl) (by kernel_rfl) (by kernel_rfl) (by kernel_rfl) (by kernel_rfl) (fun _ _ _ h => h) hS (Or.inl ⟨by kernel_rfl, ?_⟩) (fun hS1 => ?_); rotate_left; (focus (intro w _; go_simp; first | done | with_reducible rfl)); clear hS; have hS := hS1; clear hS1)
  (refine wpAnyS_take (i := 1) (v := ?_) rfl (by kernel_rfl) (by kernel_rfl) (by kernel_rfl) (by kernel_rfl) (by kernel_rfl) (by kernel_rfl) (fun _ _ _ h => h) hS (Or.inl ⟨by kernel_rfl, ?_⟩) (fun hS1 => ?_); rotate_left; (focus (intro w _; go_simp; first | done | with_reducible rfl)); clear hS; have hS := hS1; clear hS1)
  (refine wpAnyS_take (i := 2) (v := ?_) rfl (by kernel_rfl) (by kernel_rfl) (by kernel_rfl) (by kernel_rfl) (by kernel_rfl) (by kernel_rfl) (fun _ _ _ h => h) hS (Or.inl ⟨by kernel_rfl, ?_⟩) (fun hS1 => ?_); rotate_left; (focus (intro w _; go_simp; first | done | with_reducible rfl)); clear hS; have hS := hS1; clear hS1)
  (refine wpAnyS_load (i := 3) (c := 4) (T := fun w' => w'.cell? ⟨p, 0, none⟩ = some kv) (v := ?_) rfl (by kernel_rfl) (by kernel_rfl) (by kernel_rfl) (by kernel_rfl) (by kernel_rfl) (by kernel_rfl) (by kernel_rfl) (by simp) (fun _ _ _ h => h) hS (Or.inl ⟨by kernel_rfl, ?_⟩) (fun hS1 => ?_); rotate_left; (focus (intro w hT; go_simp; first | done | with_reducible rfl)); clear hS; have hS := hS1; clear hS1)
  (refine wpAnyS_take (i := 5) (v := ?_) rfl (by kernel_rfl) (by kernel_rfl) (by kernel_rfl) (by kernel_rfl) (by kernel_rfl) (by kernel_rfl) (fun _ _ _ h => h) hS (Or.inl ⟨by kernel_rfl, ?_⟩) (fun hS1 => ?_); rotate_left; (focus (intro w _; go_simp; first | done | with_reducible rfl)); clear hS; have hS := hS1; clear hS1)
  (refine wpAnyS_take (i := 6) (v := ?_) rfl (by kernel_rfl) (by kernel_rfl) (by kernel_rfl) (by kernel_rfl) (by kernel_rfl) (by kernel_rfl) (fun _ _ _ h => h) hS (Or.inl ⟨by kernel_rfl, ?_⟩) (fun hS1 => ?_); rotate_left; (focus (intro w _; go_simp; first | done | with_reducible rfl)); clear hS; have hS := hS1; clear hS1)
  (refine wpAnyS_take (i := 7) (v := ?_) rfl (by kernel_rfl) (by kernel_rfl) (by kernel_rfl) (by kernel_rfl) (by kernel_rfl) (by kernel_rfl) (fun _ _ _ h => h) hS (Or.inl ⟨by kernel_rfl, ?_⟩) (fun hS1 => ?_); rotate_left; (focus (intro w _; go_simp; first | done | with_reducible rfl)); clear hS; have hS := hS1; clear hS1)
  (refine wpAnyS_load (i := 8) (c := 9) (T := fun w' => w'.cell? ⟨p, 1, none⟩ = some vv) (v := ?_) rfl (by kernel_rfl) (by kernel_rfl) (by kernel_rfl) (by kernel_rfl) (by kernel_rfl) (by kernel_rfl) (by kernel_rfl) (by simp) (fun _ _ _ h => h) hS (Or.inl ⟨by kernel_rfl, ?_⟩) (fun hS1 => ?_); rotate_left; (focus (intro w hT; go_simp; first | done | with_reducible rfl)); clear hS; have hS := hS1; clear hS1)
  refine wpAnyS_ready (rs := [4]) (by kernel_rfl) (by simp) ?_
  refine AllReadyS.cons rfl (fun K hK => ?_) AllReadyS.nil
  go_simp
  ((with_reducible refine (clone_own (base := base) (by have := HH.out.hk; exact (by (repeat' (first | assumption | refine owns_ext ?_ _ _ | refine World.ownsRow.alloc ?_ _ | refine World.ownsRow.drew ?_)))) (keysV_one m) hmax).mono ?_))
  rintro e w1 ⟨a1, c1, rfl, hown1, hb1⟩
  obtain ⟨E1, n1, rfl⟩ := below_ext hb1
  have HK1 := Lib.hid hown1
  clear hown1 hb1
  simp only []
  refine hK.out _ _ ?_ (fun hS1 => ?_)
  · clear hK hS; (intro x hx hl; simp only [List.mem_cons, List.not_mem_nil, or_false] at hx; rcases hx with rfl | rfl; all_goals (first | exact Bool.noConfusion (show true = false from hl) | (show World.cell? _ _ = _; go_simp; done)))
  clear hK K hS
  have hS := hS1
  clear hS1
  refine wpAnyS_ready (rs := [9]) (by kernel_rfl) (by simp) ?_
  refine AllReadyS.cons rfl (fun K hK => ?_) AllReadyS.nil
  go_simp
  ((with_reducible refine (clone_own (base := base) (by have := HH.out.hv; exact (by (repeat' (first | assumption | refine owns_ext ?_ _ _ | refine World.ownsRow.alloc ?_ _ | refine World.ownsRow.drew ?_)))) (valsV_one m) hmax).mono ?_))
  rintro e w2 ⟨a2, c2, rfl, hown2, hb2⟩
  obtain ⟨E2, n2, rfl⟩ := below_ext hb2
  have HK2 := Lib.hid hown2
  clear hown2 hb2
  simp only []
  refine hK.out _ _ ?_ (fun hS1 => ?_)
  · clear hK hS; (intro x hx hl; simp only [List.mem_cons, List.not_mem_nil, or_false] at hx; rcases hx with rfl | rfl; all_goals (first | exact Bool.noConfusion (show true = false from hl) | (show World.cell? _ _ = _; go_simp; done)))
  clear hK K hS
  have hS := hS1
  clear hS1
  (refine wpAnyS_take (i := 10) (v := ?_) rfl (by kernel_rfl) (by kernel_rfl) (by kernel_rfl) (by kernel_rfl) (by kernel_rfl) (by kernel_rfl) (fun _ _ _ h => h) hS (Or.inl ⟨by kernel_rfl, ?_⟩) (fun hS1 => ?_); rotate_left; (focus (intro w _; go_simp; first | done | with_reducible rfl)); clear hS; have hS := hS1; clear hS1)
  refine wpAnyS_ready (rs := [11]) (by kernel_rfl) (by simp) ?_
  refine AllReadyS.cons rfl (fun K hK => ?_) AllReadyS.nil
  go_simp
  refine hK.out _ _ ?_ (fun hS1 => ?_)
  · clear hK hS; (intro x hx hl; simp only [List.mem_cons, List.not_mem_nil, or_false] at hx; rcases hx with rfl | rfl; all_goals (first | exact Bool.noConfusion (show true = false from hl) | (show World.cell? _ _ = _; go_simp; done)))
  clear hK K hS
  have hS := hS1
  clear hS1
  (refine wpAnyS_take (i := 12) (v := ?_) rfl (by kernel_rfl) (by kernel_rfl) (by kernel_rfl) (by kernel_rfl) (by kernel_rfl) (by kernel_rfl) (fun _ _ _ h => h) hS (Or.inl ⟨by kernel_rfl, ?_⟩) (fun hS1 => ?_); rotate_left; (focus (intro w _; go_simp; first | done | with_reducible rfl)); clear hS; have hS := hS1; clear hS1)
  refine wpAnyS_done (by kernel_rfl) ?_ _
  go_wp2
  go_ret
  have r1 : (w.ext E1 n1).ownsRow w.heap.size 22 1 _ _ _ := HK1.out
  have r3 := HK2.out
  have r2 : ((w.ext E1 n1).ext E2 n2).ownsRow w.heap.size 22 1 _ _ _ := owns_base_le (by simp) r3
  refine ⟨w.heap.size + E1.size + E2.size, .slice a1 m.length c1, .slice a2 m.length c2, rfl, ⟨by omega, heap_at_alloc (by simp), by have := r1; exact (by (repeat' (first | assumption | refine owns_ext ?_ _ _ | refine World.ownsRow.alloc ?_ _ | refine World.ownsRow.drew ?_))), by have := r2; exact (by (repeat' (first | assumption | refine owns_ext ?_ _ _ | refine World.ownsRow.alloc ?_ _ | refine World.ownsRow.drew ?_))), ?_, ?_, ?_⟩, (by ((repeat' (first | exact Below.refl _ _ | assumption | (refine Below_alloc ?_ ?_ _) | (refine Below_ext ?_ ?_ _ _) | (refine Below_setCell ?_ _ _ _ ?_) | apply Below.drew | refine Below_drewN ?_ _)) <;> first | done | (simp; done) | (simp; omega)))⟩
  · intro e; have := (owns_lt r1 e).1; simp at this; omega
  · intro e; have := (owns_lt r2 e).1; simp at this
  · exact row_ne r1 (Nat.le_refl _) r3
end Go.Proofs.Ytofhaechpllaoaa
namespace Go.Proofs.Ytofhaechpllaoaa
open Go Go.RowKit Go.Shelf

theorem turned_out {base p : Nat} {kv vv : Value} {m' : List PairD} {w : World} {e : Ending} {w' : World} (h : Turned base p kv vv m' w e w') :
    e = .returned (.tuple #[]) ∧ ∃ kv' vv', MapAt base w' p kv' vv' m' ∧ Kp (foot p kv vv) w w' ∧ ∀ g, foot p kv' vv' g → foot p kv vv g ∨ w.heap.size ≤ g := h
theorem putM_len (m : List PairD) (k v : Int) : (putM m k v).length ≤ m.length + 1 := by
  unfold putM; split
  · simp
  · simp; omega
def newM (l : List PairD) : List PairD := l.foldl (fun m q => putM m q.key q.val) []
theorem newM_len (l : List PairD) : (newM l).length ≤ l.length := by
  have h : ∀ (l m : List PairD), (l.foldl (fun m q => putM m q.key q.val) m).length ≤ m.length + l.length := by
    intro l
    induction l with
    | nil => intro m; simp
    | cons x l ih => intro m; have := ih (putM m x.key x.val); have := putM_len m x.key x.val; simp only [List.foldl_cons, List.length_cons]; omega
  have := h l []
  simpa [newM] using this
theorem newM_succ {l : List PairD} {j : Nat} {x : PairD} (hx : l[j]? = some x) : newM (l.take (j + 1)) = putM (newM (l.take j)) x.key x.val := by
  rw [List.take_add_one, hx]; simp [newM]

set_option maxRecDepth 100000 in
set_option maxHeartbeats 2000000 in
theorem new_any (v : Value) (l : List PairD) (w : World) (h : Arr w 2 PairD.cells v l) (hmax : l.length ≤ 10000000) :
    Calls Try.prog 20 #[v] w fun e w' => ∃ p kv vv, e = .returned (.pointer (some ⟨p, 0, none⟩)) ∧ MapAt w.heap.size w' p kv vv (newM l) ∧ Below w.heap.size w w' := by
  have HA := Lib.hid h
  obtain ⟨a, cap, rfl, hl, hc, q⟩ := h
  have Q := Lib.hid q
  clear q
  go_enter Try.func20, Try.ntmps20
  go_wp2
  have hM0 : MapAt w.heap.size (w.alloc (.cells #[.slice none 0 0, .slice none 0 0] 68)) w.heap.size (.slice none 0 0) (.slice none 0 0) [] :=
    ⟨Nat.le_refl _, heap_alloc_new _ _, World.ownsRow_nil _ _ _ _, World.ownsRow_nil _ _ _ _, by simp [Value.ownBlock], by simp [Value.ownBlock], by simp [Value.ownBlock]⟩
  go_loopg [10] l.length (fun g kk wr => ∃ j : Nat, j ≤ l.length ∧ g = l.length - j ∧ kk = .int .i64 j ∧ (∃ kv vv, MapAt w.heap.size wr w.heap.size kv vv (newM (l.take j))) ∧ Below w.heap.size w wr)
  case atStart => exact ⟨0, by omega, by omega, rfl, ⟨_, _, hM0⟩, (by ((repeat' (first | exact Below.refl _ _ | assumption | (refine Below_alloc ?_ ?_ _) | (refine Below_ext ?_ ?_ _ _) | (refine Below_setCell ?_ _ _ _ ?_) | apply Below.drew | refine Below_drewN ?_ _)) <;> first | done | (simp; done) | (simp; omega)))⟩
  case round =>
    obtain ⟨j, hj, rfl, rfl, ⟨kv, vv, hM⟩, hbw⟩ := hrel
    have hs := hbw.size
    by_cases hlt : j < l.length
    · obtain ⟨x, hx⟩ : ∃ x, l[j]? = some x := ⟨_, List.getElem?_eq_getElem hlt⟩
      obtain ⟨b, o, rfl, hb, q⟩ := Q.out j x hx
      have e0 := (hbw.cell (p := ⟨b, o + j * 2 + 0, none⟩) hb).trans (q 0 _ rfl)
      have e1 := (hbw.cell (p := ⟨b, o + j * 2 + 1, none⟩) hb).trans (q 1 _ rfl)
      simp only [Nat.add_zero] at e0
      have HX := Lib.hid hx
      have HM := Lib.hid hM
      have hnl : (newM (l.take j)).length ≤ 100000000 := by have := newM_len (l.take j); have := List.length_take_le j l; omega
      clear q hx hM
      go_wp2_with (go_at_call 42; with_reducible refine (put_any w.heap.size w.heap.size kv vv _ x.key x.val _ (HM.out.alloc _) hnl).mono ?_; intro e w2 hT; obtain ⟨rfl, kv2, vv2, hM2, hk2, hf2⟩ := turned_out hT; clear hT)
      go_roundg (l.length - (j + 1))
      case rel =>
        refine ⟨j + 1, by omega, rfl, by go_num, ⟨kv2, vv2, by rw [newM_succ HX.out]; exact hM2⟩, ?_⟩
        exact (Below_alloc hbw hs _).trans (hk2.below (by simp; omega) fun k hk => (HM.out.foot_lt hk).2)
      case measure => omega
    · obtain rfl : j = l.length := by omega
      go_wp2
      go_ret
      exact ⟨_, _, _, rfl, by rw [List.take_length] at hM; exact hM, hbw⟩
end Go.Proofs.Ytofhaechpllaoaa
