/- (*Map).Do. (*Map).Do: Scan. (*Map).Do at any operation; All; awake. The document's own functions over pairs (gleaningref21). gleaningref21.Put. gleaningref21.After, Result. ModelKeeps: plain law. -/
import Derived.Test.YtofhaechpllaoaaPkB
namespace Go.Proofs.Ytofhaechpllaoaa
open Go Go.RowKit Go.Shelf

theorem results_cell1 {fn : Func} {p : Tmp} {ty : TypeId} (h : fn.results = #[.cell p ty]) (tmps : Array Value) (P : Program) (w : World) :
    (results fn tmps).run P w = ((asAddr (tmps.getD p undef)).run P w).andThen fun a w₁ => (loadVar ty a).run P w₁ := by
  simp only [results, h]
  simp [Sem.run_bind, Result.andThen]

def toldK (m : List PairD) (k : Int) : Int := if isAt (keysOf m) k then 2 else 1

set_option maxRecDepth 100000 in
set_option maxHeartbeats 1000000 in
theorem told_any (base p : Nat) (kv vv : Value) (m : List PairD) (k : Int) (w : World) (b1 b2 : Nat) (h : MapAt base w p kv vv m) (hmax : m.length ≤ 100000000) (h1 : w.cell? ⟨b1, 0, none⟩ = some (.pointer (some ⟨p, 0, none⟩))) (h2 : w.cell? ⟨b2, 1, none⟩ = some (.int .u64 k)) (hb1 : w.holds b1) (hb2 : w.holds b2) :
    Calls Try.prog 44 #[.pointer (some ⟨b1, 0, none⟩), .pointer (some ⟨b2, 0, none⟩)] w fun e w' => e = .returned (.agg #[.int .i64 (toldK m k), .int .u64 (getM m k), .slice none 0 0]) ∧ Below w.heap.size w w' := by
  have H : ∀ o, Calls Try.prog 30 #[.pointer (some ⟨p, 0, none⟩), .int .u64 k] (w.alloc o) fun e w' => e = .returned (.tuple #[.int .u64 (getM m k), .bool (isAt (keysOf m) k)]) ∧ Below (w.alloc o).heap.size (w.alloc o) w' := fun o => get_any base p kv vv m k _ (h.alloc o) hmax
  have hg0 : isAt (keysOf m) k = false → getM m k = 0 := by intro e; simp [getM, e]
  have ht : toldK m k = if isAt (keysOf m) k then 2 else 1 := rfl
  have HH := Lib.hid h
  clear h
  generalize toldK m k = t at *
  generalize getM m k = g at *
  cases hI : isAt (keysOf m) k
  · rw [hI] at ht H
    have hg := hg0 hI
    clear hI hg0
    subst hg
    simp at ht
    subst ht
    go_enter Try.func44, Try.ntmps44
    go_wp2_with (go_at_call 30; with_reducible refine (H _).mono ?_; rintro e w' ⟨rfl, hbx⟩; obtain ⟨E, nx, rfl⟩ := below_ext hbx; clear hbx)
    (try simp only [Exit.inBlock, Exit.then])
    refine bodyPost_ret (v := .agg #[.int .i64 1, .int .u64 0, .slice none 0 0]) ?_ rfl ⟨rfl, (by ((repeat' (first | exact Below.refl _ _ | assumption | (refine Below_alloc ?_ ?_ _) | (refine Below_ext ?_ ?_ _ _) | (refine Below_setCell ?_ _ _ _ ?_) | apply Below.drew | refine Below_drewN ?_ _)) <;> first | done | (simp; done) | (simp; omega)))⟩
    rw [results_cell1 rfl]
    go_simp
  · rw [hI] at ht H
    clear hI hg0
    simp at ht
    subst ht
    go_enter Try.func44, Try.ntmps44
    go_wp2_with (go_at_call 30; with_reducible refine (H _).mono ?_; rintro e w' ⟨rfl, hbx⟩; obtain ⟨E, nx, rfl⟩ := below_ext hbx; clear hbx)
    (try simp only [Exit.inBlock, Exit.then])
    refine bodyPost_ret (v := .agg #[.int .i64 2, .int .u64 g, .slice none 0 0]) ?_ rfl ⟨rfl, (by ((repeat' (first | exact Below.refl _ _ | assumption | (refine Below_alloc ?_ ?_ _) | (refine Below_ext ?_ ?_ _ _) | (refine Below_setCell ?_ _ _ _ ?_) | apply Below.drew | refine Below_drewN ?_ _)) <;> first | done | (simp; done) | (simp; omega)))⟩
    rw [results_cell1 rfl]
    go_simp

/-- What an operation leaves: a result, and the map. -/
def DoneP (base p : Nat) (kv vv : Value) (m' : List PairD) (kind val : Int) (ps : List PairD) (w : World) (e : Ending) (w' : World) : Prop :=
  ∃ kv' vv' a c, e = .returned (.agg #[.int .i64 kind, .int .u64 val, .slice a ps.length c]) ∧ MapAt base w' p kv' vv' m' ∧ RowP w.heap.size w' (.slice a ps.length c) ps ∧ Kp (foot p kv vv) w w' ∧ ∀ g, foot p kv' vv' g → foot p kv vv g ∨ w.heap.size ≤ g

theorem rowP_nil (b : Nat) (w : World) : RowP b w (.slice none 0 0) [] := World.ownsRow_nil _ _ _ _

set_option maxRecDepth 100000 in
set_option maxHeartbeats 1000000 in
theorem do_nil (o : OpD) (w : World) :
    Calls Try.prog 26 #[.pointer none, o.agg] w fun e w' => e = .returned (.agg #[.int .i64 0, .int .u64 0, .slice none 0 0]) ∧ Below w.heap.size w w' := by
  go_enter Try.func26, Try.ntmps26
  go_wp2
  (try simp only [Exit.inBlock, Exit.then])
  refine bodyPost_ret (v := .agg #[.int .i64 0, .int .u64 0, .slice none 0 0]) ?_ rfl ⟨rfl, (by ((repeat' (first | exact Below.refl _ _ | assumption | (refine Below_alloc ?_ ?_ _) | (refine Below_ext ?_ ?_ _ _) | (refine Below_setCell ?_ _ _ _ ?_) | apply Below.drew | refine Below_drewN ?_ _)) <;> first | done | (simp; done) | (simp; omega)))⟩
  rw [results_cell1 rfl]
  go_simp

set_option maxRecDepth 100000 in
set_option maxHeartbeats 1000000 in
theorem do_wrong (base p : Nat) (kv vv : Value) (m : List PairD) (o : OpD) (w : World) (h : MapAt base w p kv vv m) (ho : o.right = false) :
    Calls Try.prog 26 #[.pointer (some ⟨p, 0, none⟩), o.agg] w (DoneP base p kv vv m 0 0 [] w) := by
  have HH := Lib.hid h
  have HR := fun W => model_right o W
  rw [ho] at HR
  clear h ho
  go_enter Try.func26, Try.ntmps26
  go_wp2_with (go_at_call 25; with_reducible refine (HR _).mono ?_; rintro e w' ⟨rfl, hbx⟩; obtain ⟨E, nx, rfl⟩ := below_ext hbx; clear hbx)
  (try simp only [Exit.inBlock, Exit.then])
  refine bodyPost_ret (v := .agg #[.int .i64 0, .int .u64 0, .slice none 0 0]) ?_ rfl ⟨kv, vv, none, 0, rfl, HH.out.below (by ((repeat' (first | exact Below.refl _ _ | assumption | (refine Below_alloc ?_ ?_ _) | (refine Below_ext ?_ ?_ _ _) | (refine Below_setCell ?_ _ _ _ ?_) | apply Below.drew | refine Below_drewN ?_ _)) <;> first | done | (simp; done) | (simp; omega))), rowP_nil _ _, .of_below (by ((repeat' (first | exact Below.refl _ _ | assumption | (refine Below_alloc ?_ ?_ _) | (refine Below_ext ?_ ?_ _ _) | (refine Below_setCell ?_ _ _ _ ?_) | apply Below.drew | refine Below_drewN ?_ _)) <;> first | done | (simp; done) | (simp; omega))), fun g hg => .inl hg⟩
  rw [results_cell1 rfl]
  go_simp

set_option maxRecDepth 100000 in
set_option maxHeartbeats 1000000 in
theorem do_get (base p : Nat) (kv vv : Value) (m : List PairD) (key val high most : Int) (w : World) (h : MapAt base w p kv vv m) (hmax : m.length ≤ 100000000) :
    Calls Try.prog 26 #[.pointer (some ⟨p, 0, none⟩), .agg #[.int .i64 1, .int .u64 key, .int .u64 val, .int .u64 high, .int .i64 most]] w (DoneP base p kv vv m (toldK m key) (getM m key) [] w) := by
  have HH := Lib.hid h
  have HR := fun W => model_right ⟨1, key, val, high, most⟩ W
  have ho : OpD.right ⟨1, key, val, high, most⟩ = true := by simp [OpD.right]
  rw [ho] at HR
  clear h ho
  go_enter Try.func26, Try.ntmps26
  go_wp2_with (first | (go_at_call 25; with_reducible refine (HR _).mono ?_; rintro e w' ⟨rfl, hbx⟩; obtain ⟨E, nx, rfl⟩ := below_ext hbx; clear hbx) | (go_at_call 44; with_reducible refine (told_any base p kv vv m key _ _ _ (HH.out.below (by ((repeat' (first | exact Below.refl _ _ | assumption | (refine Below_alloc ?_ ?_ _) | (refine Below_ext ?_ ?_ _ _) | (refine Below_setCell ?_ _ _ _ ?_) | apply Below.drew | refine Below_drewN ?_ _)) <;> first | done | (simp; done) | (simp; omega)))) hmax (by go_simp) (by go_simp) (by go_simp) (by go_simp)).mono ?_; rintro e w' ⟨rfl, hbx⟩; obtain ⟨E2, nx2, rfl⟩ := below_ext hbx; clear hbx))
  (try simp only [Exit.inBlock, Exit.then])
  refine bodyPost_ret (v := .agg #[.int .i64 (toldK m key), .int .u64 (getM m key), .slice none 0 0]) ?_ rfl ⟨kv, vv, none, 0, rfl, HH.out.below (by ((repeat' (first | exact Below.refl _ _ | assumption | (refine Below_alloc ?_ ?_ _) | (refine Below_ext ?_ ?_ _ _) | (refine Below_setCell ?_ _ _ _ ?_) | apply Below.drew | refine Below_drewN ?_ _)) <;> first | done | (simp; done) | (simp; omega))), rowP_nil _ _, .of_below (by ((repeat' (first | exact Below.refl _ _ | assumption | (refine Below_alloc ?_ ?_ _) | (refine Below_ext ?_ ?_ _ _) | (refine Below_setCell ?_ _ _ _ ?_) | apply Below.drew | refine Below_drewN ?_ _)) <;> first | done | (simp; done) | (simp; omega))), fun g hg => .inl hg⟩
  rw [results_cell1 rfl]
  go_simp

theorem kp_set3 (w : World) (g : Nat) (a b c : Value) : Kp (fun k => k = g) w (((w.setCell ⟨g, 0, none⟩ a).setCell ⟨g, 1, none⟩ b).setCell ⟨g, 2, none⟩ c) :=
  ((kp_setCell w g 0 a).trans (kp_setCell _ g 1 b) (fun _ _ h => h)).trans (kp_setCell _ g 2 c) (fun _ _ h => h)
theorem done_turned {base p : Nat} {kv vv kv2 vv2 : Value} {m m2 : List PairD} {w W w2 : World} {t4 : Nat} {kind val : Int} {a b c : Value} (hm : MapAt base w p kv vv m) (hb : Below w.heap.size w W) (ht4 : w.heap.size ≤ t4) (ht4' : t4 < W.heap.size)
    (hM : MapAt base w2 p kv2 vv2 m2) (hK : Kp (foot p kv vv) W w2) (hF : ∀ g, foot p kv2 vv2 g → foot p kv vv g ∨ W.heap.size ≤ g) :
    DoneP base p kv vv m2 kind val [] w (.returned (.agg #[.int .i64 kind, .int .u64 val, .slice none 0 0])) (((w2.setCell ⟨t4, 0, none⟩ a).setCell ⟨t4, 1, none⟩ b).setCell ⟨t4, 2, none⟩ c) := by
  refine ⟨kv2, vv2, none, 0, rfl, hM.kp_of (kp_set3 w2 t4 a b c) ?_, rowP_nil _ _, ?_, ?_⟩
  · rintro g hg rfl
    rcases hF _ hg with h1 | h1
    · have := (hm.foot_lt h1).1; omega
    · omega
  · refine ((Kp.of_below (S := foot p kv vv) hb).trans hK (fun _ _ h => h)).trans (kp_set3 w2 t4 a b c) ?_
    rintro g hg rfl; omega
  · intro g hg
    rcases hF g hg with h1 | h1
    · exact .inl h1
    · exact .inr (Nat.le_trans hb.size h1)

set_option maxRecDepth 100000 in
set_option maxHeartbeats 2000000 in
theorem do_put (base p : Nat) (kv vv : Value) (m : List PairD) (key val high most : Int) (w : World) (h : MapAt base w p kv vv m) (hmax : m.length ≤ 100000000) :
    Calls Try.prog 26 #[.pointer (some ⟨p, 0, none⟩), .agg #[.int .i64 2, .int .u64 key, .int .u64 val, .int .u64 high, .int .i64 most]] w (DoneP base p kv vv (putM m key val) (toldK m key) (getM m key) [] w) := by
  have HH := Lib.hid h
  have HR := fun W => model_right ⟨2, key, val, high, most⟩ W
  have ho : OpD.right ⟨2, key, val, high, most⟩ = true := by simp [OpD.right]
  rw [ho] at HR
  clear h ho
  go_enter Try.func26, Try.ntmps26
  go_wp2_with (first | (go_at_call 25; with_reducible refine (HR _).mono ?_; rintro e w' ⟨rfl, hbx⟩; obtain ⟨E, nx, rfl⟩ := below_ext hbx; clear hbx) | (go_at_call 44; with_reducible refine (told_any base p kv vv m key _ _ _ (HH.out.below (by ((repeat' (first | exact Below.refl _ _ | assumption | (refine Below_alloc ?_ ?_ _) | (refine Below_ext ?_ ?_ _ _) | (refine Below_setCell ?_ _ _ _ ?_) | apply Below.drew | refine Below_drewN ?_ _)) <;> first | done | (simp; done) | (simp; omega)))) hmax (by go_simp) (by go_simp) (by go_simp) (by go_simp)).mono ?_; rintro e w' ⟨rfl, hbx⟩; obtain ⟨E2, nx2, rfl⟩ := below_ext hbx; clear hbx))
  refine (put_any base p kv vv m key val _ (HH.out.below (by ((repeat' (first | exact Below.refl _ _ | assumption | (refine Below_alloc ?_ ?_ _) | (refine Below_ext ?_ ?_ _ _) | (refine Below_setCell ?_ _ _ _ ?_) | apply Below.drew | refine Below_drewN ?_ _)) <;> first | done | (simp; done) | (simp; omega)))) hmax).mono ?_
  intro e w2 hT
  obtain ⟨rfl, kv2, vv2, hM2, hk2, hf2⟩ := turned_out hT
  clear hT
  have HM := Lib.hid hM2
  have HF := Lib.hid hf2
  clear hM2 hf2
  have hkb : ∀ g, foot p kv vv g → g < w.heap.size := fun g hg => (HH.out.foot_lt hg).1
  obtain ⟨hq4, hz4, hh4⟩ := hk2.cells (b := w.heap.size + 1 + 1) (by go_simp) (fun hs => by have := hkb _ hs; omega)
  obtain ⟨hq6, hz6, hh6⟩ := hk2.cells (b := w.heap.size + 1 + 1 + 1 + E.size + E2.size) (by go_simp) (fun hs => by have := hkb _ hs; omega)
  have HK := Lib.hid hk2
  clear hk2
  simp only []
  go_wp2
  (try simp only [Exit.inBlock, Exit.then])
  refine bodyPost_ret (v := .agg #[.int .i64 (toldK m key), .int .u64 (getM m key), .slice none 0 0]) ?_ rfl (done_turned HH.out (by ((repeat' (first | exact Below.refl _ _ | assumption | (refine Below_alloc ?_ ?_ _) | (refine Below_ext ?_ ?_ _ _) | (refine Below_setCell ?_ _ _ _ ?_) | apply Below.drew | refine Below_drewN ?_ _)) <;> first | done | (simp; done) | (simp; omega))) (by omega) (by simp; omega) HM.out HK.out HF.out)
  rw [results_cell1 rfl]
  go_simp
set_option maxRecDepth 100000 in
set_option maxHeartbeats 2000000 in
theorem do_del (base p : Nat) (kv vv : Value) (m : List PairD) (key val high most : Int) (w : World) (h : MapAt base w p kv vv m) (hmax : m.length ≤ 100000000) :
    Calls Try.prog 26 #[.pointer (some ⟨p, 0, none⟩), .agg #[.int .i64 3, .int .u64 key, .int .u64 val, .int .u64 high, .int .i64 most]] w (DoneP base p kv vv (dropM m key) (toldK m key) (getM m key) [] w) := by
  have HH := Lib.hid h
  have HR := fun W => model_right ⟨3, key, val, high, most⟩ W
  have ho : OpD.right ⟨3, key, val, high, most⟩ = true := by simp [OpD.right]
  rw [ho] at HR
  clear h ho
  go_enter Try.func26, Try.ntmps26
  go_wp2_with (first | (go_at_call 25; with_reducible refine (HR _).mono ?_; rintro e w' ⟨rfl, hbx⟩; obtain ⟨E, nx, rfl⟩ := below_ext hbx; clear hbx) | (go_at_call 44; with_reducible refine (told_any base p kv vv m key _ _ _ (HH.out.below (by ((repeat' (first | exact Below.refl _ _ | assumption | (refine Below_alloc ?_ ?_ _) | (refine Below_ext ?_ ?_ _ _) | (refine Below_setCell ?_ _ _ _ ?_) | apply Below.drew | refine Below_drewN ?_ _)) <;> first | done | (simp; done) | (simp; omega)))) hmax (by go_simp) (by go_simp) (by go_simp) (by go_simp)).mono ?_; rintro e w' ⟨rfl, hbx⟩; obtain ⟨E2, nx2, rfl⟩ := below_ext hbx; clear hbx))
  refine (drop_any base p kv vv m key _ (HH.out.below (by ((repeat' (first | exact Below.refl _ _ | assumption | (refine Below_alloc ?_ ?_ _) | (refine Below_ext ?_ ?_ _ _) | (refine Below_setCell ?_ _ _ _ ?_) | apply Below.drew | refine Below_drewN ?_ _)) <;> first | done | (simp; done) | (simp; omega)))) hmax).mono ?_
  intro e w2 hT
  obtain ⟨rfl, kv2, vv2, hM2, hk2, hf2⟩ := turned_out hT
  clear hT
  have HM := Lib.hid hM2
  have HF := Lib.hid hf2
  clear hM2 hf2
  have hkb : ∀ g, foot p kv vv g → g < w.heap.size := fun g hg => (HH.out.foot_lt hg).1
  obtain ⟨hq4, hz4, hh4⟩ := hk2.cells (b := w.heap.size + 1 + 1) (by go_simp) (fun hs => by have := hkb _ hs; omega)
  obtain ⟨hq6, hz6, hh6⟩ := hk2.cells (b := w.heap.size + 1 + 1 + 1 + E.size + E2.size) (by go_simp) (fun hs => by have := hkb _ hs; omega)
  have HK := Lib.hid hk2
  clear hk2
  simp only []
  go_wp2
  (try simp only [Exit.inBlock, Exit.then])
  refine bodyPost_ret (v := .agg #[.int .i64 (toldK m key), .int .u64 (getM m key), .slice none 0 0]) ?_ rfl (done_turned HH.out (by ((repeat' (first | exact Below.refl _ _ | assumption | (refine Below_alloc ?_ ?_ _) | (refine Below_ext ?_ ?_ _ _) | (refine Below_setCell ?_ _ _ _ ?_) | apply Below.drew | refine Below_drewN ?_ _)) <;> first | done | (simp; done) | (simp; omega))) (by omega) (by simp; omega) HM.out HK.out HF.out)
  rw [results_cell1 rfl]
  go_simp
end Go.Proofs.Ytofhaechpllaoaa
namespace Go.Proofs.Ytofhaechpllaoaa
open Go Go.RowKit Go.Shelf
attribute [local go_sem] Oper.semAt_some

def scanL (ps : List PairD) (high most : Int) : List PairD := (ps.takeWhile fun q => q.key ≤ high).take most.toNat

theorem lies_set3 {W : World} {B : Nat} {t : TypeId} {x y z : Value} (h : Lies W B #[x, y, z] t) (a b c : Value) : Lies (((W.setCell ⟨B, 0, none⟩ a).setCell ⟨B, 1, none⟩ b).setCell ⟨B, 2, none⟩ c) B #[a, b, c] t := by
  obtain ⟨hlt, hk⟩ := Array.getElem?_eq_some_iff.1 (show W.heap[B]? = _ from h)
  have h0 : ∀ (V : World) (cs : Array Value) (o : Nat) (u : Value), V.heap[B]? = some (.cells cs t (0, 0)) → (V.setCell ⟨B, o, none⟩ u).heap[B]? = some (.cells (cs.setIfInBounds o u) t (0, 0)) := by
    intro V cs o u hV
    obtain ⟨hlt, hk⟩ := Array.getElem?_eq_some_iff.1 hV
    show (V.heap.modify B _)[B]? = _
    rw [Array.getElem?_eq_getElem (by rw [Array.size_modify]; exact hlt), Array.getElem_modify_self, hk]
    rfl
  exact h0 _ _ 2 c (h0 _ _ 1 b (h0 _ _ 0 a h))
theorem lies_set1 {W : World} {B : Nat} {t : TypeId} {x y z : Value} (h : Lies W B #[x, y, z] t) (c : Value) : Lies (W.setCell ⟨B, 2, none⟩ c) B #[x, y, c] t := by
  obtain ⟨hlt, hk⟩ := Array.getElem?_eq_some_iff.1 (show W.heap[B]? = _ from h)
  show (W.heap.modify B _)[B]? = _
  rw [Array.getElem?_eq_getElem (by rw [Array.size_modify]; exact hlt), Array.getElem_modify_self, hk]
  rfl
theorem Lies.cell {W : World} {B : Nat} {cs : Array Value} {t : TypeId} (h : Lies W B cs t) (o : Nat) : W.cell? ⟨B, o, none⟩ = cs[o]? := by
  simp [World.cell?, show W.heap[B]? = _ from h]
theorem Lies.frozen {W : World} {B : Nat} {cs : Array Value} {t : TypeId} (h : Lies W B cs t) (o : Nat) : W.frozen? ⟨B, o, none⟩ = false := by
  simp [World.frozen?, show W.heap[B]? = _ from h]
theorem Lies.lt {W : World} {B : Nat} {cs : Array Value} {t : TypeId} (h : Lies W B cs t) : B < W.heap.size := block_lt h
theorem Lies.kept {W W' : World} {B : Nat} {cs : Array Value} {t : TypeId} (h : Lies W B cs t) (he : W'.heap[B]? = W.heap[B]?) : Lies W' B cs t := he.trans h
theorem Lies.not_row {W : World} {B : Nat} {cs : Array Value} {t e : TypeId} (h : Lies W B cs t) (hte : t ≠ e) {base size k : Nat} {v : Value} {xs : List Value} (hr : W.ownsRow base e size v k xs) : v.ownBlock ≠ some B := by
  rcases hr.2 with ⟨rfl, _⟩ | ⟨g, cap, cur, rfl, _, hgb, _⟩
  · simp [Value.ownBlock]
  · intro e'
    obtain rfl : g = B := by simpa [Value.ownBlock] using e'
    have := (show W.heap[g]? = _ from h).symm.trans hgb
    simp at this
    exact hte this.2
theorem set1_heap (W : World) (B o : Nat) (v : Value) (k : Nat) (h : k ≠ B) : (W.setCell ⟨B, o, none⟩ v).heap[k]? = W.heap[k]? := Below.heap_setCell W ⟨B, o, none⟩ v k h

/-- 'r.Pairs = append(r.Pairs, x)', r a struct in block B whose third cell it is. -/
theorem lies_appended {W w1 : World} {n₀ B : Nat} {t e : TypeId} {size : Nat} {x y v v' : Value} {k m : Nat} {xs ys : List Value} {tmp : Obj}
    (hv : Lies W B #[x, y, v] t) (hte : t ≠ e) (hrow : W.ownsRow n₀ e size v k xs) (hown' : w1.ownsRow n₀ e size v' m ys) (hgrow : (W.alloc tmp).grownBy w1 v.ownBlock) :
    Lies w1 B #[x, y, v] t ∧ Lies (w1.setCell ⟨B, 2, none⟩ v') B #[x, y, v'] t ∧ (w1.setCell ⟨B, 2, none⟩ v').ownsRow n₀ e size v' m ys ∧ KeepsOthers W (w1.setCell ⟨B, 2, none⟩ v') ∧
      Kp (fun g => g = B ∨ v.ownBlock = some g) W (w1.setCell ⟨B, 2, none⟩ v') := by
  have hk1 : Kp (fun g => v.ownBlock = some g) W w1 := ((Kp.of_below (S := fun g => v.ownBlock = some g) (Joins.below_alloc1 W tmp)).trans (Kp.of_grown hgrow) (fun _ _ h => h))
  have hv1 : Lies w1 B #[x, y, v] t := hv.kept (hk1.block B hv.lt (hv.not_row hte hrow))
  refine ⟨hv1, lies_set1 hv1 v', owns_at hown' fun g hg => set1_heap w1 B 2 v' g (fun e => by subst e; exact hv1.not_row hte hown' hg), ?_, ?_⟩
  · refine ((KeepsOthers.alloc W tmp).trans (KeepsOthers.of_grownBy hgrow fun j o ej hj => ?_)).trans (KeepsOthers.setCell _ _ _)
    rcases (hrow.alloc tmp).2 with ⟨rfl, _⟩ | ⟨g, cap, cur, rfl, _, hgb, _⟩
    · simp [Value.ownBlock] at ej
    · obtain rfl : g = j := by simpa [Value.ownBlock] using ej
      rw [hgb] at hj; cases hj; rfl
  · exact (hk1.weaken (fun g h => .inr h)).trans (kp_setCell w1 B 2 v') (fun g _ h => .inl h)

/-- Between two rounds of Scan's loop. -/
def ScanInv (w : World) (b3 b4 b6 n₁ : Nat) (op : Array Value) (high most : Int) (pre : List PairD) (W : World) : Prop :=
  (∃ a c, Lies W b6 #[.int .i64 4, .int .u64 0, .slice a pre.length c] 27 ∧ W.ownsRow n₁ 47 2 (.slice a pre.length c) pre.length (pre.flatMap PairD.cells)) ∧
    Lies W b3 op 24 ∧ Lies W b4 #[.int .i64 0, .int .u64 0, .slice none 0 0] 27 ∧ Below w.heap.size w W ∧ (∀ q ∈ pre, q.key ≤ high) ∧ (pre.length : Int) ≤ most ∧ n₁ ≤ W.heap.size

theorem scanInv_own (w : World) (b3 b4 b6 n₁ B : Nat) (op : Array Value) (high most : Int) (hB : w.heap.size ≤ B) : OwnFrom B (ScanInv w b3 b4 b6 n₁ op high most) := by
  rintro pre X Y row ⟨⟨a, c, h1, h2⟩, h3, h4, h5, h6, h7, h8⟩ hg hr
  have hb : ∀ b cs t, Lies X b cs t → Lies Y b cs t := fun b cs t h => h.kept (hg.block b h.lt (fun e => by obtain ⟨_, o, ho, hc⟩ := hr b e.symm; rw [show X.heap[b]? = _ from h] at ho; cases ho; cases hc))
  refine ⟨⟨a, c, hb _ _ _ h1, owns_at h2 fun g hgo => hg.block g (owns_lt h2 hgo).1 (fun e => ?_)⟩, hb _ _ _ h3, hb _ _ _ h4, h5.trans ⟨hg.os, hg.tape, hg.output, hg.size, fun k hk => hg.block k (Nat.lt_of_lt_of_le hk h5.size) (fun e => by have := (hr k e.symm).1; omega)⟩, h6, h7, Nat.le_trans h8 hg.size⟩
  obtain ⟨_, o, ho, hc⟩ := hr g e.symm
  rcases h2.2 with ⟨e1, _⟩ | ⟨g', cap, cur, e1, _, hgb, _⟩
  · rw [e1] at hgo; cases hgo
  · rw [e1] at hgo; cases hgo; rw [hgb] at ho; cases ho; cases hc
theorem ScanInv.kp {w : World} {b3 b4 b6 n₁ : Nat} {op : Array Value} {high most : Int} {pre : List PairD} {W : World} (h : ScanInv w b3 b4 b6 n₁ op high most pre W) (o : Obj) : ScanInv w b3 b4 b6 n₁ op high most pre (W.alloc o) := by
  obtain ⟨⟨a, c, h1, h2⟩, h3, h4, h5, h6, h7, h8⟩ := h
  have hb : ∀ b cs t, Lies W b cs t → Lies (W.alloc o) b cs t := fun b cs t h => heap_lt_alloc h
  exact ⟨⟨a, c, hb _ _ _ h1, h2.alloc _⟩, hb _ _ _ h3, hb _ _ _ h4, h5.alloc h5.size _, h6, h7, by simp; omega⟩

theorem scanL_all {ps : List PairD} {high most : Int} (h1 : ∀ q ∈ ps, q.key ≤ high) (h2 : (ps.length : Int) ≤ most) : scanL ps high most = ps := by
  unfold scanL
  have ht : (ps ++ []).takeWhile (fun q => decide (q.key ≤ high)) = ps ++ [] := by rw [List.takeWhile_append_of_pos (by intro q hq; simpa using h1 q hq)]; rfl
  rw [List.append_nil] at ht
  rw [ht]
  exact List.take_of_length_le (by omega)
theorem scanL_stop {ps ini : List PairD} {x : PairD} {high most : Int} (hp : ini ++ [x] <+: ps) (h1 : ∀ q ∈ ini, q.key ≤ high) (h2 : (ini.length : Int) ≤ most) (h3 : high < x.key ∨ (ini.length : Int) = most) : scanL ps high most = ini := by
  obtain ⟨r, rfl⟩ := hp
  unfold scanL
  rw [List.append_assoc, List.takeWhile_append_of_pos (by intro q hq; simpa using h1 q hq)]
  by_cases hx : high < x.key
  · rw [List.singleton_append, List.takeWhile_cons_of_neg (by simpa using hx), List.append_nil]
    exact List.take_of_length_le (by omega)
  · have h4 : (ini.length : Int) = most := h3.resolve_left hx
    rw [List.take_append_of_le_length (by omega)]
    exact List.take_of_length_le (by omega)

theorem scan_step {w : World} {b3 b4 b6 n₁ : Nat} {op : Array Value} {high most : Int} {pre : List PairD} {W W' : World} {x : PairD} {a : Option Addr} {c g' cap' : Nat} (h2 : W.ownsRow n₁ 47 2 (.slice a pre.length c) pre.length (pre.flatMap PairD.cells)) (h3 : Lies W b3 op 24) (h4 : Lies W b4 #[.int .i64 0, .int .u64 0, .slice none 0 0] 27) (h5 : Below w.heap.size w W) (h6 : ∀ q ∈ pre, q.key ≤ high) (h7 : (pre.length : Int) ≤ most) (h8 : n₁ ≤ W.heap.size)
    (hx : ¬ high < x.key) (hm : ¬ (pre.length : Int) = most) (h34 : b3 ≠ b6 ∧ b4 ≠ b6 ∧ b3 < n₁ ∧ b4 < n₁ ∧ b6 < n₁ ∧ w.heap.size ≤ b6 ∧ w.heap.size ≤ n₁)
    (hv2 : Lies W' b6 #[.int .i64 4, .int .u64 0, .slice (some ⟨g', 0, none⟩) (pre.length + 1) cap'] 27) (hr2 : W'.ownsRow n₁ 47 2 (.slice (some ⟨g', 0, none⟩) (pre.length + 1) cap') (pre.length + 1) (pre.flatMap PairD.cells ++ [.int .u64 x.key, .int .u64 x.val]))
    (hb2 : Kp (fun g => g = b6 ∨ (Value.slice a pre.length c).ownBlock = some g) W W') :
    Mid (b6 + 1) n₁ W W' ∧ ScanInv w b3 b4 b6 n₁ op high most (pre ++ [x]) W' := by
  obtain ⟨e1, e2, e3, e4, e5, e6, e7⟩ := h34
  have ho := owns_base h2
  refine ⟨⟨hb2.size, fun k hl hu hk => hb2.block k hk (fun e => e.elim (by omega) (fun e => by have := ho k e; omega))⟩, ⟨_, _, by simpa using hv2, by simpa [PairD.cells] using hr2⟩, ?_, ?_, ?_, ?_, ?_, ?_⟩
  · exact h3.kept (hb2.block b3 h3.lt (fun e => e.elim (by omega) (fun e => by have := ho _ e; omega)))
  · exact h4.kept (hb2.block b4 h4.lt (fun e => e.elim (by omega) (fun e => by have := ho _ e; omega)))
  · exact h5.trans (hb2.below h5.size (fun k e => e.elim (by omega) (fun e => by have := ho _ e; omega)))
  · intro q hq
    rcases List.mem_append.1 hq with hq | hq
    · exact h6 q hq
    · rw [List.mem_singleton.1 hq]; omega
  · simp; omega
  · exact Nat.le_trans h8 hb2.size

theorem scan_end {base p : Nat} {kv vv : Value} {m : List PairD} {w : World} {b4 b6 n₁ D : Nat} {ini : List PairD} {W : World} {a : Option Addr} {c : Nat} (hm : MapAt base w p kv vv m) (h1 : Lies W b6 #[.int .i64 4, .int .u64 0, .slice a ini.length c] 27) (h2 : W.ownsRow n₁ 47 2 (.slice a ini.length c) ini.length (ini.flatMap PairD.cells)) (h4 : Lies W b4 #[.int .i64 0, .int .u64 0, .slice none 0 0] 27) (h5 : Below w.heap.size w W)
    (hD : n₁ ≤ D) (hb4 : w.heap.size ≤ b4 ∧ b4 < n₁ ∧ w.heap.size ≤ n₁) (hK : W.heap[D]? = some (.deferred (some []))) {V : World} (hV : V = ((W.setCell ⟨b4, 0, none⟩ (.int .i64 4)).setCell ⟨b4, 1, none⟩ (.int .u64 0)).setCell ⟨b4, 2, none⟩ (.slice a ini.length c)) :
    V.heap[D]? = some (.deferred (some [])) ∧ (V.putObj D (.deferred none)).heap[b4]? = some (.cells #[.int .i64 4, .int .u64 0, .slice a ini.length c] 27 (0, 0)) ∧
      DoneP base p kv vv m 4 0 ini w (.returned (.agg #[.int .i64 4, .int .u64 0, .slice a ini.length c])) (V.putObj D (.deferred none)) := by
  subst hV
  have k1 := kp_set3 W b4 (.int .i64 4) (.int .u64 0) (.slice a ini.length c)
  have l1 := lies_set3 h4 (.int .i64 4) (.int .u64 0) (.slice a ini.length c)
  generalize ((W.setCell ⟨b4, 0, none⟩ (.int .i64 4)).setCell ⟨b4, 1, none⟩ (.int .u64 0)).setCell ⟨b4, 2, none⟩ (.slice a ini.length c) = V at *
  obtain ⟨e1, e2, e3⟩ := hb4
  have hKV : V.heap[D]? = some (.deferred (some [])) := (k1.block D (block_lt hK) (by omega)).trans hK
  have hVD : ∀ k, k ≠ D → (V.putObj D (.deferred none)).heap[k]? = V.heap[k]? := fun k hk => World.putObj_heap_other hk
  have hbV : Below w.heap.size w V := h5.trans (k1.below h5.size (fun k e => by omega))
  have hbF : Below w.heap.size w (V.putObj D (.deferred none)) := hbV.trans (belowK_b (w := w) (Nat.le_refl _) V D _ _ (by omega) hKV rfl rfl)
  have hne4 : (Value.slice a ini.length c).ownBlock ≠ some b4 := h4.not_row (by decide) h2
  have hneD : (Value.slice a ini.length c).ownBlock ≠ some D := by
    intro e
    rcases h2.2 with ⟨e1, _⟩ | ⟨g', cap, cur, e1, _, hgb, _⟩
    · rw [e1] at e; cases e
    · rw [e1] at e; cases e; rw [hgb] at hK; cases hK
  refine ⟨hKV, (hVD b4 (by omega)).trans l1, kv, vv, a, c, rfl, hm.below hbF, ?_, .of_below hbF, fun g hg => .inl hg⟩
  exact owns_base_le e3 (owns_at h2 fun g hg => (hVD g (fun e => hneD (by rw [← e]; exact hg))).trans (k1.block g (owns_lt h2 hg).1 (fun e => hne4 (by rw [← e]; exact hg))))

set_option maxRecDepth 100000 in
set_option maxHeartbeats 4000000 in
theorem do_scan (base p : Nat) (kv vv : Value) (m : List PairD) (key val high most : Int) (w : World) (h : MapAt base w p kv vv m) (hmax : m.length ≤ 10000000) (hm1 : 1 ≤ most) (hm2 : most ≤ 1000) :
    Calls Try.prog 26 #[.pointer (some ⟨p, 0, none⟩), .agg #[.int .i64 4, .int .u64 key, .int .u64 val, .int .u64 high, .int .i64 most]] w (DoneP base p kv vv m 4 0 (scanL (m.drop (place (keysOf m) key)) high most) w) := by
  refine (callsIn_wide (n := 5)).1 ?_
  obtain ⟨i0, hi0, hz0, hzs, hzb⟩ := info_parts info_pair
  have HH := Lib.hid h
  have HR := fun W => model_right ⟨4, key, val, high, most⟩ W
  have ho : OpD.right ⟨4, key, val, high, most⟩ = true := by simp [OpD.right, hm1, hm2]
  rw [ho] at HR
  clear h ho
  refine callsIn_of_wp_marks Try.func26 rfl trivial ?_ rfl
  simp only [Try.ntmps26, List.size_toArray, List.length_cons, List.length_nil, Nat.reduceAdd, Nat.reduceSub, Array.replicate_succ, Array.replicate_zero, List.push_toArray, List.append_toArray, List.nil_append, List.cons_append]
  gi_wp2_with (first | (refine ⟨trivial, ?_⟩; gi_at_call 25; refine (callsIn_wide.2 (HR _)).mono ?_; rintro e w' ⟨rfl, hbx⟩; obtain ⟨E, nx, rfl⟩ := below_ext hbx; clear hbx) | (refine ⟨trivial, ?_⟩; gi_at_call 44; refine (callsIn_wide.2 (told_any base p kv vv m key _ _ _ (HH.out.below (by ((repeat' (first | exact Below.refl _ _ | assumption | (refine Below_alloc ?_ ?_ _) | (refine Below_ext ?_ ?_ _ _) | (refine Below_setCell ?_ _ _ _ ?_) | apply Below.drew | refine Below_drewN ?_ _)) <;> first | done | (simp; done) | (simp; omega)))) (by omega) (by go_simp) (by go_simp) (by go_simp) (by go_simp))).mono ?_; rintro e w' ⟨rfl, hbx⟩; obtain ⟨E2, nx2, rfl⟩ := below_ext hbx; clear hbx) | (refine ⟨trivial, ?_⟩; gi_at_call 34; refine (callsIn_wide.2 (from_any base p kv vv m key _ (HH.out.below (by ((repeat' (first | exact Below.refl _ _ | assumption | (refine Below_alloc ?_ ?_ _) | (refine Below_ext ?_ ?_ _ _) | (refine Below_setCell ?_ _ _ _ ?_) | apply Below.drew | refine Below_drewN ?_ _)) <;> first | done | (simp; done) | (simp; omega)))) (by omega))).mono ?_; rintro e w' ⟨f, rfl, hT, hbx⟩; obtain ⟨E3, nx3, rfl⟩ := below_ext hbx; have HT := Lib.hid hT; clear hT hbx))
  obtain ⟨g, ga, gcap, rfl, hg0, hg, hn, hgc, hga, hgl, hgm⟩ := HT.out
  clear HT
  generalize hps : m.drop (place (keysOf m) key) = ps at *
  obtain ⟨W5, hW5⟩ : ∃ W5, (((((w.alloc (.cells #[.pointer (some ⟨p, 0, none⟩)] 43)).alloc (.cells #[.int .i64 4, .int .u64 key, .int .u64 val, .int .u64 high, .int .i64 most] 24)).alloc (.cells #[.int .i64 0, .int .u64 0, .slice none 0 0] 27)).ext E nx).ext E2 nx2) = W5 := ⟨_, rfl⟩
  have hs5 : W5.heap.size = (w.heap.size + 1 + 1 + 1 + E.size + E2.size) := by rw [← hW5]; simp
  have hb5 : Below w.heap.size w W5 := by rw [← hW5]; exact (by ((repeat' (first | exact Below.refl _ _ | assumption | (refine Below_alloc ?_ ?_ _) | (refine Below_ext ?_ ?_ _ _) | (refine Below_setCell ?_ _ _ _ ?_) | apply Below.drew | refine Below_drewN ?_ _)) <;> first | done | (simp; done) | (simp; omega)))
  have l3 : Lies W5 (w.heap.size + 1) #[.int .i64 4, .int .u64 key, .int .u64 val, .int .u64 high, .int .i64 most] 24 := by
    rw [← hW5]; exact heap_lt_ext (heap_lt_ext (heap_lt_alloc (heap_at_alloc (by simp))))
  have l4 : Lies W5 (w.heap.size + 1 + 1) #[.int .i64 0, .int .u64 0, .slice none 0 0] 27 := by
    rw [← hW5]; exact heap_lt_ext (heap_lt_ext (heap_at_alloc (by simp)))
  rw [hW5] at hg0 hg hn hgc hga hgl ⊢
  clear hW5
  obtain ⟨W0, hW0⟩ : ∃ W0, (W5.alloc (.cells #[.int .i64 4, .int .u64 0, .slice none 0 0] 27)).ext E3 nx3 = W0 := ⟨_, rfl⟩
  have l6 : Lies W0 (w.heap.size + 1 + 1 + 1 + E.size + E2.size) #[.int .i64 4, .int .u64 0, .slice none 0 0] 27 := by
    rw [← hW0]; exact heap_lt_ext (heap_at_alloc hs5.symm)
  replace l3 : Lies W0 (w.heap.size + 1) #[.int .i64 4, .int .u64 key, .int .u64 val, .int .u64 high, .int .i64 most] 24 := by rw [← hW0]; exact heap_lt_ext (heap_lt_alloc l3)
  replace l4 : Lies W0 (w.heap.size + 1 + 1) #[.int .i64 0, .int .u64 0, .slice none 0 0] 27 := by rw [← hW0]; exact heap_lt_ext (heap_lt_alloc l4)
  have hb0 : Below w.heap.size w W0 := by rw [← hW0]; exact Below_ext (hb5.alloc hb5.size _) (by simp; have := hb5.size; omega) _ _
  have hg1 : (w.heap.size + 1 + 1 + 1 + E.size + E2.size) < g := by have := hg0; simp at this; omega
  have hgl1 : ∀ k, (Value.slice ga ps.length gcap).ownBlock = some k → (w.heap.size + 1 + 1 + 1 + E.size + E2.size) + 1 ≤ k ∧ k < W0.heap.size := by
    intro k hk; have := hgl k hk; rw [hW0] at this; simp at this; omega
  rw [hW0] at hg hn hgc hga ⊢
  clear hgl hg0 hb5 hW0
  have hT := tellsP_stops (lo := (w.heap.size + 1 + 1 + 1 + E.size + E2.size) + 1) (n₀ := W0.heap.size) (w := W0) (g := g) hg1 hg (Nat.le_refl _) hgc hga hgl1 hgm 4 (by omega)
  have hI := scanInv_own w (w.heap.size + 1) (w.heap.size + 1 + 1) (w.heap.size + 1 + 1 + 1 + E.size + E2.size) W0.heap.size W0.heap.size #[.int .i64 4, .int .u64 key, .int .u64 val, .int .u64 high, .int .i64 most] high most hb0.size
  have hl6 := l6.lt
  refine wpIn_rangeFunc_ownH rfl (by omega) (gf := 55) (lb := #[.pointer (some ⟨g, 0, none⟩)]) rfl trivial (enters_of Try.func55 (by kernel_rfl) rfl)
    hT Mid.trans (Mid.put (Nat.le_refl _)) (Below.refl _ _) (fun _ => rfl)
    (ScanInv w (w.heap.size + 1) (w.heap.size + 1 + 1) (w.heap.size + 1 + 1 + 1 + E.size + E2.size) W0.heap.size #[.int .i64 4, .int .u64 key, .int .u64 val, .int .u64 high, .int .i64 most] high most)
    (fun c pre W => c = .exit 1 ∧ ∃ ini x, pre = ini ++ [x] ∧ (high < x.key ∨ (ini.length : Int) = most) ∧ ScanInv w (w.heap.size + 1) (w.heap.size + 1 + 1) (w.heap.size + 1 + 1 + 1 + E.size + E2.size) W0.heap.size #[.int .i64 4, .int .u64 key, .int .u64 val, .int .u64 high, .int .i64 most] high most ini W)
    hI (fun c s X Y row hs hg hr => by obtain ⟨hc, ini, x, h1, h2, h3⟩ := hs; exact ⟨hc, ini, x, h1, h2, hI ini X Y row h3 hg hr⟩)
    ⟨⟨none, 0, l6, World.ownsRow_nil _ _ _ _⟩, l3, l4, hb0, by simp, by simp; omega, Nat.le_refl _⟩
    (fun x a' W => ∃ Bx, (w.heap.size + 1 + 1 + 1 + E.size + E2.size) < Bx ∧ Lies W Bx #[.int .u64 x.key, .int .u64 x.val] 47 ∧ a' = { tmps := #[.pointer (some ⟨p, 0, none⟩), .agg #[.int .i64 4, .int .u64 key, .int .u64 val, .int .u64 high, .int .i64 most], .pointer (some ⟨w.heap.size, 0, none⟩), .pointer (some ⟨w.heap.size + 1, 0, none⟩), .pointer (some ⟨w.heap.size + 1 + 1, 0, none⟩), .func (.func 44) #[] #[.pointer (some ⟨w.heap.size, 0, none⟩), .pointer (some ⟨w.heap.size + 1, 0, none⟩)], .pointer (some ⟨(w.heap.size + 1 + 1 + 1 + E.size + E2.size), 0, none⟩), .pointer (some ⟨Bx, 0, none⟩), .pointer (some ⟨p, 0, none⟩), .bool false, .bool false, .agg #[.int .i64 4, .int .u64 key, .int .u64 val, .int .u64 high, .int .i64 most], .bool true, .bool false, .bool false, undef, .func (.func 44) #[] #[.pointer (some ⟨w.heap.size, 0, none⟩), .pointer (some ⟨w.heap.size + 1, 0, none⟩)], .func (.func 44) #[] #[.pointer (some ⟨w.heap.size, 0, none⟩), .pointer (some ⟨w.heap.size + 1, 0, none⟩)], .agg #[.int .i64 (toldK m key), .int .u64 (getM m key), .slice none 0 0], .pointer (some ⟨w.heap.size + 1, 0, none⟩), .int .i64 4, .bool false, .bool false, undef, undef, undef, undef, undef, undef, .bool false, .bool false, undef, undef, undef, undef, .bool true, .bool true, .agg #[.int .i64 4, .int .u64 0, .slice none 0 0], .pointer (some ⟨p, 0, none⟩), .pointer (some ⟨w.heap.size + 1, 1, none⟩), .int .u64 key, .func (.func 55) #[] #[.pointer (some ⟨g, 0, none⟩)], .agg #[.int .u64 x.key, .int .u64 x.val], undef, undef, undef, undef, undef, undef, undef, undef, undef, undef, undef, undef, undef, undef, undef, undef, undef, undef, undef, undef], defers := [] })
    (fun x a' _ X Y row hs hg hr => by obtain ⟨Bx, h1, h2, h3⟩ := hs; exact ⟨Bx, h1, lies_own Bx 47 (fun (_ : Unit) => #[.int .u64 x.key, .int .u64 x.val]) () X Y row h2 hg (fun r e => (hr r e).2), h3⟩)
    ?assign ?body ?done ?stop
  case assign =>
    rintro l pre x W K hS hK
    gi_wp2
    exact hK _ _ ((KeepsOthers.alloc _ _).from _) (Mid.alloc _ _ _ _) (hS.kp _) ⟨W.heap.size, by obtain ⟨⟨_, _, h1, _⟩, _⟩ := hS; exact h1.lt, World.alloc_heap_new W _, rfl⟩
  case body =>
    rintro l pre x a' W hl2 - hS ⟨Bx, hBx, bX, rfl⟩ hlt
    have HS := Lib.hid hS
    obtain ⟨⟨a, c, h1, h2⟩, h3, h4, h5, h6, h7, h8⟩ := hS
    have hc0 : W.cell? ⟨Bx, 0, none⟩ = some (.int .u64 x.key) := by simp [World.cell?, show W.heap[Bx]? = _ from bX]
    have hc1 : W.cell? ⟨Bx, 1, none⟩ = some (.int .u64 x.val) := by simp [World.cell?, show W.heap[Bx]? = _ from bX]
    have hc3 : W.cell? ⟨w.heap.size + 1, 3, none⟩ = some (.int .u64 high) := by simp [World.cell?, show W.heap[w.heap.size + 1]? = _ from h3]
    have hc4 : W.cell? ⟨w.heap.size + 1, 4, none⟩ = some (.int .i64 most) := by simp [World.cell?, show W.heap[w.heap.size + 1]? = _ from h3]
    have hc6 : W.cell? ⟨(w.heap.size + 1 + 1 + 1 + E.size + E2.size), 2, none⟩ = some (.slice a pre.length c) := by simp [World.cell?, show W.heap[(w.heap.size + 1 + 1 + 1 + E.size + E2.size)]? = _ from h1]
    have hz6 : W.frozen? ⟨(w.heap.size + 1 + 1 + 1 + E.size + E2.size), 2, none⟩ = false := by simp [World.frozen?, show W.heap[(w.heap.size + 1 + 1 + 1 + E.size + E2.size)]? = _ from h1]
    gi_wp2_with (gi_at_builtin; go_loud ((refine wpListIn_append_own _ rfl _ _ 25 rfl W0.heap.size 47 i0 _ 2 16 Try.underlying25 hi0 hz0 hzs hzb rfl (by decide) _ _ _ rfl (h2.alloc _) ⟨W.heap.size, 0, none⟩ 1 1 [.int .u64 x.key, .int .u64 x.val] rfl rfl (World.news_of_block (cs := #[.int .u64 x.key, .int .u64 x.val]) (t := 47) (fr := (0, 0)) (World.alloc_heap_new W _)) (by simp [Value.oneCell']) (by unfold maxLen; omega) (by omega) (by simp only [World.size_alloc]; omega) ?_); intro v' w1 hown' hgrow _; obtain ⟨g', cap', rfl⟩ := ownsRow_succ hown'; obtain ⟨hv1, hv2, hr2, hk2, hb2⟩ := lies_appended h1 (by decide) h2 hown' hgrow; have hc2 : w1.cell? ⟨(w.heap.size + 1 + 1 + 1 + E.size + E2.size), 2, none⟩ = some (.slice a pre.length c) := hv1.cell 2; have hf2 : w1.frozen? ⟨(w.heap.size + 1 + 1 + 1 + E.size + E2.size), 2, none⟩ = false := hv1.frozen 2))
    · have hq : high < x.key ∨ ((pre.length : Int) == most) = true := by assumption
      exact ⟨KeepsFrom.refl _ _, rfl, pre, x, rfl, hq.imp id eq_of_beq, HS.out⟩
    · have hq : x.key ≤ high ∧ ((pre.length : Int) == most) = false := by assumption
      have hq2 : ¬ (pre.length : Int) = most := ne_of_beq_false hq.2
      obtain ⟨q1, q2⟩ := scan_step h2 h3 h4 h5 h6 h7 h8 (by omega) hq2 ⟨by omega, by omega, by omega, by omega, by omega, by omega, hb0.size⟩ hv2 hr2 hb2
      exact ⟨hk2.from _, q1, q2⟩
    · exact ⟨KeepsFrom.refl _ _, rfl, pre, x, rfl, .inl (by omega), HS.out⟩
  case done =>
    rintro D ys W hD rfl ⟨⟨a, c, h1, h2⟩, h3, h4, h5, h6, h7, h8⟩ hK
    have c0 := h1.cell 0
    have c1 := h1.cell 1
    have c2 := h1.cell 2
    have d0 := h4.cell 0
    have d1 := h4.cell 1
    have d2 := h4.cell 2
    have z0 := h4.frozen 0
    have z1 := h4.frozen 1
    have z2 := h4.frozen 2
    simp only [List.getElem?_toArray, List.getElem?_cons_zero, List.getElem?_cons_succ] at c0 c1 c2 d0 d1 d2
    gi_wp2
    obtain ⟨q1, q2, q3⟩ := scan_end HH.out h1 h2 h4 h5 hD ⟨by omega, by omega, hb0.size⟩ hK rfl
    refine ⟨by simp, .inl ⟨_, _, rfl, run_takeDeferred q1, ?_⟩⟩
    exact ⟨_, results_cell_row rfl _ _ (w.heap.size + 1 + 1) 27 _ _ _ rfl q2 Try.underlying27 rfl rfl, by rw [scanL_all h6 h7]; exact q3⟩
  case stop =>
    rintro D c pre W hD hpre ⟨rfl, ini, x, rfl, hxx, ⟨a, c, h1, h2⟩, h3, h4, h5, h6, h7, h8⟩ hK
    have c0 := h1.cell 0
    have c1 := h1.cell 1
    have c2 := h1.cell 2
    have d0 := h4.cell 0
    have d1 := h4.cell 1
    have d2 := h4.cell 2
    have z0 := h4.frozen 0
    have z1 := h4.frozen 1
    have z2 := h4.frozen 2
    simp only [List.getElem?_toArray, List.getElem?_cons_zero, List.getElem?_cons_succ] at c0 c1 c2 d0 d1 d2
    gi_wp2
    obtain ⟨q1, q2, q3⟩ := scan_end HH.out h1 h2 h4 h5 hD ⟨by omega, by omega, hb0.size⟩ hK rfl
    refine ⟨by simp, .inl ⟨_, _, rfl, run_takeDeferred q1, ?_⟩⟩
    exact ⟨_, results_cell_row rfl _ _ (w.heap.size + 1 + 1) 27 _ _ _ rfl q2 Try.underlying27 rfl rfl, by rw [scanL_stop hpre h6 h7 hxx]; exact q3⟩
end Go.Proofs.Ytofhaechpllaoaa
namespace Go.Proofs.Ytofhaechpllaoaa
open Go Go.RowKit Go.Shelf

def resOf (m : List PairD) (o : OpD) : Int × Int × List PairD :=
  if o.right = false then (0, 0, []) else if o.kind = 4 then (4, 0, scanL (m.drop (place (keysOf m) o.key)) o.high o.most) else (toldK m o.key, getM m o.key, [])
def afterM (m : List PairD) (o : OpD) : List PairD :=
  if o.right = false then m else if o.kind = 2 then putM m o.key o.val else if o.kind = 3 then dropM m o.key else m
abbrev DoneO (base p : Nat) (kv vv : Value) (m : List PairD) (o : OpD) (w : World) : Ending → World → Prop :=
  DoneP base p kv vv (afterM m o) (resOf m o).1 (resOf m o).2.1 (resOf m o).2.2 w

theorem do_any (base p : Nat) (kv vv : Value) (m : List PairD) (o : OpD) (w : World) (h : MapAt base w p kv vv m) (hmax : m.length ≤ 10000000) :
    Calls Try.prog 26 #[.pointer (some ⟨p, 0, none⟩), o.agg] w (DoneO base p kv vv m o w) := by
  obtain ⟨kind, key, val, high, most⟩ := o
  unfold DoneO resOf afterM
  by_cases hr : OpD.right ⟨kind, key, val, high, most⟩ = false
  · rw [if_pos hr, if_pos hr]
    exact do_wrong base p kv vv m _ w h hr
  · rw [if_neg hr, if_neg hr]
    have hr' : OpD.right ⟨kind, key, val, high, most⟩ = true := by simpa using hr
    unfold OpD.right at hr'
    dsimp only at hr' ⊢
    by_cases h4 : kind = 4
    · subst h4
      simp at hr'
      simp only [if_true, show ¬ ((4 : Int) = 2) by omega, show ¬ ((4 : Int) = 3) by omega, if_false]
      exact do_scan base p kv vv m key val high most w h hmax hr'.1 hr'.2
    · rw [if_neg h4] at hr' ⊢
      have hk : 1 ≤ kind ∧ kind ≤ 3 := by simpa using hr'
      by_cases h2 : kind = 2
      · subst h2; exact do_put base p kv vv m key val high most w h (by omega)
      · rw [if_neg h2]
        by_cases h3 : kind = 3
        · subst h3; exact do_del base p kv vv m key val high most w h (by omega)
        · rw [if_neg h3]
          obtain rfl : kind = 1 := by omega
          exact do_get base p kv vv m key val high most w h (by omega)

theorem dropM_len (m : List PairD) (k : Int) : (dropM m k).length ≤ m.length := by
  unfold dropM; split
  · exact List.length_eraseIdx_le _ _
  · exact Nat.le_refl _
theorem afterM_len (m : List PairD) (o : OpD) : (afterM m o).length ≤ m.length + 1 := by
  unfold afterM
  split
  · omega
  · split
    · exact putM_len _ _ _
    · split
      · have := dropM_len m o.key; omega
      · omega
end Go.Proofs.Ytofhaechpllaoaa
namespace Go.Proofs.Ytofhaechpllaoaa
open Go Go.RowKit Go.Shelf

/-- A pair of a slice, read in a world behind. -/
theorem Arr.pair {w wr : World} {v : Value} {l : List PairD} (h : Arr w 2 PairD.cells v l) (hb : Below w.heap.size w wr) {j : Nat} {x : PairD} (hx : l[j]? = some x) :
    ∃ b o c, v = .slice (some ⟨b, o, none⟩) l.length c ∧ wr.holds b ∧ wr.cell? ⟨b, o + j * 2, none⟩ = some (.int .u64 x.key) ∧ wr.cell? ⟨b, o + j * 2 + 1, none⟩ = some (.int .u64 x.val) := by
  obtain ⟨a, c, rfl, _, _, q⟩ := h
  obtain ⟨b, o, rfl, hb1, q⟩ := q j x hx
  exact ⟨b, o, c, rfl, Nat.lt_of_lt_of_le hb1 hb.size, (hb.cell (p := ⟨b, o + j * 2 + 0, none⟩) hb1).trans (q 0 _ rfl), (hb.cell (p := ⟨b, o + j * 2 + 1, none⟩) hb1).trans (q 1 _ rfl)⟩

theorem filt_succ {α : Type} (p : α → Bool) {l : List α} {j : Nat} {x : α} (hx : l[j]? = some x) : (l.take (j + 1)).filter p = (l.take j).filter p ++ (if p x then [x] else []) := by
  rw [List.take_add_one, hx, List.filter_append]
  congr 1
  simp only [Option.toList_some, List.filter_cons, List.filter_nil]

set_option maxRecDepth 100000 in
set_option maxHeartbeats 2000000 in
theorem ref_drop (v : Value) (l : List PairD) (k : Int) (w : World) (h : Arr w 2 PairD.cells v l) (hmax : l.length ≤ 100000000) :
    Calls Try.prog 43 #[v, .int .u64 k] w fun e w' => ∃ a c, e = .returned (.slice a (dropR l k).length c) ∧ RowP w.heap.size w' (.slice a (dropR l k).length c) (dropR l k) ∧ Below w.heap.size w w' := by
  obtain ⟨i0, hi0, hz0, hzs, hzb⟩ := info_parts info_pair
  have HA := Lib.hid h
  obtain ⟨a0, c0, rfl, hc1, hc2, -⟩ := h
  go_enter Try.func43, Try.ntmps43
  go_wp2
  go_loopg [5, 6] l.length (fun g out i wr => ∃ j : Nat, j ≤ l.length ∧ g = l.length - j ∧ i = .int .i64 j ∧ (∃ a c, out = .slice a (dropR (l.take j) k).length c ∧ RowP w.heap.size wr out (dropR (l.take j) k)) ∧ Below w.heap.size w wr)
  case atStart => exact ⟨0, by omega, by omega, rfl, ⟨none, 0, rfl, rowP_nil _ _⟩, Below.refl _ _⟩
  case round =>
    obtain ⟨j, hj, rfl, rfl, ⟨a, c, rfl, hO⟩, hbw⟩ := hrel
    have hs := hbw.size
    have HO := Lib.hid hO
    clear hO
    by_cases hlt : j < l.length
    · obtain ⟨x, hx⟩ : ∃ x, l[j]? = some x := ⟨_, List.getElem?_eq_getElem hlt⟩
      obtain ⟨b, o, c', e, hh, e0, e1⟩ := HA.out.pair hbw hx
      cases e
      have hn : (dropR (l.take j) k).length ≤ 100000000 := by
        have h1 := List.length_filter_le (fun q : PairD => decide (q.key ≠ k)) (l.take j)
        have h2 := List.length_take_le j l
        unfold dropR; omega
      have hq : dropR (l.take (j + 1)) k = dropR (l.take j) k ++ (if x.key ≠ k then [x] else []) := by
        unfold dropR; rw [filt_succ _ hx]; simp
      have HQ := Lib.hid hq
      clear hx hq
      by_cases hk : x.key = k
      · go_wp2
        go_roundg (l.length - (j + 1))
        case rel => exact ⟨j + 1, by omega, rfl, by go_num, ⟨a, c, by rw [HQ.out]; simp [hk], by rw [HQ.out]; simp only [hk, ne_eq, not_true_eq_false, if_false, List.append_nil]; exact HO.out⟩, hbw⟩
        case measure => omega
      · go_wp2_with (at_builtin; refine wpList_append_own _ rfl _ _ 25 rfl w.heap.size 47 i0 _ 2 16 Try.underlying25 hi0 hz0 hzs hzb rfl (by decide) _ _ _ rfl (HO.out.alloc _) ⟨wr.heap.size, 0, none⟩ 1 1 [.int .u64 x.key, .int .u64 x.val] rfl rfl (World.news_of_block (cs := #[.int .u64 x.key, .int .u64 x.val]) (t := 47) (fr := (0, 0)) (World.alloc_heap_new wr _)) (by simp [Value.oneCell']) (by unfold maxLen; omega) (by omega) (by simp only [World.size_alloc]; omega) ?_; intro v' w1 hown' hgrow _; obtain ⟨g', cap', rfl⟩ := ownsRow_succ hown')
        go_roundg (l.length - (j + 1))
        case rel => exact ⟨j + 1, by omega, rfl, by go_num, ⟨some ⟨g', 0, none⟩, cap', by rw [HQ.out]; simp [hk], by rw [HQ.out]; simpa [RowP, hk, PairD.cells] using hown'⟩, below_grown hgrow (by ((repeat' (first | exact Below.refl _ _ | assumption | (refine Below_alloc ?_ ?_ _) | (refine Below_ext ?_ ?_ _ _) | (refine Below_setCell ?_ _ _ _ ?_) | apply Below.drew | refine Below_drewN ?_ _)) <;> first | done | (simp; done) | (simp; omega))) (owns_base HO.out) (by simp only [World.size_alloc]; omega)⟩
        case measure => omega
    · obtain rfl : j = l.length := by omega
      rw [List.take_length] at HO
      simp only [List.take_length]
      go_wp2
      go_ret
      exact ⟨a, c, rfl, HO.out, hbw⟩

def withinP (lo hi : Int) (q : PairD) : Bool := decide (lo ≤ q.key ∧ q.key ≤ hi)
def withinR (l : List PairD) (lo hi most : Int) : List PairD := (l.filter (withinP lo hi)).take most.toNat

theorem within_succ {l : List PairD} {lo hi most : Int} {j : Nat} {x : PairD} (hx : l[j]? = some x) (hm : 0 ≤ most) :
    withinR (l.take (j + 1)) lo hi most = withinR (l.take j) lo hi most ++ (if withinP lo hi x = true ∧ ((withinR (l.take j) lo hi most).length : Int) < most then [x] else []) := by
  unfold withinR
  rw [filt_succ _ hx, List.take_append, List.length_take]
  generalize (l.take j).filter (withinP lo hi) = ys
  congr 1
  by_cases hw : withinP lo hi x = true
  · rw [if_pos hw]
    by_cases hl : ys.length < most.toNat
    · rw [if_pos ⟨hw, by omega⟩, List.take_of_length_le (by simp; omega)]
    · rw [if_neg (by rintro ⟨_, h⟩; omega), show most.toNat - ys.length = 0 by omega, List.take_zero]
  · rw [if_neg hw, if_neg (by rintro ⟨h, _⟩; exact hw h), List.take_nil]

set_option maxRecDepth 100000 in
set_option maxHeartbeats 4000000 in
theorem ref_within (v : Value) (l : List PairD) (lo hi most : Int) (w : World) (h : Arr w 2 PairD.cells v l) (hmax : l.length ≤ 100000000) (hm0 : 0 ≤ most) :
    Calls Try.prog 33 #[v, .int .u64 lo, .int .u64 hi, .int .i64 most] w fun e w' => ∃ a c, e = .returned (.slice a (withinR l lo hi most).length c) ∧ RowP w.heap.size w' (.slice a (withinR l lo hi most).length c) (withinR l lo hi most) ∧ Below w.heap.size w w' := by
  obtain ⟨i0, hi0, hz0, hzs, hzb⟩ := info_parts info_pair
  have HA := Lib.hid h
  obtain ⟨a0, c0, rfl, hc1, hc2, -⟩ := h
  go_enter Try.func33, Try.ntmps33
  go_wp2
  go_loopg [9, 10] l.length (fun g out i wr => ∃ j : Nat, j ≤ l.length ∧ g = l.length - j ∧ i = .int .i64 j ∧ (∃ a c, out = .slice a (withinR (l.take j) lo hi most).length c ∧ RowP w.heap.size wr out (withinR (l.take j) lo hi most)) ∧ Below w.heap.size w wr)
  case atStart => exact ⟨0, by omega, by omega, rfl, ⟨none, 0, by simp [withinR], by simp [withinR]; exact rowP_nil _ _⟩, Below.refl _ _⟩
  case round =>
    obtain ⟨j, hj, rfl, rfl, ⟨a, c, rfl, hO⟩, hbw⟩ := hrel
    have hs := hbw.size
    have HO := Lib.hid hO
    clear hO
    by_cases hlt : j < l.length
    · obtain ⟨x, hx⟩ : ∃ x, l[j]? = some x := ⟨_, List.getElem?_eq_getElem hlt⟩
      obtain ⟨b, o, c', e, hh, e0, e1⟩ := HA.out.pair hbw hx
      cases e
      have hn : (withinR (l.take j) lo hi most).length ≤ 100000000 := by
        have h1 := List.length_filter_le (withinP lo hi) (l.take j)
        have h2 := List.length_take_le j l
        unfold withinR; rw [List.length_take]; omega
      have HQ := Lib.hid (within_succ (lo := lo) (hi := hi) hx hm0)
      clear hx
      by_cases hk : withinP lo hi x = true ∧ ((withinR (l.take j) lo hi most).length : Int) < most
      · have hw1 : lo ≤ x.key := (of_decide_eq_true hk.1).1
        have hw2 : x.key ≤ hi := (of_decide_eq_true hk.1).2
        have hw3 := hk.2
        go_wp2_with (at_builtin; refine wpList_append_own _ rfl _ _ 25 rfl w.heap.size 47 i0 _ 2 16 Try.underlying25 hi0 hz0 hzs hzb rfl (by decide) _ _ _ rfl (HO.out.alloc _) ⟨wr.heap.size, 0, none⟩ 1 1 [.int .u64 x.key, .int .u64 x.val] rfl rfl (World.news_of_block (cs := #[.int .u64 x.key, .int .u64 x.val]) (t := 47) (fr := (0, 0)) (World.alloc_heap_new wr _)) (by simp [Value.oneCell']) (by unfold maxLen; omega) (by omega) (by simp only [World.size_alloc]; omega) ?_; intro v' w1 hown' hgrow _; obtain ⟨g', cap', rfl⟩ := ownsRow_succ hown')
        go_roundg (l.length - (j + 1))
        case rel => exact ⟨j + 1, by omega, rfl, by go_num, ⟨some ⟨g', 0, none⟩, cap', by rw [HQ.out, if_pos hk]; simp, by rw [HQ.out, if_pos hk]; simpa [RowP, PairD.cells] using hown'⟩, below_grown hgrow (by ((repeat' (first | exact Below.refl _ _ | assumption | (refine Below_alloc ?_ ?_ _) | (refine Below_ext ?_ ?_ _ _) | (refine Below_setCell ?_ _ _ _ ?_) | apply Below.drew | refine Below_drewN ?_ _)) <;> first | done | (simp; done) | (simp; omega))) (owns_base HO.out) (by simp only [World.size_alloc]; omega)⟩
        case measure => omega
      · have hk2 : ¬ (lo ≤ x.key ∧ x.key ≤ hi ∧ ((withinR (l.take j) lo hi most).length : Int) < most) := fun ⟨q1, q2, q3⟩ => hk ⟨decide_eq_true ⟨q1, q2⟩, q3⟩
        go_wp2
        all_goals first
          | (exfalso; apply hk2; omega)
          | (go_roundg (l.length - (j + 1))
             case rel => exact ⟨j + 1, by omega, rfl, by go_num, ⟨a, c, by rw [HQ.out, if_neg hk, List.append_nil], by rw [HQ.out, if_neg hk, List.append_nil]; exact HO.out⟩, hbw⟩
             case measure => omega)
    · obtain rfl : j = l.length := by omega
      rw [List.take_length] at HO
      simp only [List.take_length]
      go_wp2
      go_ret
      exact ⟨a, c, rfl, HO.out, hbw⟩

/-- The index of a key, -1 if there is none. -/
def atR (l : List PairD) (k : Int) : Int := match l.findIdx? (fun q => q.key == k) with | some i => i | none => -1

set_option maxRecDepth 100000 in
set_option maxHeartbeats 2000000 in
theorem ref_at (v : Value) (l : List PairD) (k : Int) (w : World) (h : Arr w 2 PairD.cells v l) (hmax : l.length ≤ 100000000) :
    Calls Try.prog 31 #[v, .int .u64 k] w fun e w' => (∃ i : Int, e = .returned (.int .i64 i) ∧ ((i = -1 ∧ ∀ q ∈ l, q.key ≠ k) ∨ ∃ (j : Nat) (q : PairD), i = j ∧ l[j]? = some q ∧ q.key = k)) ∧ Below w.heap.size w w' := by
  have HA := Lib.hid h
  obtain ⟨a0, c0, rfl, hc1, hc2, -⟩ := h
  go_enter Try.func31, Try.ntmps31
  go_wp2
  go_loopg [5] l.length (fun g i wr => ∃ j : Nat, j ≤ l.length ∧ g = l.length - j ∧ i = .int .i64 j ∧ (∀ (n : Nat) (q : PairD), n < j → l[n]? = some q → q.key ≠ k) ∧ wr = w)
  case atStart => exact ⟨0, by omega, by omega, rfl, by intro n q h; omega, rfl⟩
  case round =>
    obtain ⟨j, hj, rfl, rfl, hno, rfl⟩ := hrel
    have HN := Lib.hid hno
    clear hno
    by_cases hlt : j < l.length
    · obtain ⟨x, hx⟩ : ∃ x, l[j]? = some x := ⟨_, List.getElem?_eq_getElem hlt⟩
      obtain ⟨b, o, c', e, hh, e0, e1⟩ := HA.out.pair (Below.refl _ _) hx
      cases e
      have HX := Lib.hid hx
      clear hx
      by_cases hk : x.key = k
      · go_wp2
        go_ret
        exact ⟨⟨_, rfl, .inr ⟨j, x, rfl, HX.out, hk⟩⟩, Below.refl _ _⟩
      · go_wp2
        go_roundg (l.length - (j + 1))
        case rel =>
          refine ⟨j + 1, by omega, rfl, by go_num, ?_, rfl⟩
          intro n q hn hq
          by_cases hnj : n = j
          · subst hnj; rw [HX.out] at hq; cases hq; exact hk
          · exact HN.out n q (by omega) hq
        case measure => omega
    · obtain rfl : j = l.length := by omega
      go_wp2
      go_ret
      refine ⟨⟨_, rfl, .inl ⟨rfl, ?_⟩⟩, Below.refl _ _⟩
      intro q hq
      obtain ⟨n, hn, rfl⟩ := List.getElem_of_mem hq
      exact HN.out n _ hn (List.getElem?_eq_getElem hn)
end Go.Proofs.Ytofhaechpllaoaa
namespace Go.Proofs.Ytofhaechpllaoaa
open Go Go.RowKit Go.Shelf

theorem putStep_len (k v : Int) (l : List PairD) : ∀ st : List PairD × Bool, (l.foldl (putStep k v) st).1.length ≤ st.1.length + 2 * l.length := by
  induction l with
  | nil => intro st; simp
  | cons x l ih =>
    intro st
    have h1 := ih (putStep k v st x)
    have h2 : (putStep k v st x).1.length ≤ st.1.length + 2 := by
      unfold putStep; dsimp only; split <;> split <;> simp <;> omega
    simp only [List.foldl_cons, List.length_cons]; omega
theorem fold_succ {l : List PairD} {j : Nat} {x : PairD} (k v : Int) (st : List PairD × Bool) (hx : l[j]? = some x) : (l.take (j + 1)).foldl (putStep k v) st = putStep k v ((l.take j).foldl (putStep k v) st) x := by
  rw [List.take_add_one, hx, List.foldl_append]; rfl

set_option maxRecDepth 100000 in
set_option maxHeartbeats 4000000 in
theorem ref_put (sv : Value) (l : List PairD) (k v : Int) (w : World) (h : Arr w 2 PairD.cells sv l) (hmax : l.length ≤ 10000000) :
    Calls Try.prog 21 #[sv, .int .u64 k, .int .u64 v] w fun e w' => ∃ a c, e = .returned (.slice a (putR l k v).length c) ∧ RowP w.heap.size w' (.slice a (putR l k v).length c) (putR l k v) ∧ Below w.heap.size w w' := by
  obtain ⟨i0, hi0, hz0, hzs, hzb⟩ := info_parts info_pair
  have HA := Lib.hid h
  obtain ⟨a0, c0, rfl, hc1, hc2, -⟩ := h
  unfold putR
  go_enter Try.func21, Try.ntmps21
  go_wp2
  go_loopg [7, 8, 9] l.length (fun g out dn i wr => ∃ j : Nat, j ≤ l.length ∧ g = l.length - j ∧ i = .int .i64 j ∧ (∃ a c, out = .slice a ((l.take j).foldl (putStep k v) ([], false)).1.length c ∧ RowP w.heap.size wr out ((l.take j).foldl (putStep k v) ([], false)).1) ∧ dn = .bool ((l.take j).foldl (putStep k v) ([], false)).2 ∧ Below w.heap.size w wr)
  case atStart => exact ⟨0, by omega, by omega, rfl, ⟨none, 0, rfl, rowP_nil _ _⟩, rfl, Below.refl _ _⟩
  case round =>
    obtain ⟨j, hj, rfl, rfl, ⟨a, c, rfl, hO⟩, rfl, hbw⟩ := hrel
    have hs := hbw.size
    have HO := Lib.hid hO
    clear hO
    by_cases hlt : j < l.length
    · obtain ⟨x, hx⟩ : ∃ x, l[j]? = some x := ⟨_, List.getElem?_eq_getElem hlt⟩
      obtain ⟨b, o, c', e, hh, e0, e1⟩ := HA.out.pair hbw hx
      cases e
      have hn : ((l.take j).foldl (putStep k v) ([], false)).1.length ≤ 100000000 := by
        have h1 := putStep_len k v (l.take j) ([], false)
        have h2 := List.length_take_le j l
        simp at h1; omega
      have HQ := Lib.hid (fold_succ k v ([], false) hx)
      have HX := Lib.hid hx
      clear hx
      generalize (l.take j).foldl (putStep k v) ([], false) = st at *
      obtain ⟨out, dn⟩ := st
      dsimp only at HO hn HQ ⊢
      by_cases hq : k ≤ x.key ∧ dn = false
      · obtain ⟨hq1, rfl⟩ := hq
        by_cases hk : x.key = k
        · have hp : putStep k v (out, false) x = (out ++ [⟨k, v⟩], true) := by simp [putStep, hk]
          rw [hp] at HQ
          go_wp2_with ((at_builtin; refine wpList_append_own _ rfl _ _ 25 rfl w.heap.size 47 i0 _ 2 16 Try.underlying25 hi0 hz0 hzs hzb rfl (by decide) _ _ _ rfl (HO.out.alloc _) ⟨wr.heap.size, 0, none⟩ 1 1 [.int .u64 k, .int .u64 v] rfl rfl (World.news_of_block (cs := #[.int .u64 k, .int .u64 v]) (t := 47) (fr := (0, 0)) (World.alloc_heap_new wr _)) (by simp [Value.oneCell']) (by unfold maxLen; omega) (by omega) (by simp only [World.size_alloc]; omega) ?_; intro v' w1 hown' hgrow _; obtain ⟨g', cap', rfl⟩ := ownsRow_succ hown'); have hb1 : Below w.heap.size w w1 := below_grown hgrow (by ((repeat' (first | exact Below.refl _ _ | assumption | (refine Below_alloc ?_ ?_ _) | (refine Below_ext ?_ ?_ _ _) | (refine Below_setCell ?_ _ _ _ ?_) | apply Below.drew | refine Below_drewN ?_ _)) <;> first | done | (simp; done) | (simp; omega))) (owns_base HO.out) (by simp only [World.size_alloc]; omega); obtain ⟨b1, o1, c1, he1, hh1, f0, f1⟩ := HA.out.pair hb1 HX.out; cases he1; have HB1 := Lib.hid hb1; have HG := Lib.hid hown'; clear hb1 hown' hgrow)
          go_roundg (l.length - (j + 1))
          case rel => exact ⟨j + 1, by omega, rfl, by go_num, ⟨some ⟨g', 0, none⟩, cap', by rw [HQ.out]; simp, by rw [HQ.out]; simpa [RowP, PairD.cells] using HG.out⟩, by rw [HQ.out], HB1.out⟩
          case measure => omega
        · have hp : putStep k v (out, false) x = (out ++ [⟨k, v⟩] ++ [x], true) := by simp [putStep, hk, hq1]
          rw [hp] at HQ
          go_wp2_with (first | ((at_builtin; refine wpList_append_own _ rfl _ _ 25 rfl w.heap.size 47 i0 _ 2 16 Try.underlying25 hi0 hz0 hzs hzb rfl (by decide) _ _ _ rfl (HO.out.alloc _) ⟨wr.heap.size, 0, none⟩ 1 1 [.int .u64 k, .int .u64 v] rfl rfl (World.news_of_block (cs := #[.int .u64 k, .int .u64 v]) (t := 47) (fr := (0, 0)) (World.alloc_heap_new wr _)) (by simp [Value.oneCell']) (by unfold maxLen; omega) (by omega) (by simp only [World.size_alloc]; omega) ?_; intro v' w1 hown' hgrow _; obtain ⟨g', cap', rfl⟩ := ownsRow_succ hown'); have hb1 : Below w.heap.size w w1 := below_grown hgrow (by ((repeat' (first | exact Below.refl _ _ | assumption | (refine Below_alloc ?_ ?_ _) | (refine Below_ext ?_ ?_ _ _) | (refine Below_setCell ?_ _ _ _ ?_) | apply Below.drew | refine Below_drewN ?_ _)) <;> first | done | (simp; done) | (simp; omega))) (owns_base HO.out) (by simp only [World.size_alloc]; omega); obtain ⟨b1, o1, c1, he1, hh1, f0, f1⟩ := HA.out.pair hb1 HX.out; cases he1; have HB1 := Lib.hid hb1; have HG := Lib.hid hown'; clear hb1 hown' hgrow) | (at_builtin; refine wpList_append_own _ rfl _ _ 25 rfl w.heap.size 47 i0 _ 2 16 Try.underlying25 hi0 hz0 hzs hzb rfl (by decide) _ _ _ rfl (HG.out.alloc _) ⟨w1.heap.size, 0, none⟩ 1 1 [.int .u64 x.key, .int .u64 x.val] rfl rfl (World.news_of_block (cs := #[.int .u64 x.key, .int .u64 x.val]) (t := 47) (fr := (0, 0)) (World.alloc_heap_new w1 _)) (by simp [Value.oneCell']) (by unfold maxLen; omega) (by omega) (by have := HB1.out.size; simp only [World.size_alloc]; omega) ?_; intro v2 w2 hown2 hgrow2 _; obtain ⟨g2, cap2, rfl⟩ := ownsRow_succ hown2))
          go_roundg (l.length - (j + 1))
          case rel => exact ⟨j + 1, by omega, rfl, by go_num, ⟨some ⟨g2, 0, none⟩, cap2, by rw [HQ.out]; simp, by rw [HQ.out]; simpa [RowP, PairD.cells] using hown2⟩, by rw [HQ.out], below_grown hgrow2 (HB1.out.alloc HB1.out.size _) (owns_base HG.out) (by have := HB1.out.size; simp only [World.size_alloc]; omega)⟩
          case measure => omega
      · by_cases hk : x.key = k
        · have hp : putStep k v (out, dn) x = (out, dn) := by simp only [putStep, hq, if_false]; simp [hk]
          rw [hp] at HQ
          have hq2 : dn = true := by cases dn with | true => rfl | false => exact absurd ⟨by omega, rfl⟩ hq
          subst hq2
          go_wp2
          go_roundg (l.length - (j + 1))
          case rel => exact ⟨j + 1, by omega, rfl, by go_num, ⟨a, c, by rw [HQ.out], by rw [HQ.out]; exact HO.out⟩, by rw [HQ.out], hbw⟩
          case measure => omega
        · have hp : putStep k v (out, dn) x = (out ++ [x], dn) := by simp only [putStep, hq, if_false]; simp [hk]
          rw [hp] at HQ
          cases dn
          · have hlt2 : x.key < k := by
              have hng : ¬ k ≤ x.key := fun h1 => hq ⟨h1, rfl⟩
              omega
            go_wp2_with (at_builtin; refine wpList_append_own _ rfl _ _ 25 rfl w.heap.size 47 i0 _ 2 16 Try.underlying25 hi0 hz0 hzs hzb rfl (by decide) _ _ _ rfl (HO.out.alloc _) ⟨wr.heap.size, 0, none⟩ 1 1 [.int .u64 x.key, .int .u64 x.val] rfl rfl (World.news_of_block (cs := #[.int .u64 x.key, .int .u64 x.val]) (t := 47) (fr := (0, 0)) (World.alloc_heap_new wr _)) (by simp [Value.oneCell']) (by unfold maxLen; omega) (by omega) (by simp only [World.size_alloc]; omega) ?_; intro v' w1 hown' hgrow _; obtain ⟨g', cap', rfl⟩ := ownsRow_succ hown')
            go_roundg (l.length - (j + 1))
            case rel => exact ⟨j + 1, by omega, rfl, by go_num, ⟨some ⟨g', 0, none⟩, cap', by rw [HQ.out]; simp, by rw [HQ.out]; simpa [RowP, PairD.cells] using hown'⟩, by rw [HQ.out], below_grown hgrow (by ((repeat' (first | exact Below.refl _ _ | assumption | (refine Below_alloc ?_ ?_ _) | (refine Below_ext ?_ ?_ _ _) | (refine Below_setCell ?_ _ _ _ ?_) | apply Below.drew | refine Below_drewN ?_ _)) <;> first | done | (simp; done) | (simp; omega))) (owns_base HO.out) (by simp only [World.size_alloc]; omega)⟩
            case measure => omega
          · by_cases hge : k ≤ x.key
            all_goals
              go_wp2_with (at_builtin; refine wpList_append_own _ rfl _ _ 25 rfl w.heap.size 47 i0 _ 2 16 Try.underlying25 hi0 hz0 hzs hzb rfl (by decide) _ _ _ rfl (HO.out.alloc _) ⟨wr.heap.size, 0, none⟩ 1 1 [.int .u64 x.key, .int .u64 x.val] rfl rfl (World.news_of_block (cs := #[.int .u64 x.key, .int .u64 x.val]) (t := 47) (fr := (0, 0)) (World.alloc_heap_new wr _)) (by simp [Value.oneCell']) (by unfold maxLen; omega) (by omega) (by simp only [World.size_alloc]; omega) ?_; intro v' w1 hown' hgrow _; obtain ⟨g', cap', rfl⟩ := ownsRow_succ hown')
              go_roundg (l.length - (j + 1))
              case rel => exact ⟨j + 1, by omega, rfl, by go_num, ⟨some ⟨g', 0, none⟩, cap', by rw [HQ.out]; simp, by rw [HQ.out]; simpa [RowP, PairD.cells] using hown'⟩, by rw [HQ.out], below_grown hgrow (by ((repeat' (first | exact Below.refl _ _ | assumption | (refine Below_alloc ?_ ?_ _) | (refine Below_ext ?_ ?_ _ _) | (refine Below_setCell ?_ _ _ _ ?_) | apply Below.drew | refine Below_drewN ?_ _)) <;> first | done | (simp; done) | (simp; omega))) (owns_base HO.out) (by simp only [World.size_alloc]; omega)⟩
              case measure => omega
    · obtain rfl : j = l.length := by omega
      rw [List.take_length] at HO
      have hn : (l.foldl (putStep k v) ([], false)).1.length ≤ 100000000 := by
        have h1 := putStep_len k v l ([], false)
        simp at h1; omega
      simp only [List.take_length]
      obtain ⟨out, dn, hst⟩ : ∃ out dn, l.foldl (putStep k v) ([], false) = (out, dn) := ⟨_, _, rfl⟩
      rw [hst] at HO hn
      simp only [hst]
      dsimp only at HO hn
      have HS := Lib.hid hst
      clear hst
      cases dn
      · go_wp2_with (at_builtin; refine wpList_append_own _ rfl _ _ 25 rfl w.heap.size 47 i0 _ 2 16 Try.underlying25 hi0 hz0 hzs hzb rfl (by decide) _ _ _ rfl (HO.out.alloc _) ⟨wr.heap.size, 0, none⟩ 1 1 [.int .u64 k, .int .u64 v] rfl rfl (World.news_of_block (cs := #[.int .u64 k, .int .u64 v]) (t := 47) (fr := (0, 0)) (World.alloc_heap_new wr _)) (by simp [Value.oneCell']) (by unfold maxLen; omega) (by omega) (by simp only [World.size_alloc]; omega) ?_; intro v' w1 hown' hgrow _; obtain ⟨g', cap', rfl⟩ := ownsRow_succ hown')
        go_ret
        rw [HS.out]
        exact ⟨some ⟨g', 0, none⟩, cap', by simp [putFin], by simpa [putFin, RowP, PairD.cells] using hown', below_grown hgrow (by ((repeat' (first | exact Below.refl _ _ | assumption | (refine Below_alloc ?_ ?_ _) | (refine Below_ext ?_ ?_ _ _) | (refine Below_setCell ?_ _ _ _ ?_) | apply Below.drew | refine Below_drewN ?_ _)) <;> first | done | (simp; done) | (simp; omega))) (owns_base HO.out) (by simp only [World.size_alloc]; omega)⟩
      · go_wp2
        go_ret
        rw [HS.out]
        exact ⟨a, c, by simp [putFin], by simpa [putFin] using HO.out, hbw⟩
end Go.Proofs.Ytofhaechpllaoaa
namespace Go.Proofs.Ytofhaechpllaoaa
open Go Go.RowKit Go.Shelf

def afterR (l : List PairD) (o : OpD) : List PairD := if o.kind = 2 then putR l o.key o.val else if o.kind = 3 then dropR l o.key else l

theorem Arr.ofRow {b : Nat} {w : World} {v : Value} {l : List PairD} (h : RowP b w v l) : Arr w 2 PairD.cells v l := Arr.of_owns PairD.cells_len h

set_option maxRecDepth 100000 in
set_option maxHeartbeats 2000000 in
theorem ref_after (sv : Value) (l : List PairD) (o : OpD) (w : World) (h : Arr w 2 PairD.cells sv l) (hmax : l.length ≤ 10000000) :
    Calls Try.prog 24 #[sv, o.agg] w fun e w' => ∃ sv', e = .returned sv' ∧ Arr w' 2 PairD.cells sv' (afterR l o) ∧ Below w.heap.size w w' := by
  obtain ⟨kind, key, val, high, most⟩ := o
  have HA := Lib.hid h
  clear h
  unfold afterR
  by_cases h2 : kind = 2
  · subst h2
    go_enter Try.func24, Try.ntmps24
    go_wp2_with (go_at_call 21; with_reducible refine (ref_put sv l key val _ (HA.out.alloc _) hmax).mono ?_; rintro e w' ⟨a, c, rfl, hr, hbx⟩)
    go_ret
    exact ⟨_, rfl, Arr.ofRow hr, (Joins.below_alloc1 w _).trans (hbx.mono (by simp))⟩
  · by_cases h3 : kind = 3
    · subst h3
      go_enter Try.func24, Try.ntmps24
      go_wp2_with (go_at_call 43; with_reducible refine (ref_drop sv l key _ (HA.out.alloc _) (by omega)).mono ?_; rintro e w' ⟨a, c, rfl, hr, hbx⟩)
      go_ret
      exact ⟨_, rfl, Arr.ofRow hr, (Joins.below_alloc1 w _).trans (hbx.mono (by simp))⟩
    · go_enter Try.func24, Try.ntmps24
      go_wp2
      go_ret
      simp only [h2, h3, if_false]
      exact ⟨_, rfl, HA.out.alloc _, Joins.below_alloc1 w _⟩

theorem arr_swap {u : World} {A B : Obj} {E : Array Obj} {n : Nat} {v : Value} {l : List PairD} (h : RowP (u.alloc A).heap.size ((u.alloc A).ext E n) v l) : Arr ((u.alloc B).ext E n) 2 PairD.cells v l := by
  refine (Arr.ofRow h).of_same (by simp) (fun g hg hv => ?_)
  have hge := owns_base h g hv
  simp at hge
  show (u.heap.push B ++ E)[g]? = (u.heap.push A ++ E)[g]?
  rw [Array.getElem?_append_right (by simp; omega), Array.getElem?_append_right (by simp; omega)]
  simp

/-- What the document says an operation comes to. -/
def ResR (l : List PairD) (o : OpD) (r : Int × Int × List PairD) : Prop :=
  if o.kind = 4 then r = (4, 0, withinR l o.key o.high o.most) else ((∀ q ∈ l, q.key ≠ o.key) ∧ r = (1, 0, [])) ∨ ∃ q ∈ l, q.key = o.key ∧ r = (2, q.val, [])

set_option maxRecDepth 100000 in
set_option maxHeartbeats 2000000 in
theorem ref_result (sv : Value) (l : List PairD) (o : OpD) (w : World) (h : Arr w 2 PairD.cells sv l) (hmax : l.length ≤ 10000000) (hr : o.right = true) :
    Calls Try.prog 23 #[sv, o.agg] w fun e w' => ∃ r a c, ResR l o r ∧ e = .returned (.agg #[.int .i64 r.1, .int .u64 r.2.1, .slice a r.2.2.length c]) ∧ Arr w' 2 PairD.cells (.slice a r.2.2.length c) r.2.2 ∧ Below w.heap.size w w' := by
  obtain ⟨kind, key, val, high, most⟩ := o
  have HA := Lib.hid h
  clear h
  unfold ResR
  dsimp only
  by_cases h4 : kind = 4
  · subst h4
    have hm : 0 ≤ most := by unfold OpD.right at hr; simp at hr; omega
    simp only [if_true]
    go_enter Try.func23, Try.ntmps23
    go_wp2_with (go_at_call 33; with_reducible refine (ref_within sv l key high most _ ((HA.out.alloc _).alloc _) (by omega) hm).mono ?_; rintro e w' ⟨a, c, rfl, hrw, hbx⟩; obtain ⟨E, nx, rfl⟩ := below_ext hbx; have HR := Lib.hid hrw; clear hrw hbx)
    (try simp only [Exit.inBlock, Exit.then])
    refine bodyPost_ret (v := .agg #[.int .i64 4, .int .u64 0, .slice a (withinR l key high most).length c]) ?_ rfl ⟨(4, 0, withinR l key high most), a, c, rfl, rfl, ?_, (by ((repeat' (first | exact Below.refl _ _ | assumption | (refine Below_alloc ?_ ?_ _) | (refine Below_ext ?_ ?_ _ _) | (refine Below_setCell ?_ _ _ _ ?_) | apply Below.drew | refine Below_drewN ?_ _)) <;> first | done | (simp; done) | (simp; omega)))⟩
    · rw [results_cell1 rfl]
      go_simp
    · exact arr_swap HR.out
  · simp only [h4, if_false]
    go_enter Try.func23, Try.ntmps23
    go_wp2_with (go_at_call 31; with_reducible refine (ref_at sv l key _ ((HA.out.alloc _).alloc _) (by omega)).mono ?_; rintro e w' ⟨⟨i, rfl, hi⟩, hbx⟩; obtain ⟨E, nx, rfl⟩ := below_ext hbx; clear hbx; rcases hi with ⟨rfl, hno⟩ | ⟨j, q, rfl, hq, hk⟩; rotate_left; obtain ⟨b, o, c', e, hh, e0, e1⟩ := HA.out.pair (by ((repeat' (first | exact Below.refl _ _ | assumption | (refine Below_alloc ?_ ?_ _) | (refine Below_ext ?_ ?_ _ _) | (refine Below_setCell ?_ _ _ _ ?_) | apply Below.drew | refine Below_drewN ?_ _)) <;> first | done | (simp; done) | (simp; omega))) hq; cases e; have hjl := (List.getElem?_eq_some_iff.1 hq).1)
    · (try simp only [Exit.inBlock, Exit.then])
      refine bodyPost_ret (v := .agg #[.int .i64 2, .int .u64 q.val, .slice none 0 0]) ?_ rfl ⟨(2, q.val, []), none, 0, .inr ⟨q, List.mem_of_getElem? hq, hk, rfl⟩, rfl, Arr.zero _ _ _ _ _ (by omega), (by ((repeat' (first | exact Below.refl _ _ | assumption | (refine Below_alloc ?_ ?_ _) | (refine Below_ext ?_ ?_ _ _) | (refine Below_setCell ?_ _ _ _ ?_) | apply Below.drew | refine Below_drewN ?_ _)) <;> first | done | (simp; done) | (simp; omega)))⟩
      rw [results_cell1 rfl]
      go_simp
    · (try simp only [Exit.inBlock, Exit.then])
      refine bodyPost_ret (v := .agg #[.int .i64 1, .int .u64 0, .slice none 0 0]) ?_ rfl ⟨(1, 0, []), none, 0, .inl ⟨hno, rfl⟩, rfl, Arr.zero _ _ _ _ _ (by omega), (by ((repeat' (first | exact Below.refl _ _ | assumption | (refine Below_alloc ?_ ?_ _) | (refine Below_ext ?_ ?_ _ _) | (refine Below_setCell ?_ _ _ _ ?_) | apply Below.drew | refine Below_drewN ?_ _)) <;> first | done | (simp; done) | (simp; omega)))⟩
      rw [results_cell1 rfl]
      go_simp
end Go.Proofs.Ytofhaechpllaoaa
namespace Go.Proofs.Ytofhaechpllaoaa
open Go Go.RowKit

def InU (l : List PairD) : Prop := ∀ q ∈ l, 0 ≤ q.key ∧ q.key ≤ 18446744073709551615
theorem newM_from (l m : List PairD) (h : Rising m) (hu : InU m) (hl : InU l) : Rising (l.foldl (fun m q => putM m q.key q.val) m) ∧ InU (l.foldl (fun m q => putM m q.key q.val) m) := by
  induction l generalizing m with
  | nil => exact ⟨h, hu⟩
  | cons x l ih =>
    simp only [List.foldl_cons]
    rw [putM_eq h]
    refine ih _ (putL_rising _ _ _ h) (fun q hq => ?_) (fun q hq => hl q (by simp [hq]))
    rcases putL_mem _ _ _ _ hq with rfl | hq
    · exact hl x (by simp)
    · exact hu q hq
theorem newM_rising (l : List PairD) (hl : InU l) : Rising (newM l) ∧ InU (newM l) := newM_from l [] List.Pairwise.nil (by intro q hq; cases hq) hl
theorem putL_has (k v : Int) : ∀ (l : List PairD), Rising l → (⟨k, v⟩ : PairD) ∈ putL l k v := by
  intro l
  induction l with
  | nil => intro _; simp [putL]
  | cons q l ih =>
    intro h
    unfold putL
    split
    · exact List.mem_cons_of_mem _ (ih (List.Pairwise.of_cons h))
    · split <;> simp
theorem place_at {m : List PairD} (h : Rising m) {q : PairD} (hq : q ∈ m) : m[place (keysOf m) q.key]? = some q := by
  obtain ⟨i, hi⟩ := List.mem_iff_getElem?.1 hq
  have h1 := place_spec h q.key i q hi
  have h2 : ¬ i < place (keysOf m) q.key := fun e => by have := h1.2 e; omega
  rcases Nat.lt_or_ge (place (keysOf m) q.key) i with h3 | h3
  · have hlt : place (keysOf m) q.key < m.length := Nat.lt_trans h3 (List.getElem?_eq_some_iff.1 hi).1
    have h4 := place_spec h q.key _ _ (List.getElem?_eq_getElem hlt)
    have h5 := rising_get h h3 (List.getElem?_eq_getElem hlt) hi
    have := h4.1 h5
    omega
  · obtain rfl : place (keysOf m) q.key = i := by omega
    exact hi
theorem has_at {m : List PairD} (h : Rising m) {k v : Int} (hq : (⟨k, v⟩ : PairD) ∈ m) : isAt (keysOf m) k = true ∧ getM m k = v := by
  have h1 := place_at h hq
  have h2 : isAt (keysOf m) k = true := by
    unfold isAt
    rw [keysOf_get, h1]; simp
  refine ⟨h2, ?_⟩
  unfold getM
  rw [if_pos h2, List.getD_eq_getElem?_getD, h1]; rfl
theorem not_at {m : List PairD} {k : Int} (hn : ∀ q ∈ m, q.key ≠ k) : isAt (keysOf m) k = false := by
  cases hb : isAt (keysOf m) k with
  | false => rfl
  | true =>
    have h1 := isAt_key hb
    cases h2 : m[place (keysOf m) k]? with
    | none => rw [h2] at h1; cases h1
    | some q => rw [h2] at h1; simp at h1; exact absurd h1 (hn q (List.mem_of_getElem? h2))
theorem place_zero {m : List PairD} (h : Rising m) (hu : InU m) : place (keysOf m) 0 = 0 := by
  rcases Nat.eq_zero_or_pos (place (keysOf m) 0) with h0 | h0
  · exact h0
  · have hle : place (keysOf m) 0 ≤ m.length := by have := place_le (keysOf m) 0; simpa [keysOf] using this
    have hlt : 0 < m.length := by omega
    have h1 := place_spec h 0 0 m[0] (by simp)
    have := h1.2 h0
    have := (hu m[0] (by simp)).1
    omega
theorem scan_all {m : List PairD} (h : Rising m) (hu : InU m) (hl : m.length ≤ 1000) (h1 : 1 ≤ m.length) :
    resOf m ⟨4, 0, 0, 18446744073709551615, m.length⟩ = (4, 0, m) := by
  have hr : OpD.right ⟨4, 0, 0, 18446744073709551615, (m.length : Int)⟩ = true := by
    simp [OpD.right]; omega
  unfold resOf
  rw [if_neg (by rw [hr]; simp)]
  simp only [if_true]
  rw [place_zero h hu, List.drop_zero]
  rw [scanL_all (fun q hq => (hu q hq).2) (Int.le_refl _)]
theorem keeps_law (l : List PairD) (key value : Int) (hl : InU l) (hk : 0 ≤ key ∧ key ≤ 18446744073709551615) (hn : l.length ≤ 100) :
    ∃ m1 m2 : List PairD, afterM (newM l) ⟨2, key, value, 0, 0⟩ = m1 ∧ 1 ≤ m1.length ∧ m1.length ≤ 101 ∧ (newM l).length ≤ 100 ∧
      resOf m1 ⟨1, key, 0, 0, 0⟩ = (2, value, []) ∧ afterM m1 ⟨1, key, 0, 0, 0⟩ = m1 ∧ resOf m1 ⟨4, 0, 0, 18446744073709551615, m1.length⟩ = (4, 0, m1) ∧ afterM m1 ⟨4, 0, 0, 18446744073709551615, m1.length⟩ = m1 ∧
      m1.drop (place (keysOf m1) 0) = m1 ∧ afterM m1 ⟨3, key, 0, 0, 0⟩ = m2 ∧ m2.length ≤ 101 ∧ isAt (keysOf m2) key = false ∧ resOf m2 ⟨1, key, 0, 0, 0⟩ = (1, 0, []) ∧ afterM m2 ⟨1, key, 0, 0, 0⟩ = m2 ∧ (resOf m2 ⟨3, key, 0, 0, 0⟩).1 = 1 := by
  obtain ⟨r0, u0⟩ := newM_rising l hl
  have l0 := newM_len l
  generalize newM l = m0 at *
  have r1 := putL_rising key value m0 r0
  have hh := putL_has key value m0 r0
  have u1 : InU (putL m0 key value) := fun q hq => by
    rcases putL_mem _ _ _ _ hq with rfl | hq
    · exact hk
    · exact u0 q hq
  have hl1 : (putL m0 key value).length ≤ 101 := by have := putM_len m0 key value; rw [putM_eq r0] at this; omega
  have e1 : afterM m0 ⟨2, key, value, 0, 0⟩ = putL m0 key value := by simp [afterM, OpD.right, putM_eq r0]
  generalize putL m0 key value = m1 at *
  have h1 : 1 ≤ m1.length := List.length_pos_of_mem hh
  obtain ⟨a1, a2⟩ := has_at r1 hh
  have r2 := dropR_rising r1 key
  have e2 : dropM m1 key = dropR m1 key := dropM_eq r1 key
  have n2 : ∀ q ∈ dropR m1 key, q.key ≠ key := fun q hq => by
    have := (List.mem_filter.1 hq).2
    simpa using this
  have a3 := not_at n2
  have hl2 : (dropR m1 key).length ≤ m1.length := List.length_filter_le _ _
  refine ⟨m1, dropR m1 key, e1, h1, hl1, by omega, by simp [resOf, OpD.right, toldK, a1, a2], by simp [afterM, OpD.right], scan_all r1 u1 (by omega) h1, by simp [afterM], by rw [place_zero r1 u1]; rfl, by simp [afterM, OpD.right, e2], by omega, a3, by simp [resOf, OpD.right, toldK, getM, a3], by simp [afterM, OpD.right], by simp [resOf, OpD.right, toldK, a3]⟩
end Go.Proofs.Ytofhaechpllaoaa
