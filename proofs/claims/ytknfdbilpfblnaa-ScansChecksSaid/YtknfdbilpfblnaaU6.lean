/- The texts Isr, CMd, CMe, CMf, CPs, CAf, CSt, CDa, CDt, CCt: slices.Insert and slices.Delete of one number, of a row of one's own that may be empty with room behind it. Contracts: the document's model as the program keeps it: two rows of numbers, turned where .. -/
import Derived.Test.YtknfdbilpfblnaaU5
set_option linter.all false
set_option maxRecDepth 100000
section
noncomputable section
namespace Go.Proofs.Ytknfdbilpfblnaa
open Go Go.RowKit
theorem info_u64 : (Try.prog.info? 34).map (λ i => (i.zero, i.size, i.bytes)) = some (some (.int .u64 0), 1, 8) := by kernel_rfl
theorem size_u64 : (Try.prog.info? 34).map (·.size) = some 1 := by kernel_rfl
theorem kp_setRow (w : World) (g : Nat) (cs : Array Value) : Kp (λ k => k = g) w (w.setRow g cs) :=
 ⟨rfl, rfl, rfl, by simp [World.setRow], λ k _ hk => setRow_other w g k cs hk⟩
def insAt (xs : List Value) (i : Nat) (x : Value) : List Value := xs.take i ++ x :: xs.drop i
theorem insAt_length (xs : List Value) (i : Nat) (x : Value) (h : i <= xs.length) : (insAt xs i x).length = xs.length + 1 := by
 simp [insAt]; omega
def Inserted (base : Nat) (v : Value) (xs : List Value) (i : Nat) (x : Value) (w : World) (e : Ending) (w' : World) : Prop :=
 ∃ v', e = .returned v' /\ w'.ownsRow base 34 1 v' (xs.length + 1) (insAt xs i x) /\ Kp (λ g => v.ownBlock = some g) w w' /\ (v'.ownBlock = v.ownBlock ∨ ∃ g, v'.ownBlock = some g /\ w.heap.size <= g)
theorem u64_cellsz (w : World) : (Go.sizeOf 34).run Try.prog w = .ok 1 w := by
 obtain ⟨i0, hi, hz0, hz1, hz2⟩ := info_parts info_u64
 simp [Go.sizeOf, typeInfo, hi, hz1]
theorem overlaps_apart (vb g o lb cb : Nat) (w : World) (hne : vb ≠ g) (x : Value) (cur : Array Value) (hg : w.heap[g]? = some (.cells cur 34 (0, 0))) (hv : w.heap[vb]? = some (.cells #[x] 34 (0, 0))) (h0 : 0 < cur.size) :
 (callFunc 116 #[.slice (some ⟨vb, 0, none⟩) 1 1, .slice (some ⟨g, o, none⟩) lb cb]).run Try.prog w = .ok (.value (.bool false)) w := by
 have hov := Lib.run_overlaps_apart (P := Try.prog) w 52 4 34 Try.underlying52 1 u64_cellsz ⟨vb, 0, none⟩ ⟨g, o, none⟩ 1 1 lb cb hne 34 34 1 cur.size
  (by simp [World.shape?, hv]) (by simp [World.shape?, hg]) (by omega) (by simp [World.frozen?, hv]) (by simp [World.frozen?, hv])
 rw [run_callFunc_extern Try.func116 (by kernel_rfl) (by kernel_rfl) (by kernel_rfl) (e := Extern.SlicesOverlaps.overlaps #[52, 52] #[4]) (by kernel_rfl), hov]
 rfl
def shift1 (cur : List Value) (xs : List Value) (i : Nat) : List Value := cur.take (i + 1) ++ xs.drop i ++ cur.drop (i + 1 + (xs.drop i).length)
def shift2 (cur : List Value) (xs : List Value) (i : Nat) (x : Value) : List Value := (shift1 cur xs i).take i ++ [x] ++ (shift1 cur xs i).drop (i + [x].length)
theorem shift1_length (cur xs : List Value) (i : Nat) (hi : i < xs.length) (hc : xs.length + 1 <= cur.length) : (shift1 cur xs i).length = cur.length := by
 simp [shift1]; omega
theorem shift2_length (cur xs : List Value) (i : Nat) (x : Value) (hi : i < xs.length) (hc : xs.length + 1 <= cur.length) : (shift2 cur xs i x).length = cur.length := by
 have := shift1_length cur xs i hi hc
 simp [shift2, this]; omega
theorem split_at {α : Type} (xs : List α) (i : Nat) (h : i <= xs.length) : ∃ A B, xs = A ++ B /\ A.length = i :=
 ⟨xs.take i, xs.drop i, (List.take_append_drop i xs).symm, by simp; omega⟩
theorem shift2_take (cur xs : List Value) (i : Nat) (x : Value) (hi : i < xs.length) (hc : xs.length + 1 <= cur.length) (ht : cur.take xs.length = xs) : (shift2 cur xs i x).take (xs.length + 1) = insAt xs i x := by
 obtain ⟨ys, hys⟩ : ∃ ys, cur = xs ++ ys := ⟨cur.drop xs.length, by conv => lhs; rw [<- List.take_append_drop xs.length cur, ht]⟩
 subst hys
 obtain ⟨A, B, rfl, rfl⟩ := split_at xs i (by omega)
 cases B with
 | nil => simp at hi
 | cons b B =>
 cases ys with
 | nil => simp at hc; omega
 | cons y Y =>
 have h1 : shift1 (A ++ b :: B ++ y :: Y) (A ++ b :: B) A.length = A ++ b :: b :: B ++ Y := by
  simp [shift1, List.take_append, List.drop_append]
  rw [List.take_of_length_le (by omega), List.drop_eq_nil_of_le (by omega), show A.length + 1 + (B.length + 1) - A.length = B.length + 2 by omega]
  simp [List.drop_append]
 have h2 : shift2 (A ++ b :: B ++ y :: Y) (A ++ b :: B) A.length x = A ++ x :: b :: B ++ Y := by
  unfold shift2; rw [h1]; simp [List.drop_append]
 rw [h2]
 simp [insAt, List.take_append]
 rw [List.take_of_length_le (by omega), show A.length + (B.length + 1) + 1 - A.length = B.length + 2 by omega]
 simp
theorem oneCell_sub {xs ys : List Value} (h : ∀ u ∈ xs, u.oneCell' = true) (hs : ∀ u ∈ ys, u ∈ xs) : ∀ u ∈ ys, u.oneCell' = true := λ u hu => h u (hs u hu)
theorem wpList_append_run {P : Program} (w : World) {ops : Array Oper} {rest : List Oper} {o : Oper} {a : Act} {Q : Exit -> Act -> World -> Prop} (hgd : o.guard = none) (d s : Operand) (t t' : TypeId)
 (ho : o.op = .call { callee := .builtin .append, args := #[d, s], argTypes := #[t, t'] }) (v u : Value) (hd : a.eval d = v) (hs : a.eval s = u) {v' : Value} {w' : World}
 (hr : (Builtin.append_ #[t, t'] o.type #[v, u]).run P w = .ok v' w') (h : wpList P ops Q rest (a.put o.dst v') w') : wpList P ops Q (o :: rest) a w :=
 wpList_plain hgd λ K hK => by
  unfold Oper.wp execOp
  simp only [ho, resolve, invoke, builtin, Sem.run_bind, Sem.run_pure, Result.andThen_ok, List.map_toArray, List.map_cons, List.map_nil, hd, hs, hr]
  exact hK _ _ h
def grow1 (row : List Value) (i : Nat) (x : Value) : List Value := row.take i ++ [x] ++ row.drop (i + [x].length)
def grow2 (row xs : List Value) (i : Nat) (x : Value) : List Value := (grow1 row i x).take (i + 1) ++ xs.drop i ++ (grow1 row i x).drop (i + 1 + (xs.drop i).length)
theorem grow1_length (row : List Value) (i : Nat) (x : Value) (h : i < row.length) : (grow1 row i x).length = row.length := by
 simp [grow1]; omega
theorem grow2_length (row xs : List Value) (i : Nat) (x : Value) (hi : i < xs.length) (h : xs.length + 1 <= row.length) : (grow2 row xs i x).length = row.length := by
 have := grow1_length row i x (by omega)
 simp [grow2, this]; omega
theorem grow2_take (row xs : List Value) (i : Nat) (x : Value) (hi : i < xs.length) (ht : row.take i = xs.take i) : (grow2 row xs i x).take (xs.length + 1) = insAt xs i x := by
 have h1 : (grow1 row i x).take (i + 1) = xs.take i ++ [x] := by
  rw [grow1, ht, List.append_assoc, List.take_append, List.take_of_length_le (by simp; omega), show i + 1 - (xs.take i).length = 1 by simp; omega]
  simp
 have h2 : grow2 row xs i x = insAt xs i x ++ (grow1 row i x).drop (i + 1 + (xs.drop i).length) := by
  rw [grow2, h1, insAt]; simp
 have h3 := insAt_length xs i x (by omega)
 rw [h2, List.take_append, h3, List.take_of_length_le (by omega)]
 simp
set_option maxHeartbeats 1000000 in
theorem insert_grow (base g cap : Nat) (cur : Array Value) (xs : List Value) (i : Nat) (x : Value) (vb : Nat) (w : World) (hx1 : x.oneCell' = true) (h1 : ∀ u ∈ xs, u.oneCell' = true) (hbase : base <= w.heap.size) (hcur : w.heap[g]? = some (.cells cur 34 (0, 0)))
 (hsz : cap <= cur.size) (htk : cur.toList.take xs.length = xs) (hvb : w.heap[vb]? = some (.cells #[x] 34 (0, 0)))
 (hmax : xs.length <= 1000000000) (hi : i < xs.length) (hcapn : xs.length <= cap) (hroom : cap < xs.length + 1) :
 Calls Try.prog 107 #[.slice (some ⟨g, 0, none⟩) xs.length cap, .int .i64 i, .slice (some ⟨vb, 0, none⟩) 1 1] w (Inserted base (.slice (some ⟨g, 0, none⟩) xs.length cap) xs i x w) := by
 obtain ⟨i0, hi0, hz0, hzs, hzb⟩ := info_parts info_u64
 have hgw : g < w.heap.size := by
  rcases Nat.lt_or_ge g w.heap.size with hlt | hge
  . exact hlt
  . rw [Array.getElem?_eq_none hge] at hcur; cases hcur
 have hvw : vb < w.heap.size := by
  rcases Nat.lt_or_ge vb w.heap.size with hlt | hge
  . exact hlt
  . rw [Array.getElem?_eq_none hge] at hvb; cases hvb
 have hcell : ∀ j v, xs[j]? = some v -> w.cell? ⟨g, j, none⟩ = some v := λ j v hj => by
  rw [<- htk, List.getElem?_take] at hj
  split at hj
  . simpa [World.cell?, hcur] using hj
  . cases hj
 have hold : (Builtin.firstCells i0.size i (.slice (some ⟨g, 0, none⟩) i cap)).run Try.prog w.drew = .ok (xs.take i).toArray w.drew := by
  rw [hzs]
  exact run_firstCells_some w.drew 1 i ⟨g, 0, none⟩ i cap (xs.take i) (by rw [List.length_take]; omega) (λ j v hj => by
   rw [Addr.add_lit, Nat.zero_add]
   rw [List.getElem?_take] at hj
   split at hj
   . exact hcell j v hj
   . cases hj)
 have hk2 : i + (xs.length + 1 - i) = xs.length + 1 := by omega
 obtain ⟨G, hG⟩ : ∃ G, G = grownCap w (xs.length + 1) cap 34 := ⟨_, rfl⟩
 obtain ⟨row, hrow⟩ : ∃ row : List Value, row = ((xs.take i).toArray ++ Builtin.zeroCells (Value.int .u64 0).cells (xs.length + 1 - i) ++ Builtin.zeroCells (Value.int .u64 0).cells (G - (xs.length + 1))).toList := ⟨_, rfl⟩
 have hrz : ∀ ty, (Builtin.append_ #[52, 3] ty #[.slice (some ⟨g, 0, none⟩) i cap, .int .i64 ((xs.length : Int) + 1 - (i : Int))]).run Try.prog w =
  .ok (.slice (some ⟨w.heap.size, 0, none⟩) (xs.length + 1) G) (w.drew.alloc (.cells row.toArray 34)) := λ ty => by
  have h := Lib.run_append_grow_zeros w 52 3 ty 34 i0 _ .i64 .i64 Try.underlying52 Try.underlying3 hi0 hz0 (some ⟨g, 0, none⟩) i cap (xs.take i) hold (xs.length + 1 - i) (by omega) (by omega) (by omega) (by omega) (by rw [hzb]; omega) (by rw [hzb, hk2]; exact growslice_fits hroom (by omega))
  rw [hk2] at h
  rw [show (xs.length : Int) + 1 - (i : Int) = ((xs.length + 1 - i : Nat) : Int) by omega, h, hrow, hG]
 have hGn : xs.length + 1 <= G := by rw [hG]; exact grownCap_ge w _ _ _
 have hG63 : G <= 9223372036854775807 := by
  have := grownCap_le_maxLen w (xs.length + 1) cap 34 (by unfold maxLen; omega)
  rw [<- hG] at this
  unfold maxLen at this
  exact this
 have hrl : row.length = G := by
  rw [hrow]
  simp [Builtin.zeroCells, Value.cells]
  omega
 have hrt : row.take i = xs.take i := by
  rw [hrow]
  simp only [Array.toList_append, List.append_assoc]
  rw [List.take_append, List.take_of_length_le (by simp; omega), show i - (xs.take i).length = 0 by simp; omega]
  simp
 have hg1 := grow1_length row i x (by omega)
 have hg2 := grow2_length row xs i x hi (by omega)
 have hgt := grow2_take row xs i x hi hrt
 clear hrow hrt hold hk2 hG
 obtain ⟨W1, hW1⟩ : ∃ W1, W1 = w.drew.alloc (.cells row.toArray 34) := ⟨_, rfl⟩
 rw [<- hW1] at hrz
 have hW1g : W1.heap[w.heap.size]? = some (.cells row.toArray 34 (0, 0)) := by rw [hW1]; exact heap_alloc_new w.drew _
 have hW1o : ∀ k, k < w.heap.size -> W1.heap[k]? = w.heap[k]? := λ k hk => by rw [hW1]; exact Below.heap_alloc w.drew _ k hk
 obtain ⟨W2, hW2⟩ : ∃ W2, W2 = W1.setRow w.heap.size (grow1 row i x).toArray := ⟨_, rfl⟩
 have hW2g : W2.heap[w.heap.size]? = some (.cells (grow1 row i x).toArray 34 (0, 0)) := by rw [hW2]; exact setRow_heap W1 _ _ _ _ _ hW1g
 have hW2o : ∀ k, k < w.heap.size -> W2.heap[k]? = w.heap[k]? := λ k hk => by rw [hW2, setRow_other W1 _ k _ (by omega)]; exact hW1o k hk
 have hcpA : ∀ ty dc, (Builtin.copy_ #[52, 52] ty #[.slice (some ⟨w.heap.size, i, none⟩) (xs.length + 1 - i) dc, .slice (some ⟨vb, 0, none⟩) 1 1]).run Try.prog W1 = .ok (goInt ([x] : List Value).length) W2 := λ ty dc => by
  rw [hW2]
  refine run_copy_row Try.prog W1 _ _ ty 34 w.heap.size i _ dc ⟨vb, 0, none⟩ _ 1 row.toArray 34 [x] Try.underlying52 size_u64 hW1g (by simp only [List.length_cons, List.length_nil, Nat.min_def]; split <;> omega) ?_ (by simp; omega) (by simpa using hx1)
  intro j v hj
  cases j with
  | zero =>
    simp at hj; subst hj
    rw [Addr.add_lit]
    simp [World.cell?, hW1o vb hvw, hvb]
  | succ j => simp at hj
 obtain ⟨W3, hW3⟩ : ∃ W3, W3 = W2.drew.setRow w.heap.size (grow2 row xs i x).toArray := ⟨_, rfl⟩
 have hcpB : ∀ ty dc sc, (Builtin.copy_ #[52, 52] ty #[.slice (some ⟨w.heap.size, i + 1, none⟩) (xs.length - i) dc, .slice (some ⟨g, i, none⟩) (xs.length - i) sc]).run Try.prog W2.drew = .ok (goInt (xs.drop i).length) W3 := λ ty dc sc => by
  rw [hW3]
  refine run_copy_row Try.prog W2.drew _ _ ty 34 w.heap.size (i + 1) _ dc ⟨g, i, none⟩ _ sc (grow1 row i x).toArray 34 (xs.drop i) Try.underlying52 size_u64 hW2g (by rw [List.length_drop]; simp only [Nat.min_def]; split <;> omega) ?_ (by rw [List.length_drop]; simp [hg1]; omega) (oneCell_sub h1 (λ u hu => List.mem_of_mem_drop hu))
  intro j v hj
  rw [List.getElem?_drop] at hj
  rw [Addr.add_lit, World.cell?_drew, World.cell?_of_block (w := w) (hW2o g hgw)]
  exact hcell _ v hj
 have hfin : Inserted base (.slice (some ⟨g, 0, none⟩) xs.length cap) xs i x w (.returned (.slice (some ⟨w.heap.size, 0, none⟩) (xs.length + 1) G)) W3 := by
  refine ⟨_, rfl, ⟨by rw [insAt_length _ _ _ (by omega)]; omega, .inr ⟨w.heap.size, G, (grow2 row xs i x).toArray, rfl, hbase, ?_, hGn, by unfold maxLen; exact hG63, by simp [hg2]; omega, by simpa using hgt⟩⟩, ?_, .inr ⟨_, rfl, Nat.le_refl _⟩⟩
  . rw [hW3]; exact setRow_heap W2.drew _ _ _ _ _ hW2g
  . refine ⟨by rw [hW3, hW2, hW1]; rfl, by rw [hW3, hW2, hW1]; rfl, by rw [hW3, hW2, hW1]; rfl, by rw [hW3, hW2, hW1]; simp [World.setRow], λ k hk _ => ?_⟩
    rw [hW3, setRow_other W2.drew _ k _ (by omega)]
    exact hW2o k hk
 have hlen : (xs.drop i).length = xs.length - i := List.length_drop
 generalize hn : xs.length = n at *
 clear hW1 hW2 hW3 hW1g hW2g hW1o hW2o hg1 hg2 hgt htk hvb hsz hcell hcur hrl
 have HN := Lib.hid hn
 clear hn
 have hz2 : ¬ ((i : Int) = (n : Int)) := by omega
 have hz3 : (cap : Int) < (n : Int) + 1 := by omega
 have hb4 : ¬ (cap = i) := by omega
 have hb6 : ¬ (G = i) := by omega
 have hb7 : ¬ (G = i + 1) := by omega
 go_enter Try.func107, Try.ntmps107
 go_wp2_with (first
  | (at_builtin; refine wpList_append_run _ rfl (.tmp 34) (.tmp 39) 52 3 rfl _ _ rfl rfl (hrz _) ?_)
  | (at_builtin; refine wpList_copy_run _ rfl (.tmp 43) (.tmp 44) 52 52 rfl _ _ rfl rfl (hcpA _ _) ?_))
 have hw1 : IntKind.i64.wrap ((i : Int) + 1) = (i : Int) + 1 := by rw [IntKind.wrap_i64]; omega
 have hb1 : (0 : Int) <= (i : Int) + 1 := by omega
 have hb5 : (i : Int) + 1 <= (n : Int) + 1 := by omega
 have hb3 : (i : Int) <= (n : Int) := by omega
 have htn : ((i : Int) + 1).toNat = i + 1 := by omega
 go_region_law (refine step_copy_run rfl (.tmp 50) (.tmp 53) 52 52 rfl _ _ (by simp [Act.eval, Act.put]) (by simp [Act.eval, Act.put]) (hcpB _ _ _) ?_)
 go_wp2
 go_ret
 exact hfin
theorem step_append_run {P : Program} {ops : Array Oper} {o : Oper} {a : Act} {w : World} {K : Act -> World -> Prop} {Q : Exit -> Act -> World -> Prop} {E : Prop}
 (hg : o.guard = none) (d x : Operand) (dT sT : TypeId) (hop : o.op = Op.call { callee := Callee.builtin Builtin.append, args := #[d, x], argTypes := #[dT, sT] })
 (v u : Value) (hd : a.eval d = v) (hx : a.eval x = u) {v' : Value} {w' : World} (hr : (Builtin.append_ #[dT, sT] o.type #[v, u]).run P w = .ok v' w') (hK : K (a.put o.dst v') w') :
 if Region.wanted o (yielded ops a.tmps) = true then Oper.wp P o a w K Q else E := by
 have hw : Region.wanted o (yielded ops a.tmps) = true := by simp [Region.wanted, hg]
 rw [if_pos hw]
 unfold Oper.wp
 simp [execOp, hop, resolve, invoke, builtin, hd, hx, hr, Result.andThen]
 exact hK
def del1 (cur xs : List Value) (i : Nat) : List Value := cur.take i ++ xs.drop (i + 1) ++ cur.drop (i + (xs.drop (i + 1)).length)
theorem del1_length (cur xs : List Value) (i : Nat) (hi : i < xs.length) (hc : xs.length <= cur.length) : (del1 cur xs i).length = cur.length := by
 simp [del1]; omega
theorem del1_take (cur xs : List Value) (i : Nat) (hi : i < xs.length) (ht : cur.take xs.length = xs) : (del1 cur xs i).take (xs.length - 1) = xs.eraseIdx i := by
 have h1 : cur.take i = xs.take i := by rw [<- ht, List.take_take, Nat.min_eq_left (by omega)]
 rw [del1, h1, List.eraseIdx_eq_take_drop_succ, List.take_append, List.take_of_length_le (by simp; omega)]
 simp; omega
def InsB (v : Value) (xs : List Value) (i : Nat) (x : Value) (w : World) (e : Ending) (w' : World) : Prop :=
 ∃ g cap cur, e = .returned (.slice (some ⟨g, 0, none⟩) (xs.length + 1) cap) /\ w'.heap[g]? = some (.cells cur 34 (0, 0)) /\ xs.length + 1 <= cap /\ cap <= cur.size /\ cur.toList.take (xs.length + 1) = insAt xs i x /\ Kp (λ k => v.ownBlock = some k) w w' /\ (v.ownBlock = some g ∨ w.heap.size <= g)
def RemB (g cap : Nat) (xs : List Value) (i : Nat) (w : World) (e : Ending) (w' : World) : Prop :=
 ∃ cur, e = .returned (.slice (some ⟨g, 0, none⟩) (xs.length - 1) cap) /\ w'.heap[g]? = some (.cells cur 34 (0, 0)) /\ cap <= cur.size /\ cur.toList.take (xs.length - 1) = xs.eraseIdx i /\ Kp (λ k => k = g) w w'
theorem insB_grow (g cap : Nat) (cur : Array Value) (xs : List Value) (i : Nat) (x : Value) (vb : Nat) (w : World) (hx1 : x.oneCell' = true) (h1 : ∀ u ∈ xs, u.oneCell' = true) (hcur : w.heap[g]? = some (.cells cur 34 (0, 0)))
 (hsz : cap <= cur.size) (htk : cur.toList.take xs.length = xs) (hvb : w.heap[vb]? = some (.cells #[x] 34 (0, 0)))
 (hmax : xs.length <= 1000000000) (hi : i < xs.length) (hcapn : xs.length <= cap) (hroom : cap < xs.length + 1) :
 Calls Try.prog 107 #[.slice (some ⟨g, 0, none⟩) xs.length cap, .int .i64 i, .slice (some ⟨vb, 0, none⟩) 1 1] w (InsB (.slice (some ⟨g, 0, none⟩) xs.length cap) xs i x w) :=
 (insert_grow 0 g cap cur xs i x vb w hx1 h1 (Nat.zero_le _) hcur hsz htk hvb hmax hi hcapn hroom).mono λ e w' ⟨v', he, ho, hk, hb⟩ => by
   rcases ho.2 with ⟨_, h0⟩ | ⟨g', cap', cur', hv, _, hh, hle, _, hs, ht⟩
   . omega
   . subst hv
     refine ⟨g', cap', cur', he, hh, hle, by omega, by simpa using ht, hk, ?_⟩
     rcases hb with hb | ⟨g2, hb, hge⟩
     . exact .inl hb.symm
     . simp only [Value.ownBlock, Ex.sI] at hb
       exact .inr (by omega)
set_option maxHeartbeats 1000000 in
theorem insB_shift (g cap : Nat) (cur : Array Value) (xs : List Value) (i : Nat) (x : Value) (vb : Nat) (w : World) (hx1 : x.oneCell' = true) (h1 : ∀ u ∈ xs, u.oneCell' = true) (hcur : w.heap[g]? = some (.cells cur 34 (0, 0)))
 (hsz : cap <= cur.size) (htk : cur.toList.take xs.length = xs) (hvb : w.heap[vb]? = some (.cells #[x] 34 (0, 0))) (hne : vb ≠ g)
 (hmax : xs.length <= 1000000000) (hi : i < xs.length) (hroom : xs.length + 1 <= cap) :
 Calls Try.prog 107 #[.slice (some ⟨g, 0, none⟩) xs.length cap, .int .i64 i, .slice (some ⟨vb, 0, none⟩) 1 1] w (InsB (.slice (some ⟨g, 0, none⟩) xs.length cap) xs i x w) := by
 have hcl : xs.length + 1 <= cur.toList.length := by simp; omega
 have hl1 := shift1_length cur.toList xs i hi hcl
 have htk2 := shift2_take cur.toList xs i x hi hcl htk
 have hl2 := shift2_length cur.toList xs i x hi hcl
 have hov : ∀ o lb cb, (callFunc 116 #[.slice (some ⟨vb, 0, none⟩) 1 1, .slice (some ⟨g, o, none⟩) lb cb]).run Try.prog w = .ok (.value (.bool false)) w := λ o lb cb =>
  overlaps_apart vb g o lb cb w hne x cur hcur hvb (by omega)
 obtain ⟨W1, hW1⟩ : ∃ W1, W1 = w.drew.setRow g (shift1 cur.toList xs i).toArray := ⟨_, rfl⟩
 have hW1g : W1.heap[g]? = some (.cells (shift1 cur.toList xs i).toArray 34 (0, 0)) := by rw [hW1]; exact setRow_heap w.drew g cur _ _ _ hcur
 have hcp1 : ∀ ty dc sc, (Builtin.copy_ #[52, 52] ty #[.slice (some ⟨g, i + 1, none⟩) (xs.length - i) dc, .slice (some ⟨g, i, none⟩) (xs.length + 1 - i) sc]).run Try.prog w.drew = .ok (goInt (xs.drop i).length) W1 := λ ty dc sc => by
  rw [hW1]
  refine run_copy_row Try.prog w.drew _ _ ty 34 g (i + 1) _ dc ⟨g, i, none⟩ _ sc cur 34 (xs.drop i) Try.underlying52 size_u64 hcur (by rw [List.length_drop]; simp only [Nat.min_def]; split <;> omega) ?_ (by rw [List.length_drop]; omega) (oneCell_sub h1 (λ u hu => List.mem_of_mem_drop hu))
  intro j v hj
  rw [List.getElem?_drop, <- htk, List.getElem?_take] at hj
  split at hj
  . rw [Addr.add_lit, World.cell?_drew]
    simpa [World.cell?, hcur] using hj
  . cases hj
 obtain ⟨W2, hW2⟩ : ∃ W2, W2 = W1.setRow g (shift2 cur.toList xs i x).toArray := ⟨_, rfl⟩
 have hcp2 : ∀ ty dc, (Builtin.copy_ #[52, 52] ty #[.slice (some ⟨g, i, none⟩) (xs.length + 1 - i) dc, .slice (some ⟨vb, 0, none⟩) 1 1]).run Try.prog W1 = .ok (goInt ([x] : List Value).length) W2 := λ ty dc => by
  rw [hW2]
  refine run_copy_row Try.prog W1 _ _ ty 34 g i _ dc ⟨vb, 0, none⟩ _ 1 (shift1 cur.toList xs i).toArray 34 [x] Try.underlying52 size_u64 hW1g (by simp only [List.length_cons, List.length_nil, Nat.min_def]; split <;> omega) ?_ (by simp [hl1]; omega) (by simpa using hx1)
  intro j v hj
  cases j with
  | zero =>
    simp at hj; subst hj
    rw [Addr.add_lit, hW1]
    have : (w.drew.setRow g (shift1 cur.toList xs i).toArray).heap[vb]? = w.heap[vb]? := setRow_other w.drew g vb _ hne
    simp [World.cell?, this, hvb]
  | succ j => simp at hj
 have hfin : InsB (.slice (some ⟨g, 0, none⟩) xs.length cap) xs i x w (.returned (.slice (some ⟨g, 0, none⟩) (xs.length + 1) cap)) W2 := by
  refine ⟨g, cap, (shift2 cur.toList xs i x).toArray, rfl, ?_, hroom, by simp [hl2]; omega, by simpa using htk2, ?_, .inl rfl⟩
  . rw [hW2]; exact setRow_heap W1 g _ _ _ _ hW1g
  . rw [hW2, hW1]
    exact ((kp_setRow w.drew g _).drewl.trans (kp_setRow _ g _) (λ _ _ h => h)).weaken (λ k h => by rw [h]; rfl)
 have hlen : (xs.drop i).length = xs.length - i := List.length_drop
 generalize hn : xs.length = n at *
 clear hW1 hW2 hW1g hl1 hl2 htk htk2 hcl hvb hsz
 have HN := Lib.hid hn
 clear hn
 have hz2 : ¬ ((i : Int) = (n : Int)) := by omega
 have hb2 : ¬ (cap = i + 1) := by omega
 have hb4 : ¬ (cap = i) := by omega
 go_enter Try.func107, Try.ntmps107
 go_wp2_with (simp only [hov])
 have hw1 : IntKind.i64.wrap ((i : Int) + 1) = (i : Int) + 1 := by rw [IntKind.wrap_i64]; omega
 have hb1 : (0 : Int) <= (i : Int) + 1 := by omega
 have hb5 : (i : Int) + 1 <= (n : Int) + 1 := by omega
 have hb3 : (i : Int) <= (n : Int) + 1 := by omega
 have htn : ((i : Int) + 1).toNat = i + 1 := by omega
 go_region_law (refine step_copy_run rfl (.tmp 73) (.tmp 76) 52 52 rfl _ _ (by simp [Act.eval, Act.put]) (by simp [Act.eval, Act.put]) (hcp1 _ _ _) ?_)
 go_wp2_with (at_builtin; go_loud (refine wpList_copy_run _ rfl (.tmp 80) (.tmp 81) 52 52 rfl _ _ rfl rfl (hcp2 _ _) ?_))
 go_ret
 exact hfin
theorem ins_end (S : Option Addr) (n cap vb : Nat) (w : World) (hn : n <= 1000000000) (hS : S = none -> cap = 0) (hnc : n <= cap) {v' : Value} {w' : World}
 (hr : ∀ ty, (Builtin.append_ #[52, 52] ty #[.slice S n cap, .slice (some ⟨vb, 0, none⟩) 1 1]).run Try.prog w = .ok v' w') :
 Calls Try.prog 107 #[.slice S n cap, .int .i64 n, .slice (some ⟨vb, 0, none⟩) 1 1] w λ e w2 => e = .returned v' /\ w2 = w' := by
 go_enter Try.func107, Try.ntmps107
 by_cases hcn : cap = n
 . obtain rfl : n = cap := hcn.symm
   go_wp2_with (at_builtin; refine wpList_append_run _ rfl (.tmp 23) (.tmp 24) 52 52 rfl _ _ rfl rfl (hr _) ?_)
   go_ret
   exact ⟨rfl, rfl⟩
 . go_wp2_with (at_builtin; refine wpList_append_run _ rfl (.tmp 23) (.tmp 24) 52 52 rfl _ _ rfl rfl (hr _) ?_)
   go_ret
   exact ⟨rfl, rfl⟩
theorem insB_endG (S : Option Addr) (cap : Nat) (xs : List Value) (x : Value) (vb : Nat) (w : World) (hx1 : x.oneCell' = true) (hS : S = none -> cap = 0) (hvb : w.heap[vb]? = some (.cells #[x] 34 (0, 0))) (hmax : xs.length <= 1000000000) (hcapn : xs.length <= cap)
 (hroom : cap < xs.length + 1) (hold : (Builtin.firstCells 1 xs.length (.slice S xs.length cap)).run Try.prog w.drew = .ok xs.toArray w.drew) :
 Calls Try.prog 107 #[.slice S xs.length cap, .int .i64 xs.length, .slice (some ⟨vb, 0, none⟩) 1 1] w (InsB (.slice S xs.length cap) xs xs.length x w) := by
 obtain ⟨i0, hi, hz0, hz1, hz2⟩ := info_parts info_u64
 have hnews : ∀ j u, ([x] : List Value)[j]? = some u -> w.cell? ((⟨vb, 0, none⟩ : Addr).add j) = some u := λ j u hj => by
  rw [Addr.add_lit]
  cases j with
  | zero => simp at hj; subst hj; simp [World.cell?, hvb]
  | succ j => simp at hj
 have hins : insAt xs xs.length x = xs ++ [x] := by simp [insAt]
 have hsrc : Src Try.prog i0.size 52 (.slice (some ⟨vb, 0, none⟩) 1 1) 1 [x] w := Src.ofSlice w Try.underlying52 ⟨vb, 0, none⟩ 1 1 [x] (by rw [hz1]; rfl) hnews (by simpa using hx1)
 have hns := nextslicecap_le (need := xs.length + 1) (old := cap) hroom
 have hfit : Builtin.nextslicecap (xs.length + 1) cap * i0.bytes <= 281474976710656 := by rw [hz2]; omega
 have hrun := λ ty => run_append_grow_src (P := Try.prog) w 52 52 ty 34 i0 (.int .u64 0) Try.underlying52 hi hz0 S xs.length cap xs (by rw [hz1]; exact hold) (.slice (some ⟨vb, 0, none⟩) 1 1) 1 [x] hsrc hroom (by omega) hfit
 obtain ⟨G, hG⟩ : ∃ G, G = grownCap w (xs.length + 1) cap 34 := ⟨_, rfl⟩
 have hGn : xs.length + 1 <= G := by rw [hG]; exact grownCap_ge w _ _ _
 rw [<- hG] at hrun
 refine (ins_end _ _ _ vb w hmax hS hcapn hrun).mono λ e w' ⟨he, hw⟩ => ?_
 subst hw
 refine ⟨w.heap.size, G, _, he, heap_alloc_new w.drew _, hGn, ?_, ?_, ?_, .inr (Nat.le_refl _)⟩
 . simp [Builtin.zeroCells, Value.cells]; omega
 . rw [hins]; simp [List.take_append, List.take_of_length_le]
 . exact ⟨rfl, rfl, rfl, by show w.heap.size <= (w.drew.heap.push _).size; rw [Array.size_push]; exact Nat.le_succ _, λ k hk _ => Below.heap_alloc w.drew _ k hk⟩
theorem insB_end (g cap : Nat) (cur : Array Value) (xs : List Value) (x : Value) (vb : Nat) (w : World) (hx1 : x.oneCell' = true) (hcur : w.heap[g]? = some (.cells cur 34 (0, 0)))
 (hsz : cap <= cur.size) (htk : cur.toList.take xs.length = xs) (hvb : w.heap[vb]? = some (.cells #[x] 34 (0, 0))) (hmax : xs.length <= 1000000000) (hcapn : xs.length <= cap) :
 Calls Try.prog 107 #[.slice (some ⟨g, 0, none⟩) xs.length cap, .int .i64 xs.length, .slice (some ⟨vb, 0, none⟩) 1 1] w (InsB (.slice (some ⟨g, 0, none⟩) xs.length cap) xs xs.length x w) := by
 obtain ⟨i0, hi, hz0, hz1, hz2⟩ := info_parts info_u64
 have hnews : ∀ j u, ([x] : List Value)[j]? = some u -> w.cell? ((⟨vb, 0, none⟩ : Addr).add j) = some u := λ j u hj => by
  rw [Addr.add_lit]
  cases j with
  | zero => simp at hj; subst hj; simp [World.cell?, hvb]
  | succ j => simp at hj
 have hins : insAt xs xs.length x = xs ++ [x] := by simp [insAt]
 by_cases hroom : xs.length + 1 <= cap
 . have hrun : ∀ ty, (Builtin.append_ #[52, 52] ty #[.slice (some ⟨g, 0, none⟩) xs.length cap, .slice (some ⟨vb, 0, none⟩) 1 1]).run Try.prog w = .ok (.slice (some ⟨g, 0, none⟩) (xs.length + 1) cap) (w.setRow g (xs ++ [x] ++ cur.toList.drop (xs.length + 1)).toArray) := λ ty => by
    have h := run_append_room (P := Try.prog) w 52 ty 34 i0 Try.underlying52 hi g xs.length cap cur hcur ⟨vb, 0, none⟩ 1 1 [x] (by rw [hz1]; rfl) hnews (by simpa using hx1) hroom (by rw [hz1]; simp; omega)
    rw [h, hz1, Nat.mul_one, htk]; rfl
   refine (ins_end _ _ _ vb w hmax (λ e => by cases e) hcapn hrun).mono λ e w' ⟨he, hw⟩ => ?_
   subst hw
   refine ⟨g, cap, _, he, setRow_heap w g _ _ _ _ hcur, hroom, ?_, ?_, ?_, .inl rfl⟩
   . simp; omega
   . rw [hins]; simp [List.take_append, List.take_of_length_le]
   . exact (kp_setRow w g _).weaken (λ k h => by rw [h]; rfl)
 . have hold : (Builtin.firstCells i0.size xs.length (.slice (some ⟨g, 0, none⟩) xs.length cap)).run Try.prog w.drew = .ok xs.toArray w.drew := by
    rw [hz1]
    refine run_firstCells_some w.drew 1 xs.length ⟨g, 0, none⟩ xs.length cap xs (by omega) (λ j v hj => ?_)
    rw [Addr.add_lit, Nat.zero_add, World.cell?_drew]
    rw [<- htk, List.getElem?_take] at hj
    split at hj
    . simpa [World.cell?, hcur] using hj
    . cases hj
   exact insB_endG _ cap xs x vb w hx1 (λ e => by cases e) hvb hmax hcapn (by omega) (by rw [hz1] at hold; exact hold)
set_option maxHeartbeats 1000000 in
theorem remB_one (g cap : Nat) (cur : Array Value) (xs : List Value) (i : Nat) (w : World) (h1 : ∀ u ∈ xs, u.oneCell' = true) (hcur : w.heap[g]? = some (.cells cur 34 (0, 0)))
 (hsz : cap <= cur.size) (htk : cur.toList.take xs.length = xs) (hc1 : xs.length <= cap) (hmax : xs.length <= 1000000000) (hi : i < xs.length) :
 Calls Try.prog 118 #[.slice (some ⟨g, 0, none⟩) xs.length cap, .int .i64 i, .int .i64 ((i : Int) + 1)] w (RemB g cap xs i w) := by
 obtain ⟨i0, hi0, hz0, hzs, hzb⟩ := info_parts info_u64
 have hl1 := del1_length cur.toList xs i hi (by simp; omega)
 have ht1 := del1_take cur.toList xs i hi htk
 have hcell : ∀ j v, xs[j]? = some v -> w.cell? ⟨g, j, none⟩ = some v := λ j v hj => by
  rw [<- htk, List.getElem?_take] at hj
  split at hj
  . simpa [World.cell?, hcur] using hj
  . cases hj
 obtain ⟨A, hA, hsrc⟩ : ∃ A : Addr, (if cap = i + 1 then some (⟨g, 0, none⟩ : Addr) else some ⟨g, i + 1, none⟩) = some A /\ (∀ t u, (xs.drop (i + 1))[t]? = some u -> w.drew.cell? (A.add t) = some u) := by
  by_cases h : cap = i + 1
  . refine ⟨⟨g, 0, none⟩, by simp [h], λ t u hu => ?_⟩
    rw [List.getElem?_drop] at hu
    have := (List.getElem?_eq_some_iff.1 hu).1
    omega
  . refine ⟨⟨g, i + 1, none⟩, by simp [h], λ t u hu => ?_⟩
    rw [List.getElem?_drop] at hu
    rw [Addr.add_lit, World.cell?_drew]
    exact hcell _ _ hu
 have hlen : (xs.drop (i + 1)).length = xs.length - (i + 1) := List.length_drop
 obtain ⟨W1, hW1⟩ : ∃ W1, W1 = w.drew.setRow g (del1 cur.toList xs i).toArray := ⟨_, rfl⟩
 have hW1g : W1.heap[g]? = some (.cells (del1 cur.toList xs i).toArray 34 (0, 0)) := by rw [hW1]; exact setRow_heap w.drew g cur _ _ _ hcur
 have hap : ∀ ty sc, (Builtin.append_ #[52, 52] ty #[.slice (some ⟨g, 0, none⟩) i cap, .slice (some A) (xs.length - (i + 1)) sc]).run Try.prog w.drew = .ok (.slice (some ⟨g, 0, none⟩) (i + (xs.length - (i + 1))) cap) W1 := λ ty sc => by
  have h := run_append_room (P := Try.prog) w.drew 52 ty 34 i0 Try.underlying52 hi0 g i cap cur hcur A (xs.length - (i + 1)) sc (xs.drop (i + 1)) (by rw [hzs]; omega) hsrc (oneCell_sub h1 (λ u hu => List.mem_of_mem_drop hu)) (by omega) (by rw [hzs]; omega)
  rw [h, hzs, Nat.mul_one, hW1]; rfl
 have hcl : ∀ ty, (Builtin.clear_ #[52] ty #[.slice (some ⟨g, i + (xs.length - (i + 1)), none⟩) (xs.length - (i + (xs.length - (i + 1)))) (cap - (i + (xs.length - (i + 1))))]).run Try.prog W1 = .ok (.tuple #[]) (W1.setCells g (i + (xs.length - (i + 1))) (List.replicate (xs.length - (i + (xs.length - (i + 1)))) (.int .u64 0))) := λ ty =>
  Lib.run_clear_slice W1 _ _ ty _ Try.underlying52 (λ w => by kernel_rfl) rfl rfl g _ _ _ (by omega) (λ j hj => by simp [World.cell?, hW1g, hl1]; omega) (λ j hj => by simp [World.frozen?, hW1g])
 obtain ⟨k, hk⟩ : ∃ k, k = i + (xs.length - (i + 1)) := ⟨_, rfl⟩
 have hk1 : xs.length - k = 1 := by omega
 have hk2 : k = xs.length - 1 := by omega
 obtain ⟨W2, hW2⟩ : ∃ W2, W2 = W1.setCell ⟨g, k, none⟩ (.int .u64 0) := ⟨_, rfl⟩
 rw [<- hk, hk1] at hcl
 rw [<- hk] at hap
 have hcl' : ∀ ty, (Builtin.clear_ #[52] ty #[.slice (some ⟨g, k, none⟩) 1 (cap - k)]).run Try.prog W1 = .ok (.tuple #[]) W2 := λ ty => by rw [hcl ty, hW2]; rfl
 have hfin : RemB g cap xs i w (.returned (.slice (some ⟨g, 0, none⟩) k cap)) W2 := by
  refine ⟨(del1 cur.toList xs i).toArray.setIfInBounds k (.int .u64 0), by rw [hk2], ?_, by simp [hl1]; omega, ?_, ?_⟩
  . rw [hW2]; exact Joins.block_setCell hW1g _
  . rw [<- ht1, <- hk2]
    simp [List.take_set_of_le]
  . refine ⟨by rw [hW2, hW1]; rfl, by rw [hW2, hW1]; rfl, by rw [hW2, hW1]; rfl, by rw [hW2, hW1]; simp [World.setRow], λ j hj hjg => ?_⟩
    have hjg : j ≠ g := hjg
    rw [hW2, Below.heap_setCell _ _ _ _ hjg, hW1]
    exact setRow_other w.drew g j _ hjg
 clear hcl hW1 hW2 hW1g hl1 ht1 hsz htk hcell hcur
 generalize hn : xs.length = n at *
 have HS := Lib.hid hsrc
 have HK := Lib.hid hk
 have HN := Lib.hid hn
 clear hn hsrc hk hk2 h1 hlen
 have hne : ¬ ((i : Int) = (i : Int) + 1) := by omega
 go_enter Try.func118, Try.ntmps118
 go_wp2_with fail
 have hw1 : IntKind.i64.wrap ((i : Int) + 1) = (i : Int) + 1 := by rw [IntKind.wrap_i64]; omega
 have hb1 : (0 : Int) <= (i : Int) + 1 := by omega
 have hb5 : (i : Int) + 1 <= (n : Int) := by omega
 have htn : ((i : Int) + 1).toNat = i + 1 := by omega
 have hic : i <= cap := by omega
 go_region_law (refine step_append_run rfl (.tmp 22) (.tmp 25) 52 52 rfl (.slice (some ⟨g, 0, none⟩) i cap) (.slice (some A) (n - (i + 1)) (cap - (i + 1))) (by simp [Act.eval, Act.put]) (by simp [Act.eval, Act.put]) (hap _ (cap - (i + 1))) ?_)
 go_wp2
 go_ret
 exact hfin
end Go.Proofs.Ytknfdbilpfblnaa
namespace Go.Proofs.Ytknfdbilpfblnaa.Ex
open Go Go.RowKit
theorem turn_ok {M : Mp} {h h1 h' : AH} {w w' : World} {id : Nat} {old ao : AO} {ob : Obj} {κ d : Nat} {S : Nat -> Prop} (r : Rel M h w) (hg0 : h.get id = some old) (hro0 : old.ro = false)
 (hS : ∀ k, S k -> ∃ κ0, M id = some (k, κ0)) (hp : h.put id none = some h1) (hn : h1.new ao = some h') (hM : M h1.nx = none) (ho : ObR (updM M h1.nx (d, κ)) κ ao ob) (hd : S d ∨ w.heap.size <= d) (hat : w'.heap[d]? = some ob)
 (hos : w'.os = w.os) (htp : w'.tape = w.tape) (hout : w'.output = w.output) (hsz : w.heap.size <= w'.heap.size) (hsame : ∀ b, b < w.heap.size -> ¬ S b -> w'.heap[b]? = w.heap[b]?) :
 Rel (updM M h1.nx (d, κ)) h' w' /\ Fr h h' M (updM M h1.nx (d, κ)) w w' /\ Ab h h' := by
 have hle : Le M (updM M h1.nx (d, κ)) := Le_updM hM
 obtain ⟨hnx1, _, _⟩ := AH.put_nx hp
 obtain ⟨hnx2, _, _⟩ := AH.new_nx hn
 have hg : ∀ q, h'.get q = if q = h1.nx then some ao else if q = id then none else h.get q := λ q => by rw [AH.get_new hn, AH.get_put hp]
 have hidlt : id < h.nx := r.wf id (by rw [hg0]; simp)
 have hother : ∀ q o, q ≠ h1.nx -> updM M h1.nx (d, κ) q = some o -> M q = some o := λ q o hne e => by simpa [updM, hne] using e
 have apart : ∀ q b κ1, S b -> h.get q ≠ none -> q ≠ id -> M q = some (b, κ1) -> False := λ q b κ1 hs hq hne e => by
  obtain ⟨κ0, e0⟩ := hS b hs
  exact hne (r.inj id q b κ0 κ1 old hg0 hro0 hq e0 e).symm
 refine ⟨⟨λ q o e => ?_, λ i j b κ1 κ2 oi h0 hro h2 e1 e2 => ?_, λ x hx => ?_, λ g c hgl => ?_, λ x b κ' o hx hro hM' => ?_, fz_kept (M := M) r (λ b hb hz => hsame b hb (λ hs => ?_)), λ i b κ' o e1 hro e2 => ?_⟩, ⟨hos, htp, hout, hsz, hle, λ q e => ?_, λ k hk hno => hsame k hk (λ hs => ?_), λ q b κ' o' e1 e2 => ?_, λ _ _ e => .inl e⟩, (del_ab hp).trans (new_ab hn)⟩
 . rw [hg] at e
   split at e
   . rename_i hid
     simp only [sI] at e; subst e
     exact .inr ⟨d, κ, ob, by simp [updM, hid], hat, ho⟩
   . rename_i hid
     split at e
     . cases e
     . rename_i hne
       rcases r.obj q o e with ⟨hv, q1⟩ | ⟨b, κ', ob', q1, q2, q3⟩
       . exact .inl ⟨hv, by simpa [updM, hid] using q1⟩
       . exact .inr ⟨b, κ', ob', hle _ _ q1, by rw [hsame b (heap_lt q2) (λ hs => apart q b κ' hs (by rw [e]; simp) hne q1)]; exact q2, ObR.mono hle _ _ q3⟩
 . have k1 : h'.get i ≠ none := by simp [h0]
   rw [hg] at h0 k1 h2
   by_cases hi : i = h1.nx <;> by_cases hj : j = h1.nx
   . omega
   . have e2' := hother j _ hj e2
     have hji : j ≠ id := λ e => h2 (by rw [if_neg hj, if_pos e])
     have hjg : h.get j ≠ none := by simpa [hj, hji] using h2
     have hbd : d = b := by simp [updM, hi] at e1; exact e1.1
     subst hbd
     rcases hd with hd | hd
     . exact (apart j d κ2 hd hjg hji e2').elim
     . have := r.lt hjg e2'; omega
   . have e1' := hother i _ hi e1
     have hii : i ≠ id := λ e => k1 (by rw [if_neg hi, if_pos e])
     have hig : h.get i ≠ none := by simpa [hi, hii] using k1
     have hbd : d = b := by simp [updM, hj] at e2; exact e2.1
     subst hbd
     rcases hd with hd | hd
     . exact (apart i d κ1 hd hig hii e1').elim
     . have := r.lt hig e1'; omega
   . have hii : i ≠ id := λ e => k1 (by rw [if_neg hi, if_pos e])
     have hji : j ≠ id := λ e => h2 (by rw [if_neg hj, if_pos e])
     exact r.inj i j b κ1 κ2 oi (by simpa [hi, hii] using h0) hro (by simpa [hj, hji] using h2) (hother i _ hi e1) (hother j _ hj e2)
 . rw [hg] at hx
   by_cases hid : x = h1.nx
   . omega
   . by_cases hxi : x = id
     . omega
     . have := r.wf x (by simpa [hid, hxi] using hx); omega
 . obtain ⟨vs, e, fr, q1, q2⟩ := r.gw g c hgl
   exact ⟨vs, e, fr, by
    rw [hsame g (heap_lt q1) (λ hs => by
     obtain ⟨κ0, e0⟩ := hS g hs
     rw [r.gf id g κ0 old hg0 hro0 e0] at hgl; cases hgl)]
    exact q1, q2⟩
 . rw [hg] at hx
   by_cases hid : x = h1.nx
   . have hbd : d = b := by simp [updM, hid] at hM'; exact hM'.1
     subst hbd
     rcases hd with hd | hd
     . obtain ⟨κ0, e0⟩ := hS d hd
       exact r.gf id d κ0 old hg0 hro0 e0
     . cases hgl : GL d with
       | none => rfl
       | some c =>
         obtain ⟨vs, e, fr, q1, _⟩ := r.gw d c hgl
         have := heap_lt q1; omega
   . by_cases hxi : x = id
     . rw [if_neg hid, if_pos hxi] at hx; cases hx
     . exact r.gf x b κ' o (by simpa [hid, hxi] using hx) hro (hother x _ hid hM')
 . obtain ⟨κ0, e0⟩ := hS b hs
   exact hz (r.fo id b κ0 old hg0 hro0 e0)
 . by_cases hid : i = h1.nx
   . have hbd : d = b := by simp [updM, hid] at e2; exact e2.1
     subst hbd
     rcases hd with hd | hd
     . obtain ⟨κ0, e0⟩ := hS d hd
       exact r.fo id d κ0 old hg0 hro0 e0
     . exact r.fz_none hd
   . rw [hg] at e1
     by_cases hii : i = id
     . rw [if_neg hid, if_pos hii] at e1; cases e1
     . exact r.fo i b κ' o (by simpa [hid, hii] using e1) hro (hother i _ hid e2)
 . by_cases hid : q = h1.nx
   . omega
   . exact absurd (by simp [updM, hid]) e
 . obtain ⟨κ0, e0⟩ := hS k hs
   exact hno id κ0 old hg0 hro0 e0
 . rw [hg] at e1
   by_cases hid : q = h1.nx
   . have hbd : d = b := by simp [updM, hid] at e2; exact e2.1
     subst hbd
     rcases hd with hd | hd
     . obtain ⟨κ0, e0⟩ := hS d hd
       exact .inr ⟨id, κ0, old, hg0, e0, λ _ => hro0⟩
     . exact .inl hd
   . by_cases hqi : q = id
     . rw [if_neg hid, if_pos hqi] at e1; cases e1
     . exact .inr ⟨q, κ', o', by simpa [hid, hqi] using e1, hother q _ hid e2, λ e => e⟩
theorem insAt_get {xs : List Value} {i : Nat} {x : Value} (hi : i <= xs.length) (p : Nat) : (insAt xs i x)[p]? = if p < i then xs[p]? else if p = i then some x else xs[p - 1]? := by
 unfold insAt
 by_cases h1 : p < i
 . rw [if_pos h1, List.getElem?_append_left (by simp; omega), List.getElem?_take, if_pos h1]
 . rw [if_neg h1, List.getElem?_append_right (by simp; omega)]
   have hl : (xs.take i).length = i := by simp; omega
   rw [hl]
   by_cases h2 : p = i
   . subst h2; simp
   . rw [if_neg h2]
     obtain ⟨q, hq⟩ : ∃ q, p - i = q + 1 := ⟨p - i - 1, by omega⟩
     rw [hq, List.getElem?_cons_succ, List.getElem?_drop]
     congr 1; omega
theorem enter_of {f : Nat} {fn : Func} (hf : Try.prog.funcs[f]? = some fn) (hok : okFn fn = true) (hb : fn.body.isSome = true) (us : Array Value) (w : World) : (callFunc f us).run Try.prog w = .ok (.enter f us) w := by
 have hnn : ¬ (fn.name = "runtime.NumGoroutine") := by simpa [okFn] using hok
 cases hbb : fn.body with
 | none => rw [hbb] at hb; cases hb
 | some c => simp [callFunc, hf, hnn, hbb]
theorem row_list {M : Mp} {κ n : Nat} {f : Nat -> Nat -> AV} {cs : Array Value} (hcs : cs.size = κ * 1) (hn : n <= κ) (q : ∀ i, i < n -> ∀ j, j < 1 -> ∃ v, cs[i * 1 + j]? = some v /\ v.oneCell' = true /\ (f i j).R M v) :
 ∃ xs : List Value, xs.length = n /\ cs.toList.take n = xs /\ (∀ u ∈ xs, u.oneCell' = true) /\ ∀ i, i < n -> ∃ v, xs[i]? = some v /\ v.oneCell' = true /\ (f i 0).R M v := by
 have hget : ∀ i, i < n -> ∃ v, (cs.toList.take n)[i]? = some v /\ v.oneCell' = true /\ (f i 0).R M v := λ i hi => by
  obtain ⟨v, h1, h2, h3⟩ := q i hi 0 (by omega)
  exact ⟨v, by rw [List.getElem?_take, if_pos hi, Array.getElem?_toList]; simpa using h1, h2, h3⟩
 refine ⟨_, by simp; omega, rfl, λ u hu => ?_, hget⟩
 obtain ⟨i, hi⟩ := List.mem_iff_getElem?.1 hu
 have hlt : i < n := by have := (List.getElem?_eq_some_iff.1 hi).1; simp at this; omega
 obtain ⟨v, h1, h2, _⟩ := hget i hlt
 rw [h1] at hi
 simp only [sI] at hi
 rw [<- hi]; exact h2
theorem smIns : SmCall Try.prog 107 (λ args h => (insA args h).sel) := by
 intro args h v h' hg
 simp only [insA] at hg
 split at hg
 case h_2 => cases hg
 rename_i nil id z n ix vid
 split at hg
 case h_2 => cases hg
 rename_i k iz hix
 split at hg
 case h_2 => cases hg
 rename_i e z' n' f hgi
 split at hg
 case h_2 => cases hg
 rename_i x e2 hgv
 simp only [Bool.cond_eq_ite] at hg
 split at hg
 case isFalse => cases hg
 rename_i hc
 simp only [Bool.and_eq_true, nbeq, decide_eq_true_eq] at hc
 obtain ⟨⟨⟨⟨⟨hk, rfl⟩, rfl⟩, rfl⟩, rfl⟩, hcx⟩ := hc
 obtain rfl := eqK_eq hk
 obtain ⟨p1, hg⟩ := T.sel_must hg
 obtain ⟨p2, hg⟩ := T.sel_must hg
 obtain ⟨p3, hg⟩ := T.sel_must hg
 split at hg
 case h_2 => cases hg
 rename_i h1 hd
 split at hg
 case h_2 => cases hg
 rename_i h2 hn
 have e3 := T.sel_ret hg
 simp only [Prod.mk.injEq] at e3
 obtain ⟨rfl, rfl⟩ := e3
 obtain rfl : n = n' := of_decide_eq_true p1
 have p3 : n <= 1000000000 := of_decide_eq_true p3
 obtain ⟨p4, p5⟩ := yIn_ok p2
 obtain ⟨i, rfl⟩ : ∃ i : Nat, iz = (i : Int) := ⟨iz.toNat, by omega⟩
 have hi : i <= n := by simp only [yNadd] at p5; omega
 have hyn : yNat (i : Int) = i := rfl
 rw [hyn] at hn
 have hnx1 := (AH.put_nx hd).1
 have hnx2 := (AH.new_nx hn).1
 have hab : Ab h h2 := (del_ab hd).trans (new_ab hn)
 refine ⟨⟨by omega, hab⟩, λ M us w r R ra rr fr k' => ⟨enter_of Try.func107 (by kernel_rfl) (by kernel_rfl) _ _, ?_⟩⟩
 simp only [AV.RL] at ra
 obtain ⟨S, _, rS, ⟨I, _, rI, ⟨V, _, rV, rfl, rfl⟩, rfl⟩, rfl⟩ := ra
 obtain rfl := yI_ok hix rI
 simp only [AV.R] at rV
 obtain ⟨vb, vc, hMv, rfl⟩ := rV
 obtain ⟨ov, hvb, vs, rest, rl, rfl, hrest⟩ := Ob_of rr hgv hMv
 simp only at hrest
 subst hrest
 simp only [AV.RL] at rl
 obtain ⟨X, _, rX, rfl, rfl⟩ := rl
 have hx1 : X.oneCell' = true := isCell_one rX hcx
 have hvb : w.heap[vb]? = some (.cells #[X] 34 (0, 0)) := hvb
 have hfr : M h1.nx = none := fr h1.nx (by omega) (by omega)
 simp only [Bool.false_eq_true, if_false]
 -- what comes of it
 have fin : ∀ (xs : List Value) (S : Nat -> Prop) (e : Ending) (w' : World) (g cap : Nat) (cur : Array Value), xs.length = n -> (∀ p, p < n -> ∃ v, xs[p]? = some v /\ v.oneCell' = true /\ (f p 0).R M v) -> (∀ k, S k -> ∃ κ0, M id = some (k, κ0)) →
  e = .returned (.slice (some ⟨g, 0, none⟩) (n + 1) cap) -> w'.heap[g]? = some (.cells cur 34 (0, 0)) -> n + 1 <= cap -> cap <= cur.size -> cur.toList.take (n + 1) = insAt xs i X -> Kp S w w' -> (S g ∨ w.heap.size <= g) -> R e w' := by
  intro xs S e w' g cap cur hxl hxs hS he hat hle hsz htk hkp hgb
  subst he
  have hle2 : Le M (updM M h1.nx (g, cur.size)) := Le_updM hfr
  obtain ⟨q1, q2, q3⟩ := turn_ok (κ := cur.size) (d := g) (S := S) rr hgi rfl hS hd hn hfr (ob := .cells cur 34 (0, 0)) ⟨cur, rfl, by omega, by simp only [yNadd]; omega, λ p hp j hj => by
   have hp : p < n + 1 := hp
   obtain rfl : j = 0 := by omega
   have hc : cur[p * 1 + 0]? = (insAt xs i X)[p]? := by
    rw [<- htk, List.getElem?_take, if_pos hp, Array.getElem?_toList]; simp
   rw [hc, insAt_get (by omega)]
   by_cases c1 : p < i
   . obtain ⟨v, v1, v2, v3⟩ := hxs p (by omega)
     exact ⟨v, by rw [if_pos c1]; exact v1, v2, selA_ok _ (by rw [show yNlt p i = true from decide_eq_true c1]; exact AV.R.mono hle2 _ _ v3)⟩
   . by_cases c2 : p = i
     . exact ⟨X, by rw [if_neg c1, if_pos c2], hx1, selA_ok _ (by
        rw [show yNlt p i = false from decide_eq_false c1]
        exact selA_ok _ (by rw [show yNeq p i = true from decide_eq_true c2]; exact AV.R.mono hle2 _ _ rX))⟩
     . obtain ⟨v, v1, v2, v3⟩ := hxs (p - 1) (by omega)
       exact ⟨v, by rw [if_neg c1, if_neg c2]; exact v1, v2, selA_ok _ (by
        rw [show yNlt p i = false from decide_eq_false c1]
        exact selA_ok _ (by rw [show yNeq p i = false from decide_eq_false c2]; exact AV.R.mono hle2 _ _ v3))⟩⟩ hgb hat hkp.os hkp.tape hkp.output hkp.size (λ b hb hs => hkp.block b hb hs)
  exact k' _ _ _ (by simp only [AV.R]; exact .inr ⟨trivial, g, cur.size, cap, by simp [updM], by simp [yNadd], by simpa [yNadd] using hle, hsz⟩) q1 q2 q3
 refine (callsIn_wide (n := 0)).2 ?_
 simp only [AV.R] at rS
 rcases rS with ⟨rfl, rfl, rfl⟩ | ⟨rfl, b, κ', κ, hM, rfl, hle, hκκ⟩
 . obtain rfl : i = 0 := by omega
   refine (insB_endG none 0 [] X vb w hx1 (λ _ => rfl) hvb (by simp) (by simp) (by simp) (run_firstCells_none w.drew 1 0 0 0)).mono λ e w' ⟨g, cap, cur, he, hat, hl, hsz, htk, hkp, hgb⟩ => ?_
   exact fin [] _ e w' g cap cur rfl (λ p hp => by omega) (λ k hk => by cases hk) he hat hl hsz htk hkp hgb
 . obtain ⟨ob, hb, cs, rfl, hcs, hnκ, q⟩ := Ob_of rr hgi hM
   obtain ⟨xs, x1, x2, x3, x4⟩ := row_list hcs hnκ q
   have hcs : κ <= cs.size := by omega
   have hS : ∀ k, (Value.slice (some ⟨b, 0, none⟩) n κ).ownBlock = some k -> ∃ κ0, M id = some (k, κ0) := λ k hk => by
    simp only [Value.ownBlock, sI] at hk
    exact ⟨κ', by rw [hM, hk]⟩
   have hne : vb ≠ b := λ e => by
    have := rr.inj id vid b κ' vc _ hgi rfl (by rw [hgv]; simp) hM (by rw [<- e]; exact hMv)
    rw [this, hgv] at hgi; cases hgi
   by_cases hin : i = n
   . subst hin
     have h := insB_end b κ cs xs X vb w hx1 hb hcs (by rw [x1]; exact x2) hvb (by omega) (by omega)
     rw [x1] at h
     refine h.mono λ e w' ⟨g, cap, cur, he, hat, hl, hsz, htk, hkp, hgb⟩ => ?_
     rw [x1] at he hl htk
     exact fin xs _ e w' g cap cur x1 x4 hS he hat hl hsz htk hkp hgb
   . by_cases hroom : n + 1 <= κ
     . have h := insB_shift b κ cs xs i X vb w hx1 x3 hb hcs (by rw [x1]; exact x2) hvb hne (by omega) (by omega) (by omega)
       rw [x1] at h
       refine h.mono λ e w' ⟨g, cap, cur, he, hat, hl, hsz, htk, hkp, hgb⟩ => ?_
       rw [x1] at he hl htk
       exact fin xs _ e w' g cap cur x1 x4 hS he hat hl hsz htk hkp hgb
     . have h := insB_grow b κ cs xs i X vb w hx1 x3 hb hcs (by rw [x1]; exact x2) hvb (by omega) (by omega) (by omega) (by omega)
       rw [x1] at h
       refine h.mono λ e w' ⟨g, cap, cur, he, hat, hl, hsz, htk, hkp, hgb⟩ => ?_
       rw [x1] at he hl htk
       exact fin xs _ e w' g cap cur x1 x4 hS he hat hl hsz htk hkp hgb
theorem smDel : SmCall Try.prog 118 (λ args h => (dltA args h).sel) := by
 intro args h v h' hg
 simp only [dltA] at hg
 split at hg
 case h_2 => cases hg
 rename_i nil id z n ix iy
 split at hg
 case h_2 => cases hg
 rename_i k iz k2 jz hix hiy
 split at hg
 case h_2 => cases hg
 rename_i e z' n' f hgi
 simp only [Bool.cond_eq_ite] at hg
 split at hg
 case isFalse => cases hg
 rename_i hc
 simp only [Bool.and_eq_true, nbeq, decide_eq_true_eq] at hc
 obtain ⟨⟨⟨⟨hk, hk2⟩, rfl⟩, rfl⟩, rfl⟩ := hc
 obtain rfl := eqK_eq hk
 obtain rfl := eqK_eq hk2
 obtain ⟨p1, hg⟩ := T.sel_must hg
 obtain ⟨p2, hg⟩ := T.sel_must hg
 obtain ⟨p6, hg⟩ := T.sel_must hg
 obtain ⟨p3, hg⟩ := T.sel_must hg
 split at hg
 case h_2 => cases hg
 rename_i h1 hd
 split at hg
 case h_2 => cases hg
 rename_i h2 hn
 have e3 := T.sel_ret hg
 simp only [Prod.mk.injEq] at e3
 obtain ⟨rfl, rfl⟩ := e3
 obtain rfl : n = n' := of_decide_eq_true p1
 have p3 : n <= 1000000000 := of_decide_eq_true p3
 obtain ⟨p4, p5⟩ := yIn_ok p2
 obtain ⟨i, rfl⟩ : ∃ i : Nat, iz = (i : Int) := ⟨iz.toNat, by omega⟩
 obtain rfl : jz = (i : Int) + 1 := of_decide_eq_true p6
 have hi : i < n := by omega
 have hyn : yNat (i : Int) = i := rfl
 rw [hyn] at hn
 have hnx1 := (AH.put_nx hd).1
 have hnx2 := (AH.new_nx hn).1
 have hab : Ab h h2 := (del_ab hd).trans (new_ab hn)
 refine ⟨⟨by omega, hab⟩, λ M us w r R ra rr fr k' => ⟨enter_of Try.func118 (by kernel_rfl) (by kernel_rfl) _ _, ?_⟩⟩
 simp only [AV.RL] at ra
 obtain ⟨S, _, rS, ⟨I, _, rI, ⟨J, _, rJ, rfl, rfl⟩, rfl⟩, rfl⟩ := ra
 obtain rfl := yI_ok hix rI
 obtain rfl := yI_ok hiy rJ
 have hfr : M h1.nx = none := fr h1.nx (by omega) (by omega)
 simp only [AV.R] at rS
 rcases rS with ⟨rfl, rfl, rfl⟩ | ⟨rfl, b, κ', κ, hM, rfl, hle, hκκ⟩
 . omega
 obtain ⟨ob, hb, cs, rfl, hcs, hnκ, q⟩ := Ob_of rr hgi hM
 obtain ⟨xs, x1, x2, x3, x4⟩ := row_list hcs hnκ q
 have hcs : κ <= cs.size := by omega
 have h := remB_one b κ cs xs i w x3 hb hcs (by rw [x1]; exact x2) (by omega) (by omega) (by omega)
 rw [x1] at h
 refine (callsIn_wide (n := 0)).2 (h.mono λ e w' ⟨cur, he, hat, hsz, htk, hkp⟩ => ?_)
 rw [x1] at he htk
 subst he
 have hle2 : Le M (updM M h1.nx (b, cur.size)) := Le_updM hfr
 obtain ⟨q1, q2, q3⟩ := turn_ok (κ := cur.size) (d := b) (S := λ k => k = b) rr hgi rfl (λ k hk => ⟨κ', by rw [hk]; exact hM⟩) hd hn hfr (ob := .cells cur 34 (0, 0)) ⟨cur, rfl, by omega, by simp only [yNsub]; omega, λ p hp j hj => by
  have hp : p < n - 1 := hp
  obtain rfl : j = 0 := by omega
  have hc : cur[p * 1 + 0]? = (xs.eraseIdx i)[p]? := by
   rw [<- htk, List.getElem?_take, if_pos hp, Array.getElem?_toList]; simp
  rw [hc, List.getElem?_eraseIdx]
  by_cases c1 : p < i
  . obtain ⟨v, v1, v2, v3⟩ := x4 p (by omega)
    exact ⟨v, by rw [if_pos c1]; exact v1, v2, selA_ok _ (by rw [show yNlt p i = true from decide_eq_true c1]; exact AV.R.mono hle2 _ _ v3)⟩
  . obtain ⟨v, v1, v2, v3⟩ := x4 (p + 1) (by omega)
    exact ⟨v, by rw [if_neg c1]; exact v1, v2, selA_ok _ (by rw [show yNlt p i = false from decide_eq_false c1]; exact AV.R.mono hle2 _ _ v3)⟩⟩ (.inl rfl) hat hkp.os hkp.tape hkp.output hkp.size (λ b hb hs => hkp.block b hb hs)
 exact k' _ _ _ (by simp only [AV.R]; exact .inr ⟨trivial, b, cur.size, κ, by simp [updM], by simp [yNsub], by simp only [yNsub]; omega, hsz⟩) q1 q2 q3
def pI (n : Nat) (k : Nat -> Int) (x : Int) : Nat := (belowN n k x).toNat
def pIs (n : Nat) (k : Nat -> Int) (x : Int) : Bool := decide (pI n k x < n /\ k (pI n k x) = x)
def ptB (nl : Bool) (n : Nat) (k : Nat -> Int) (x : Int) : Bool := if pIs n k x = true then nl else false
def ptN (n : Nat) (k : Nat -> Int) (x : Int) : Nat := if pIs n k x = true then n else n + 1
def ptK (n : Nat) (k : Nat -> Int) (x : Int) (p : Nat) : Int := if pIs n k x = true then k p else if p < pI n k x then k p else if p = pI n k x then x else k (p - 1)
def ptV (n : Nat) (k v : Nat -> Int) (x y : Int) (p : Nat) : Int := if pIs n k x = true then (if p = pI n k x then y else v p) else if p < pI n k x then v p else if p = pI n k x then y else v (p - 1)
def drB (nl : Bool) (n : Nat) (k : Nat -> Int) (x : Int) : Bool := if pIs n k x = true then false else nl
def drN (n : Nat) (k : Nat -> Int) (x : Int) : Nat := if pIs n k x = true then n - 1 else n
def drK (n : Nat) (k v : Nat -> Int) (x : Int) (p : Nat) : Int := if pIs n k x = true then (if p < pI n k x then v p else v (p + 1)) else v p
def tdV (n : Nat) (k v : Nat -> Int) (x : Int) : Int := if pIs n k x = true then v (pI n k x) else 0
abbrev oU : Sx := .owr 34 [.int .u64]
abbrev sMap : Sx := .ptr 166 [oU, oU]
abbrev dMap (nk nv : Bool) (n : Nat) (k v : Nat -> Int) : List Dx := [.rows nk n [.int .u64 k], .rows nv n [.int .u64 v]]
def lMd : List (Nat × Sm) := [(120, .ct (ctX sTo .sc fTo)), (107, .ct insA), (118, .ct dltA)]
def goalMpt : Prop := ∀ (nk nv : Bool) (n : Nat) (k v : Nat -> Int) (x y : Int), yNle n 1000000 = true -> sortB n k = true →
 wxH Try.prog (smL lMd) (λ _ => none) 94 [sMap, .sc, .sc] [.l (dMap nk nv n k v), .v (.y .u64 x), .v (.y .u64 y)] (.tup []) (.l []) [dMap (ptB nk n k x) (ptB nv n k x) (ptN n k x) (ptK n k x) (ptV n k v x y)]
def goalMdr : Prop := ∀ (nk nv : Bool) (n : Nat) (k v : Nat -> Int) (x : Int), yNle n 1000000 = true -> sortB n k = true →
 wxH Try.prog (smL lMd) (λ _ => none) 110 [sMap, .sc] [.l (dMap nk nv n k v), .v (.y .u64 x)] (.tup []) (.l []) [dMap (drB nk n k x) (drB nv n k x) (drN n k x) (drK n k k x) (drK n k v x)]
def goalMgt : Prop := ∀ (nk nv : Bool) (n : Nat) (k v : Nat -> Int) (x : Int), yNle n 1000000 = true -> sortB n k = true →
 wxH Try.prog (smL lMd) (λ _ => none) 109 [sMap, .sc] [.l (dMap nk nv n k v), .v (.y .u64 x)] (.tup [.sc, .sc]) (.l [.v (.y .u64 (tdV n k v x)), .v (.yb (pIs n k x))]) [dMap nk nv n k v]
theorem ySel_if (p i : Nat) (a b : Int) : ySel (yNeq p i) a b = if p = i then a else b := by
 by_cases h : p = i <;> simp [ySel, yNeq, h]
theorem sel2 (p i : Nat) (a b : Int) : ySel (yNlt p i) a b = if p < i then a else b := by
 by_cases h : p < i <;> simp [ySel, yNlt, h]
theorem sel3 (p i : Nat) (a b c : Int) : ySel (yNlt p i) a (ySel (yNeq p i) b c) = if p < i then a else if p = i then b else c := by
 rw [sel2, ySel_if]
theorem below_le (n : Nat) (k : Nat -> Int) (x : Int) : ∃ i : Nat, belowN n k x = (i : Int) /\ i <= n := ⟨_, rfl, by have := List.length_filter_le (λ i => decide (k i < x)) (List.range n); simpa using this⟩
theorem mdFacts {n : Nat} {k : Nat -> Int} {x : Int} (hn : n <= 1000000) (hs : sortB n k = true) : yLt (yInt n) 0 = false /\ yNle n n = true /\ (yCol (CK.int .u64) n λ (i : Nat) => AV.y .u64 (k i)) = true ∧
 yAnd (yAnd (yEq 1 1) (yEq 0 0)) (yAnd (yEq (yInt n) (yInt n)) (yAnd (yNle n 100000000) (sortB n k))) = true /\ yNeq n n = true /\ yIn (belowN n k x) (yNadd n 1) = true /\ yNle n 1000000000 = true ∧
 yEq (yWrap .i64 (yAdd (belowN n k x) 1)) (yAdd (belowN n k x) 1) = true /\ belowN n k x = (pI n k x : Int) /\ pI n k x <= n := by
 obtain ⟨i, hi, hle⟩ := below_le n k x
 have hp : pI n k x = i := by unfold pI; rw [hi]; rfl
 rw [hp, hi]
 refine ⟨by rw [yLt_f]; simp only [yInt]; omega, decide_eq_true (Nat.le_refl _), yCol_int, ?_, decide_eq_true rfl, ?_, decide_eq_true (by omega), ?_, rfl, hle⟩
 . rw [hs, show yNle n 100000000 = true from decide_eq_true (by omega), show yEq (yInt n) (yInt n) = true from decide_eq_true rfl]; rfl
 . rw [yIn_t]; simp only [yNadd]; omega
 . refine decide_eq_true ?_
   show yWrap .i64 ((i : Int) + 1) = (i : Int) + 1
   exact wrap64 (by omega) (by omega)
theorem pIs_cases {n : Nat} {k : Nat -> Int} {x : Int} (e : belowN n k x = (pI n k x : Int)) :
 (pIs n k x = true /\ pI n k x < n /\ yLt (belowN n k x) (yInt n) = true /\ yIn (belowN n k x) n = true /\ yNlt (yNat (belowN n k x)) n = true /\ yEq (k (yNat (belowN n k x))) x = true) ∨
 (pIs n k x = false /\ yLt (belowN n k x) (yInt n) = true /\ yIn (belowN n k x) n = true /\ yNlt (yNat (belowN n k x)) n = true /\ yEq (k (yNat (belowN n k x))) x = false) ∨ (pIs n k x = false /\ yLt (belowN n k x) (yInt n) = false) := by
 rw [e]
 show (_ /\ _ /\ yLt ((pI n k x : Nat) : Int) (n : Int) = true /\ _ /\ yNlt (pI n k x) n = true /\ yEq (k (pI n k x)) x = true) ∨ (_ /\ yLt ((pI n k x : Nat) : Int) (n : Int) = true /\ _ /\ yNlt (pI n k x) n = true /\ yEq (k (pI n k x)) x = false) ∨ (_ /\ yLt ((pI n k x : Nat) : Int) (n : Int) = false)
 unfold pIs
 by_cases h1 : pI n k x < n
 . have q1 : yLt ((pI n k x : Nat) : Int) (n : Int) = true := by rw [yLt_t]; omega
   have q2 : yIn ((pI n k x : Nat) : Int) n = true := by rw [yIn_t]; omega
   have q3 : yNlt (pI n k x) n = true := decide_eq_true h1
   by_cases h2 : k (pI n k x) = x
   . exact .inl ⟨decide_eq_true ⟨h1, h2⟩, h1, q1, q2, q3, decide_eq_true h2⟩
   . exact .inr (.inl ⟨decide_eq_false λ h => h2 h.2, q1, q2, q3, decide_eq_false h2⟩)
 . exact .inr (.inr ⟨decide_eq_false λ h => h1 h.1, by rw [yLt_f]; omega⟩)
def goalMpt_1 (n : Nat) (k : Nat -> Int) (x : Int) (nk : Bool) (nv : Bool) (v : Nat -> Int) (y : Int) := mst (yIn (belowN n (λ (i : Nat) => k i) x) (yNadd n 1)) (mst (yNle n 1000000000) (mst (yNeq n n) (mst (yIn (belowN n (λ (i : Nat) => k i) x) (yNadd n 1)) (mst (yNle n 1000000000) (ptB nk n k x = false /\ ptN n k x = yNadd n 1 /\ ptB nv n k x = false /\ ptN n k x = yNadd n 1 /\ ptN n k x = yNadd n 1 /\ (∀ (i : Nat), Nat.succ i <= ptN n k x -> ptV n k v x y i = ySel (yNlt i (yNat (belowN n (λ (i : Nat) => k i) x))) (v i) (ySel (yNeq i (yNat (belowN n (λ (i : Nat) => k i) x))) y (v (yNsub i 1))) /\ True) /\ ptN n k x = yNadd n 1 /\ (∀ (i : Nat), Nat.succ i <= ptN n k x -> ptK n k x i = ySel (yNlt i (yNat (belowN n (λ (i : Nat) => k i) x))) (k i) (ySel (yNeq i (yNat (belowN n (λ (i : Nat) => k i) x))) x (k (yNsub i 1))) /\ True) /\ true = true)))))
def goalMpt_0 (n : Nat) (k : Nat -> Int) (x : Int) (nk : Bool) (nv : Bool) (v : Nat -> Int) (y : Int) := (yLt (belowN n (λ (i : Nat) => k i) x) (yInt n) = true -> mst (yIn (belowN n (λ (i : Nat) => k i) x) n) (mst (yNlt (yNat (belowN n (λ (i : Nat) => k i) x)) n) ((yEq (k (yNat (belowN n (λ (i : Nat) => k i) x))) x = true -> mst (yIn (belowN n (λ (i : Nat) => k i) x) n) (mst (yNlt (yNat (belowN n (λ (i : Nat) => k i) x)) n) (ptB nk n k x = nk /\ ptN n k x = n /\ ptB nv n k x = nv /\ ptN n k x = n /\ ptN n k x = n /\ (∀ (i : Nat), Nat.succ i <= ptN n k x -> ptV n k v x y i = ySel (yNeq i (yNat (belowN n (λ (i : Nat) => k i) x))) y (v i) /\ True) /\ ptN n k x = n /\ (∀ (i : Nat), Nat.succ i <= ptN n k x -> ptK n k x i = k i /\ True) /\ true = true))) /\ (yEq (k (yNat (belowN n (λ (i : Nat) => k i) x))) x = false -> mst (yNeq n n) (goalMpt_1 n k x nk nv v y))))) /\ (yLt (belowN n (λ (i : Nat) => k i) x) (yInt n) = false -> mst (yNeq n n) (goalMpt_1 n k x nk nv v y))
def goalMptV : Prop := (∀ (nk nv : Bool) (n : Nat) (k v : Nat -> Int) (x y : Int), yNle n (nat_lit 1000000) = true -> sortB n k = true -> (yLt (yInt n) (0 : Int) = true -> mst (yNle n n) (mst (yCol (CK.int .u64) n λ (i : Nat) => AV.y .u64 (k i)) (mst (yAnd (yAnd (yEq 1 1) (yEq 0 0)) (yAnd (yEq 0 (yInt n)) (yAnd (yNle n 100000000) (sortB n λ (i : Nat) => k i)))) (goalMpt_0 n k x nk nv v y)))) /\ (yLt (yInt n) (0 : Int) = false -> mst (yNle n n) (mst (yCol (CK.int .u64) n λ (i : Nat) => AV.y .u64 (k i)) (mst (yAnd (yAnd (yEq 1 1) (yEq 0 0)) (yAnd (yEq (yInt n) (yInt n)) (yAnd (yNle n 100000000) (sortB n λ (i : Nat) => k i)))) (goalMpt_0 n k x nk nv v y)))))
theorem goalMpt_eq : goalMpt = goalMptV := by kernel_rfl
set_option maxHeartbeats 8000000 in
theorem goalMpt_vc : goalMptV := by
 unfold goalMptV goalMpt_0 goalMpt_1
 intro nk nv n k v x y hn hs
 obtain ⟨f1, f2, f3, f4, f5, f6, f7, _, f8, f9⟩ := mdFacts (x := x) (of_decide_eq_true hn) hs
 have hy : yNat (belowN n k x) = pI n k x := by rw [f8]; rfl
 rcases pIs_cases f8 with ⟨c0, c5, c1, c2, c3, c4⟩ | ⟨c0, c1, c2, c3, c4⟩ | ⟨c0, c1⟩
 all_goals repeat' (first | refine mstI (by assumption) ?_ | refine fork_t (by assumption) ?_ | refine fork_f (by assumption) ?_)
 . rw [hy]
   exact ⟨if_pos c0, if_pos c0, if_pos c0, if_pos c0, if_pos c0, λ p _ => ⟨(if_pos c0).trans (ySel_if _ _ _ _).symm, trivial⟩, if_pos c0, λ _ _ => ⟨if_pos c0, trivial⟩, rfl⟩
 all_goals
  have c0 : ¬ pIs n k x = true := by rw [c0]; simp
  rw [hy]
  exact ⟨if_neg c0, if_neg c0, if_neg c0, if_neg c0, if_neg c0, λ p _ => ⟨(if_neg c0).trans (sel3 _ _ _ _ _).symm, trivial⟩, if_neg c0, λ p _ => ⟨(if_neg c0).trans (sel3 _ _ _ _ _).symm, trivial⟩, rfl⟩
theorem goalMpt_tt : (goalMpt) = True := goalMpt_eq.trans (eq_true goalMpt_vc)
theorem goalMpt_ok : goalMpt := @ft' goalMpt goalMpt_tt
def goalMdr_0 (n : Nat) (k : Nat -> Int) (x : Int) (nk : Bool) (nv : Bool) (v : Nat -> Int) := (yLt (belowN n (λ (i : Nat) => k i) x) (yInt n) = true -> mst (yIn (belowN n (λ (i : Nat) => k i) x) n) (mst (yNlt (yNat (belowN n (λ (i : Nat) => k i) x)) n) ((yEq (k (yNat (belowN n (λ (i : Nat) => k i) x))) x = true -> mst (yNeq n n) (mst (yIn (belowN n (λ (i : Nat) => k i) x) n) (mst (yEq (yWrap .i64 (yAdd (belowN n (λ (i : Nat) => k i) x) 1)) (yAdd (belowN n (λ (i : Nat) => k i) x) 1)) (mst (yNle n 1000000000) (mst (yNeq n n) (mst (yIn (belowN n (λ (i : Nat) => k i) x) n) (mst (yEq (yWrap .i64 (yAdd (belowN n (λ (i : Nat) => k i) x) 1)) (yAdd (belowN n (λ (i : Nat) => k i) x) 1)) (mst (yNle n 1000000000) (drB nk n k x = false /\ drN n k x = yNsub n 1 /\ drB nv n k x = false /\ drN n k x = yNsub n 1 /\ drN n k x = yNsub n 1 /\ (∀ (i : Nat), Nat.succ i <= drN n k x -> drK n k v x i = ySel (yNlt i (yNat (belowN n (λ (i : Nat) => k i) x))) (v i) (v (yNadd i 1)) /\ True) /\ drN n k x = yNsub n 1 /\ (∀ (i : Nat), Nat.succ i <= drN n k x -> drK n k k x i = ySel (yNlt i (yNat (belowN n (λ (i : Nat) => k i) x))) (k i) (k (yNadd i 1)) /\ True) /\ true = true))))))))) /\ (yEq (k (yNat (belowN n (λ (i : Nat) => k i) x))) x = false -> drB nk n k x = nk /\ drN n k x = n /\ drB nv n k x = nv /\ drN n k x = n /\ drN n k x = n /\ (∀ (i : Nat), Nat.succ i <= drN n k x -> drK n k v x i = v i /\ True) /\ drN n k x = n /\ (∀ (i : Nat), Nat.succ i <= drN n k x -> drK n k k x i = k i /\ True) /\ true = true)))) /\ (yLt (belowN n (λ (i : Nat) => k i) x) (yInt n) = false -> drB nk n k x = nk /\ drN n k x = n /\ drB nv n k x = nv /\ drN n k x = n /\ drN n k x = n /\ (∀ (i : Nat), Nat.succ i <= drN n k x -> drK n k v x i = v i /\ True) /\ drN n k x = n /\ (∀ (i : Nat), Nat.succ i <= drN n k x -> drK n k k x i = k i /\ True) /\ true = true)
def goalMdrV : Prop := (∀ (nk nv : Bool) (n : Nat) (k v : Nat -> Int) (x : Int), yNle n (nat_lit 1000000) = true -> sortB n k = true -> (yLt (yInt n) (0 : Int) = true -> mst (yNle n n) (mst (yCol (CK.int .u64) n λ (i : Nat) => AV.y .u64 (k i)) (mst (yAnd (yAnd (yEq 1 1) (yEq 0 0)) (yAnd (yEq 0 (yInt n)) (yAnd (yNle n 100000000) (sortB n λ (i : Nat) => k i)))) (goalMdr_0 n k x nk nv v)))) /\ (yLt (yInt n) (0 : Int) = false -> mst (yNle n n) (mst (yCol (CK.int .u64) n λ (i : Nat) => AV.y .u64 (k i)) (mst (yAnd (yAnd (yEq 1 1) (yEq 0 0)) (yAnd (yEq (yInt n) (yInt n)) (yAnd (yNle n 100000000) (sortB n λ (i : Nat) => k i)))) (goalMdr_0 n k x nk nv v)))))
theorem goalMdr_eq : goalMdr = goalMdrV := by kernel_rfl
set_option maxHeartbeats 8000000 in
theorem goalMdr_vc : goalMdrV := by
 unfold goalMdrV goalMdr_0
 intro nk nv n k v x hn hs
 obtain ⟨f1, f2, f3, f4, f5, f6, f7, f10, f8, f9⟩ := mdFacts (x := x) (of_decide_eq_true hn) hs
 have hy : yNat (belowN n k x) = pI n k x := by rw [f8]; rfl
 rcases pIs_cases f8 with ⟨c0, c5, c1, c2, c3, c4⟩ | ⟨c0, c1, c2, c3, c4⟩ | ⟨c0, c1⟩
 all_goals repeat' (first | refine mstI (by assumption) ?_ | refine fork_t (by assumption) ?_ | refine fork_f (by assumption) ?_)
 . rw [hy]
   exact ⟨if_pos c0, if_pos c0, if_pos c0, if_pos c0, if_pos c0, λ p _ => ⟨(if_pos c0).trans (sel2 _ _ _ _).symm, trivial⟩, if_pos c0, λ p _ => ⟨(if_pos c0).trans (sel2 _ _ _ _).symm, trivial⟩, rfl⟩
 all_goals
  have c0 : ¬ pIs n k x = true := by rw [c0]; simp
  exact ⟨if_neg c0, if_neg c0, if_neg c0, if_neg c0, if_neg c0, λ p _ => ⟨if_neg c0, trivial⟩, if_neg c0, λ p _ => ⟨if_neg c0, trivial⟩, rfl⟩
theorem goalMdr_tt : (goalMdr) = True := goalMdr_eq.trans (eq_true goalMdr_vc)
theorem goalMdr_ok : goalMdr := @ft' goalMdr goalMdr_tt
def goalMgt_0 (n : Nat) (k : Nat -> Int) (x : Int) (v : Nat -> Int) (nk : Bool) (nv : Bool) := (yLt (belowN n (λ (i : Nat) => k i) x) (yInt n) = true -> mst (yIn (belowN n (λ (i : Nat) => k i) x) n) (mst (yNlt (yNat (belowN n (λ (i : Nat) => k i) x)) n) ((yEq (k (yNat (belowN n (λ (i : Nat) => k i) x))) x = true -> mst (yIn (belowN n (λ (i : Nat) => k i) x) n) (mst (yNlt (yNat (belowN n (λ (i : Nat) => k i) x)) n) (tdV n k v x = v (yNat (belowN n (λ (i : Nat) => k i) x)) /\ pIs n k x = true /\ nk = nk /\ n = n /\ nv = nv /\ n = n /\ n = n /\ (∀ (i : Nat), Nat.succ i <= n -> v i = v i /\ True) /\ n = n /\ (∀ (i : Nat), Nat.succ i <= n -> k i = k i /\ True) /\ true = true))) /\ (yEq (k (yNat (belowN n (λ (i : Nat) => k i) x))) x = false -> tdV n k v x = (0 : Int) /\ pIs n k x = false /\ nk = nk /\ n = n /\ nv = nv /\ n = n /\ n = n /\ (∀ (i : Nat), Nat.succ i <= n -> v i = v i /\ True) /\ n = n /\ (∀ (i : Nat), Nat.succ i <= n -> k i = k i /\ True) /\ true = true)))) /\ (yLt (belowN n (λ (i : Nat) => k i) x) (yInt n) = false -> tdV n k v x = (0 : Int) /\ pIs n k x = false /\ nk = nk /\ n = n /\ nv = nv /\ n = n /\ n = n /\ (∀ (i : Nat), Nat.succ i <= n -> v i = v i /\ True) /\ n = n /\ (∀ (i : Nat), Nat.succ i <= n -> k i = k i /\ True) /\ true = true)
def goalMgtV : Prop := (∀ (nk nv : Bool) (n : Nat) (k v : Nat -> Int) (x : Int), yNle n (nat_lit 1000000) = true -> sortB n k = true -> (yLt (yInt n) (0 : Int) = true -> mst (yNle n n) (mst (yCol (CK.int .u64) n λ (i : Nat) => AV.y .u64 (k i)) (mst (yAnd (yAnd (yEq 1 1) (yEq 0 0)) (yAnd (yEq 0 (yInt n)) (yAnd (yNle n 100000000) (sortB n λ (i : Nat) => k i)))) (goalMgt_0 n k x v nk nv)))) /\ (yLt (yInt n) (0 : Int) = false -> mst (yNle n n) (mst (yCol (CK.int .u64) n λ (i : Nat) => AV.y .u64 (k i)) (mst (yAnd (yAnd (yEq 1 1) (yEq 0 0)) (yAnd (yEq (yInt n) (yInt n)) (yAnd (yNle n 100000000) (sortB n λ (i : Nat) => k i)))) (goalMgt_0 n k x v nk nv)))))
theorem goalMgt_eq : goalMgt = goalMgtV := by kernel_rfl
set_option maxHeartbeats 8000000 in
theorem goalMgt_vc : goalMgtV := by
 unfold goalMgtV goalMgt_0
 intro nk nv n k v x hn hs
 obtain ⟨f1, f2, f3, f4, f5, f6, f7, f10, f8, f9⟩ := mdFacts (x := x) (of_decide_eq_true hn) hs
 have hy : yNat (belowN n k x) = pI n k x := by rw [f8]; rfl
 rcases pIs_cases f8 with ⟨c0, c5, c1, c2, c3, c4⟩ | ⟨c0, c1, c2, c3, c4⟩ | ⟨c0, c1⟩
 all_goals repeat' (first | refine mstI (by assumption) ?_ | refine fork_t (by assumption) ?_ | refine fork_f (by assumption) ?_)
 . rw [hy]
   refine ⟨if_pos c0, c0, ?_⟩
   repeat' (first | exact trivial | rfl | apply And.intro | intro _)
 all_goals
  refine ⟨if_neg (by rw [c0]; simp), c0, ?_⟩
  repeat' (first | exact trivial | rfl | apply And.intro | intro _)
theorem goalMgt_tt : (goalMgt) = True := goalMgt_eq.trans (eq_true goalMgt_vc)
theorem goalMgt_ok : goalMgt := @ft' goalMgt goalMgt_tt
def preM (n m : Nat) (k : Nat -> Int) : Bool := yAnd (yNeq n m) (yAnd (yNle n 1000000) (sortB n k))
theorem preM_t {n m : Nat} {k : Nat -> Int} (h : preM n m k = true) : n = m /\ yNle n 1000000 = true /\ sortB n k = true := by
 unfold preM at h
 obtain ⟨h1, h2⟩ := yAnd_t.mp h
 obtain ⟨h2, h3⟩ := yAnd_t.mp h2
 exact ⟨of_decide_eq_true h1, h2, h3⟩
theorem preM_i {n : Nat} {k : Nat -> Int} (h1 : yNle n 1000000 = true) (h2 : sortB n k = true) : preM n n k = true := by
 unfold preM; rw [h1, h2, show yNeq n n = true from decide_eq_true rfl]; rfl
def fMpt (ds : List Dx) : Option (Bool × Dx × List (List Dx)) :=
 match ds with
 | [.l [.rows nk n [.int .u64 k], .rows nv m [.int .u64 v]], .v (.y .u64 x), .v (.y .u64 y)] => some (preM n m k, .l [], [dMap (ptB nk n k x) (ptB nv n k x) (ptN n k x) (ptK n k x) (ptV n k v x y)])
 | _ => none
def fMdr (ds : List Dx) : Option (Bool × Dx × List (List Dx)) :=
 match ds with
 | [.l [.rows nk n [.int .u64 k], .rows nv m [.int .u64 v]], .v (.y .u64 x)] => some (preM n m k, .l [], [dMap (drB nk n k x) (drB nv n k x) (drN n k x) (drK n k k x) (drK n k v x)])
 | _ => none
theorem smMpt (hm : Try.prog.follows .mixedOrders = true) (hs : SmOK Try.prog (smL lMd)) : SmCall Try.prog 94 (λ args h => (ctX [sMap, .sc, .sc] (.tup []) fMpt args h).sel) :=
 ctX_ok hm hs (λ ds r post h => by
  unfold fMpt at h
  split at h
  . rename_i nk n k nv m v x y
    simp only [sI, Prod.mk.injEq] at h
    obtain ⟨h1, rfl, rfl⟩ := h
    obtain ⟨rfl, h1, h3⟩ := preM_t h1
    have h2 := @goalMpt_ok
    unfold goalMpt at h2
    exact ⟨_, 1000, @h2 nk nv n k v x y h1 h3⟩
  . cases h)
theorem smMdr (hm : Try.prog.follows .mixedOrders = true) (hs : SmOK Try.prog (smL lMd)) : SmCall Try.prog 110 (λ args h => (ctX [sMap, .sc] (.tup []) fMdr args h).sel) :=
 ctX_ok hm hs (λ ds r post h => by
  unfold fMdr at h
  split at h
  . rename_i nk n k nv m v x
    simp only [sI, Prod.mk.injEq] at h
    obtain ⟨h1, rfl, rfl⟩ := h
    obtain ⟨rfl, h1, h3⟩ := preM_t h1
    have h2 := @goalMdr_ok
    unfold goalMdr at h2
    exact ⟨_, 1000, @h2 nk nv n k v x h1 h3⟩
  . cases h)
def doB (kd : Int) (nl : Bool) (n : Nat) (k : Nat -> Int) (x : Int) : Bool := if kd = 2 then ptB nl n k x else if kd = 3 then drB nl n k x else nl
def doN (kd : Int) (n : Nat) (k : Nat -> Int) (x : Int) : Nat := if kd = 2 then ptN n k x else if kd = 3 then drN n k x else n
def doKy (kd : Int) (n : Nat) (k : Nat -> Int) (x : Int) (p : Nat) : Int := if kd = 2 then ptK n k x p else if kd = 3 then drK n k k x p else k p
def doVl (kd : Int) (n : Nat) (k v : Nat -> Int) (x y : Int) (p : Nat) : Int := if kd = 2 then ptV n k v x y p else if kd = 3 then drK n k v x p else v p
def tdK (n : Nat) (k : Nat -> Int) (x : Int) : Int := if pIs n k x = true then 2 else 1
def noA (_ : List AV) (_ : AH) : T (AV × AH) := .no
theorem smNo {P : Program} {f : FuncId} : SmCall P f (λ args h => (noA args h).sel) := λ args h v h' hg => by cases hg
def fMgt (ds : List Dx) : Option (Bool × Dx × List (List Dx)) :=
 match ds with
 | [.l [.rows nk n [.int .u64 k], .rows nv m [.int .u64 v]], .v (.y .u64 x)] => some (preM n m k, .l [.v (.y .u64 (tdV n k v x)), .v (.yb (pIs n k x))], [dMap nk nv n k v])
 | _ => none
theorem smMgt (hm : Try.prog.follows .mixedOrders = true) (hs : SmOK Try.prog (smL lMd)) : SmCall Try.prog 109 (λ args h => (ctX [sMap, .sc] (.tup [.sc, .sc]) fMgt args h).sel) :=
 ctX_ok hm hs (λ ds r post h => by
  unfold fMgt at h
  split at h
  . rename_i nk n k nv m v x
    simp only [sI, Prod.mk.injEq] at h
    obtain ⟨h1, rfl, rfl⟩ := h
    obtain ⟨rfl, h1, h3⟩ := preM_t h1
    have h2 := @goalMgt_ok
    unfold goalMgt at h2
    exact ⟨_, 1000, @h2 nk nv n k v x h1 h3⟩
  . cases h)
def lMe : List (Nat × Sm) := [(98, .ct noA), (52, .ct (ctS gOp fRgE)), (109, .ct (ctX [sMap, .sc] (.tup [.sc, .sc]) fMgt)), (94, .ct (ctX [sMap, .sc, .sc] (.tup []) fMpt)), (110, .ct (ctX [sMap, .sc] (.tup []) fMdr))]
abbrev sOpx : Sx := .agg [.sc, .sc, .sc, .sc, .sc]
abbrev dOpx (kd x y hi mo : Int) : Dx := .l [.v (.y .i64 kd), .v (.y .u64 x), .v (.y .u64 y), .v (.y .u64 hi), .v (.y .i64 mo)]
abbrev rRes : Sx := .agg [.sc, .sc, .own 113 [.int .u64, .int .u64]]
abbrev dMdo (kd : Int) (nk nv : Bool) (n : Nat) (k v : Nat -> Int) (x y : Int) : List Dx := dMap (doB kd nk n k x) (doB kd nv n k x) (doN kd n k x) (doKy kd n k x) (doVl kd n k v x y)
def goalMdo : Prop := ∀ (nk nv : Bool) (n : Nat) (k v : Nat -> Int) (kd x y hi mo : Int), preM n n k = true -> yLe 1 kd = true -> yLe kd 3 = true →
 wxH Try.prog (smL lMe) (λ _ => none) 96 [sMap, sOpx] [.l (dMap nk nv n k v), dOpx kd x y hi mo] rRes (.l [.v (.y .i64 (tdK n k x)), .v (.y .u64 (tdV n k v x)), .rows true 0 [.int .u64 (λ _ => 0), .int .u64 (λ _ => 0)]]) [dMdo kd nk nv n k v x y]
def goalMdo_0 (n : Nat) (k : Nat -> Int) := yCol (CK.int .u64) n λ (i : Nat) => AV.y .u64 (k i)
def goalMdo_1 (n : Nat) (v : Nat -> Int) := yCol (CK.int .u64) n λ (i : Nat) => AV.y .u64 (v i)
def goalMdoV : Prop := (∀ (nk nv : Bool) (n : Nat) (k v : Nat -> Int) (kd x y hi mo : Int), preM n n k = true -> yLe 1 kd = true -> yLe kd (3 : Int) = true -> mst (true) ((yNot (rightE kd mo) = true -> tdK n k x = (0 : Int) /\ tdV n k v x = (0 : Int) /\ true = true /\ nat_lit 0 = nat_lit 0 /\ doB kd nk n k x = nk /\ doN kd n k x = n /\ doB kd nv n k x = nv /\ doN kd n k x = n /\ nat_lit 0 = nat_lit 0 /\ doN kd n k x = n /\ (∀ (i : Nat), Nat.succ i <= doN kd n k x -> doVl kd n k v x y i = v i /\ True) /\ doN kd n k x = n /\ (∀ (i : Nat), Nat.succ i <= doN kd n k x -> doKy kd n k x i = k i /\ True) /\ true = true /\ true = true) /\ (yNot (rightE kd mo) = false -> mst (yNeq n n) (mst (goalMdo_0 n k) (mst (yNeq n n) (mst (goalMdo_1 n v) (mst (preM n n λ (i : Nat) => k i) ((pIs n (λ (i : Nat) => k i) x = true -> (yEq kd (2 : Int) = true -> mst (yNeq n n) (mst (goalMdo_0 n k) (mst (yNeq n n) (mst (goalMdo_1 n v) (mst (preM n n λ (i : Nat) => k i) (tdK n k x = (2 : Int) /\ tdV n k v x = tdV n (λ (i : Nat) => k i) (λ (i : Nat) => v i) x /\ true = true /\ nat_lit 0 = nat_lit 0 /\ doB kd nk n k x = ptB nk n (λ (i : Nat) => k i) x /\ doN kd n k x = ptN n (λ (i : Nat) => k i) x /\ doB kd nv n k x = ptB nv n (λ (i : Nat) => k i) x /\ doN kd n k x = ptN n (λ (i : Nat) => k i) x /\ nat_lit 0 = nat_lit 0 /\ doN kd n k x = ptN n (λ (i : Nat) => k i) x /\ (∀ (i : Nat), Nat.succ i <= doN kd n k x -> doVl kd n k v x y i = ptV n (λ (i : Nat) => k i) (λ (i : Nat) => v i) x y i /\ True) /\ doN kd n k x = ptN n (λ (i : Nat) => k i) x /\ (∀ (i : Nat), Nat.succ i <= doN kd n k x -> doKy kd n k x i = ptK n (λ (i : Nat) => k i) x i /\ True) /\ true = true /\ true = true)))))) /\ (yEq kd (2 : Int) = false -> (yEq kd (3 : Int) = true -> mst (yNeq n n) (mst (goalMdo_0 n k) (mst (yNeq n n) (mst (goalMdo_1 n v) (mst (preM n n λ (i : Nat) => k i) (tdK n k x = (2 : Int) /\ tdV n k v x = tdV n (λ (i : Nat) => k i) (λ (i : Nat) => v i) x /\ true = true /\ nat_lit 0 = nat_lit 0 /\ doB kd nk n k x = drB nk n (λ (i : Nat) => k i) x /\ doN kd n k x = drN n (λ (i : Nat) => k i) x /\ doB kd nv n k x = drB nv n (λ (i : Nat) => k i) x /\ doN kd n k x = drN n (λ (i : Nat) => k i) x /\ nat_lit 0 = nat_lit 0 /\ doN kd n k x = drN n (λ (i : Nat) => k i) x /\ (∀ (i : Nat), Nat.succ i <= doN kd n k x -> doVl kd n k v x y i = drK n (λ (i : Nat) => k i) (λ (i : Nat) => v i) x i /\ True) /\ doN kd n k x = drN n (λ (i : Nat) => k i) x /\ (∀ (i : Nat), Nat.succ i <= doN kd n k x -> doKy kd n k x i = drK n (λ (i : Nat) => k i) (λ (i : Nat) => k i) x i /\ True) /\ true = true /\ true = true)))))) /\ (yEq kd (3 : Int) = false -> (yEq kd (4 : Int) = true -> False) /\ (yEq kd (4 : Int) = false -> tdK n k x = (2 : Int) /\ tdV n k v x = tdV n (λ (i : Nat) => k i) (λ (i : Nat) => v i) x /\ true = true /\ nat_lit 0 = nat_lit 0 /\ doB kd nk n k x = nk /\ doN kd n k x = n /\ doB kd nv n k x = nv /\ doN kd n k x = n /\ nat_lit 0 = nat_lit 0 /\ doN kd n k x = n /\ (∀ (i : Nat), Nat.succ i <= doN kd n k x -> doVl kd n k v x y i = v i /\ True) /\ doN kd n k x = n /\ (∀ (i : Nat), Nat.succ i <= doN kd n k x -> doKy kd n k x i = k i /\ True) /\ true = true /\ true = true)))) /\ (pIs n (λ (i : Nat) => k i) x = false -> (yEq kd (2 : Int) = true -> mst (yNeq n n) (mst (goalMdo_0 n k) (mst (yNeq n n) (mst (goalMdo_1 n v) (mst (preM n n λ (i : Nat) => k i) (tdK n k x = (1 : Int) /\ tdV n k v x = (0 : Int) /\ true = true /\ nat_lit 0 = nat_lit 0 /\ doB kd nk n k x = ptB nk n (λ (i : Nat) => k i) x /\ doN kd n k x = ptN n (λ (i : Nat) => k i) x /\ doB kd nv n k x = ptB nv n (λ (i : Nat) => k i) x /\ doN kd n k x = ptN n (λ (i : Nat) => k i) x /\ nat_lit 0 = nat_lit 0 /\ doN kd n k x = ptN n (λ (i : Nat) => k i) x /\ (∀ (i : Nat), Nat.succ i <= doN kd n k x -> doVl kd n k v x y i = ptV n (λ (i : Nat) => k i) (λ (i : Nat) => v i) x y i /\ True) /\ doN kd n k x = ptN n (λ (i : Nat) => k i) x /\ (∀ (i : Nat), Nat.succ i <= doN kd n k x -> doKy kd n k x i = ptK n (λ (i : Nat) => k i) x i /\ True) /\ true = true /\ true = true)))))) /\ (yEq kd (2 : Int) = false -> (yEq kd (3 : Int) = true -> mst (yNeq n n) (mst (goalMdo_0 n k) (mst (yNeq n n) (mst (goalMdo_1 n v) (mst (preM n n λ (i : Nat) => k i) (tdK n k x = (1 : Int) /\ tdV n k v x = (0 : Int) /\ true = true /\ nat_lit 0 = nat_lit 0 /\ doB kd nk n k x = drB nk n (λ (i : Nat) => k i) x /\ doN kd n k x = drN n (λ (i : Nat) => k i) x /\ doB kd nv n k x = drB nv n (λ (i : Nat) => k i) x /\ doN kd n k x = drN n (λ (i : Nat) => k i) x /\ nat_lit 0 = nat_lit 0 /\ doN kd n k x = drN n (λ (i : Nat) => k i) x /\ (∀ (i : Nat), Nat.succ i <= doN kd n k x -> doVl kd n k v x y i = drK n (λ (i : Nat) => k i) (λ (i : Nat) => v i) x i /\ True) /\ doN kd n k x = drN n (λ (i : Nat) => k i) x /\ (∀ (i : Nat), Nat.succ i <= doN kd n k x -> doKy kd n k x i = drK n (λ (i : Nat) => k i) (λ (i : Nat) => k i) x i /\ True) /\ true = true /\ true = true)))))) /\ (yEq kd (3 : Int) = false -> (yEq kd (4 : Int) = true -> False) /\ (yEq kd (4 : Int) = false -> tdK n k x = (1 : Int) /\ tdV n k v x = (0 : Int) /\ true = true /\ nat_lit 0 = nat_lit 0 /\ doB kd nk n k x = nk /\ doN kd n k x = n /\ doB kd nv n k x = nv /\ doN kd n k x = n /\ nat_lit 0 = nat_lit 0 /\ doN kd n k x = n /\ (∀ (i : Nat), Nat.succ i <= doN kd n k x -> doVl kd n k v x y i = v i /\ True) /\ doN kd n k x = n /\ (∀ (i : Nat), Nat.succ i <= doN kd n k x -> doKy kd n k x i = k i /\ True) /\ true = true /\ true = true))))))))))))
theorem goalMdo_eq : goalMdo = goalMdoV := by kernel_rfl
set_option maxHeartbeats 8000000 in
theorem goalMdo_vc : goalMdoV := by
 unfold goalMdoV goalMdo_1 goalMdo_0
 intro nk nv n k v kd x y hi mo hp h1 h3
 have h1 : 1 <= kd := of_decide_eq_true h1
 have h3 : kd <= 3 := of_decide_eq_true h3
 have a1 : yNot (rightE kd mo) = false := by
  have : rightE kd mo = true := by
   unfold rightE
   rw [show yEq kd 4 = false from decide_eq_false (by omega), cond_false, show yLe 1 kd = true from decide_eq_true h1, show yLe kd 3 = true from decide_eq_true h3]; rfl
  rw [this]; rfl
 have a2 : yNeq n n = true := decide_eq_true rfl
 have a3 : (yCol (CK.int .u64) n λ (i : Nat) => AV.y .u64 (k i)) = true := yCol_int
 have a4 : (yCol (CK.int .u64) n λ (i : Nat) => AV.y .u64 (v i)) = true := yCol_int
 have go : ∀ {P : Prop} (c : Bool), pIs n k x = c -> ((pIs n k x = true -> P) /\ (pIs n k x = false -> P)) -> P := λ c hc h => by cases c; exact h.2 hc; exact h.1 hc
 cases c0 : pIs n k x
 all_goals rcases (by omega : kd = 2 ∨ kd = 3 ∨ kd = 1) with rfl | rfl | rfl
 all_goals repeat' (first | refine mstI (by first | assumption | rfl) ?_ | refine fork_t (by first | assumption | rfl) ?_ | refine fork_f (by first | assumption | rfl) ?_)
 all_goals refine ⟨?_, ?_, ?_⟩
 all_goals first
  | exact if_pos c0
  | exact if_neg (by rw [c0]; simp)
  | rfl
  | skip
 all_goals repeat' (first | exact trivial | rfl | apply And.intro | intro _)
theorem goalMdo_tt : (goalMdo) = True := goalMdo_eq.trans (eq_true goalMdo_vc)
theorem goalMdo_ok : goalMdo := @ft' goalMdo goalMdo_tt
def fMdo (ds : List Dx) : Option (Bool × Dx × List (List Dx)) :=
 match ds with
 | [.l [.rows nk n [.int .u64 k], .rows nv m [.int .u64 v]], .l [.v (.y .i64 kd), .v (.y .u64 x), .v (.y .u64 y), .v (.y .u64 _), .v (.y .i64 _)]] =>
   some (yAnd (preM n m k) (yAnd (yLe 1 kd) (yLe kd 3)), .l [.v (.y .i64 (tdK n k x)), .v (.y .u64 (tdV n k v x)), .rows true 0 [.int .u64 (λ _ => 0), .int .u64 (λ _ => 0)]], [dMdo kd nk nv n k v x y])
 | _ => none
theorem smMdo (hm : Try.prog.follows .mixedOrders = true) (hs : SmOK Try.prog (smL lMe)) : SmCall Try.prog 96 (λ args h => (ctX [sMap, sOpx] rRes fMdo args h).sel) :=
 ctX_ok hm hs (λ ds r post h => by
  unfold fMdo at h
  split at h
  . rename_i nk n k nv m v kd x y hi mo
    simp only [sI, Prod.mk.injEq] at h
    obtain ⟨h1, rfl, rfl⟩ := h
    obtain ⟨h1, h3⟩ := yAnd_t.mp h1
    obtain ⟨h3, h4⟩ := yAnd_t.mp h3
    obtain ⟨rfl, k1, k3⟩ := preM_t h1
    have h2 := @goalMdo_ok
    unfold goalMdo at h2
    exact ⟨_, 1000, @h2 nk nv n k v kd x y hi mo h1 h3 h4⟩
  . cases h)
def dnR (fl ov sm : Bool) : Bool := yOr fl (yOr (yNot ov) sm)
abbrev sCaP : Sx := .agg [.sc, .sc, .sc, .sc, .sc, .sc, .sc, .sc, .sc, .sc, .sc, .sc, .pl [.int .u64, .int .u64]]
def lMf : List (Nat × Sm) := [(95, .ct (ctS gCa fFu)), (64, .ct (ctS gResult fSame)), (96, .ct (ctX [sMap, sOpx] rRes fMdo))]
def dnB (fl : Bool) (kd : Int) (nl : Bool) (n : Nat) (k : Nat -> Int) (x : Int) : Bool := if fl = true then nl else doB kd nl n k x
def dnN (fl : Bool) (kd : Int) (n : Nat) (k : Nat -> Int) (x : Int) : Nat := if fl = true then n else doN kd n k x
def dnKy (fl : Bool) (kd : Int) (n : Nat) (k : Nat -> Int) (x : Int) (p : Nat) : Int := if fl = true then k p else doKy kd n k x p
def dnVl (fl : Bool) (kd : Int) (n : Nat) (k v : Nat -> Int) (x y : Int) (p : Nat) : Int := if fl = true then v p else doVl kd n k v x y p
abbrev dMdn (fl : Bool) (kd : Int) (nk nv : Bool) (n : Nat) (k v : Nat -> Int) (x y : Int) : List Dx := dMap (dnB fl kd nk n k x) (dnB fl kd nv n k x) (dnN fl kd n k x) (dnKy fl kd n k x) (dnVl fl kd n k v x y)
def goalMdn : Prop := ∀ (nk nv : Bool) (n : Nat) (k v : Nat -> Int) (id th ok key val hi most fr to : Int) (ov : Bool) (rk rv : Int) (nl : Bool) (q : Nat) (a0 a1 : Nat -> Int), preM n n k = true -> yLe 1 ok = true -> yLe ok 3 = true -> yNle q 1000000 = true →
 wxH Try.prog (smL lMf) (λ _ => none) 74 [sMap, sCaP] [.l (dMap nk nv n k v), .l [.v (.y .i64 id), .v (.y .i64 th), .v (.y .i64 ok), .v (.y .u64 key), .v (.y .u64 val), .v (.y .u64 hi), .v (.y .i64 most), .v (.y .i64 fr), .v (.y .i64 to), .v (.yb ov), .v (.y .i64 rk), .v (.y .u64 rv), .rows nl q [.int .u64 a0, .int .u64 a1]]] .sc (.v (.yb (dnR (fullE ov ok rk rv q a0 a1) ov (sameRes (tdK n k key) (tdV n k v key) 0 (λ _ => 0) (λ _ => 0) rk rv q a0 a1)))) [dMdn (fullE ov ok rk rv q a0 a1) ok nk nv n k v key val]
def frN (n : Nat) (k : Nat -> Int) (x : Int) : Nat := n - pI n k x
def frC (n : Nat) (k : Nat -> Int) (x : Int) (c : Nat -> Int) (p : Nat) : Int := c (pI n k x + p)
def prFr (n : Nat) (k : Nat -> Int) (x : Int) (i : Nat) : Prop := i <= frN n k x
def mFr (n : Nat) (k : Nat -> Int) (x : Int) (i : Nat) : Nat := frN n k x - i
def annFr (n : Nat) (k v : Nat -> Int) (x : Int) (b : Nat) : Option (St -> LoopA) :=
 match b with
 | 0 => some λ z => { ι := Nat, tms := [5, 8], tmU := λ i => [.ysl false (yNeq i 0) z.h.nx 2 0 i, .y .i64 (yInt (yNadd (pI n k x) i))], ids := [z.h.nx], hpU := λ i => [.arr false 113 2 i (colF [.int .u64 (frC n k x k), .int .u64 (frC n k x v)])], del := [], ex := 1, pre := prFr n k x, ms := mFr n k x }
 | _ => none
abbrev rFr : Sx := .fn 119 [.ptr 43 [.own 113 [.int .u64, .int .u64]]]
def goalMfr : Prop := ∀ (nk nv : Bool) (n : Nat) (k v : Nat -> Int) (x : Int), yNle n 1000000 = true -> sortB n k = true →
 wxH Try.prog (smL lMd) (annFr n k v x) 98 [sMap, .sc] [.l (dMap nk nv n k v), .v (.y .u64 x)] rFr (.l [.l [.rows (yNeq (frN n k x) 0) (frN n k x) [.int .u64 (frC n k x k), .int .u64 (frC n k x v)]]]) [dMap nk nv n k v]
abbrev sFr : Sx := .fn 119 [.ptr 43 [.ro 113 [.int .u64, .int .u64]]]
def prAs (n i : Nat) : Prop := i <= n
def mAs (n i : Nat) : Nat := n - i
def annAs (n : Nat) (k v : Nat -> Int) (b : Nat) : Option (St -> LoopA) :=
 match b with
 | 1000 => some λ z => { ι := Nat, tms := [7], tmU := λ i => [.y .i64 (yInt i)], ids := [3, z.h.nx], hpU := λ i => [.cells [.ysl false (yNeq i 0) z.h.nx 2 0 i] 43 none, .arr false 113 2 i (colF [.int .u64 k, .int .u64 v])], del := [0], ex := 1, pre := prAs n, ms := mAs n }
 | _ => none
def goalMas : Prop := ∀ (z0 z1 : Nat -> Int) (nl : Bool) (n : Nat) (k v : Nat -> Int), yNle n 1000000 = true →
 wxH Try.prog noSm (annAs n k v) 111 [.own 113 [.int .u64, .int .u64], sFr] [.rows true 0 [.int .u64 z0, .int .u64 z1], .l [.l [.rows nl n [.int .u64 k, .int .u64 v]]]] (.own 113 [.int .u64, .int .u64]) (.rows (yNeq n 0) n [.int .u64 k, .int .u64 v]) []
theorem sel_at {c : Nat -> Int} {o i p : Nat} (hp : p < i + 1) (x : Int) (hx : x = c (o + i)) : c (o + p) = ySel (yNlt p i) (c (o + p)) x := by
 rw [sel2]
 by_cases h : p < i
 . rw [if_pos h]
 . rw [if_neg h, hx, show p = i by omega]
theorem yN1 (i : Nat) : yNeq (i + 1) 0 = yAnd (yNeq i 0) (yNeq 1 0) := by rw [yAnd10]; exact decide_eq_false (by omega)
def goalMasV : Prop := (∀ (z0 z1 : Nat -> Int) (nl : Bool) (n : Nat) (k v : Nat -> Int), yNle n (nat_lit 1000000) = true -> true = true /\ (∃ (i0 : Nat), prAs n i0 /\ true = true /\ yInt i0 = (0 : Int) /\ yNeq i0 (nat_lit 0) = true /\ nat_lit 0 = nat_lit 0 /\ i0 = nat_lit 0 /\ i0 = nat_lit 0 /\ (∀ (i : Nat), Nat.succ i <= i0 -> k i = z0 i /\ v i = z1 i /\ True) /\ true = true) /\ ∀ (g : Nat -> AV) (i : Nat), prAs n i -> (yLt (yInt i) (yInt n) = true -> mst (yIn (yInt i) n) (mst (yNlt (yNadd 0 (yNat (yInt i))) n) (mst (yNeq i i) (mst (yGrow (yNadd i 1) 16) (true = true /\ ∃ (i' : Nat), prAs n i' /\ Nat.succ (mAs n i') <= mAs n i /\ true = true /\ yInt i' = yWrap .i64 (yAdd (yInt i) 1) /\ yNeq i' (nat_lit 0) = yAnd (yNeq i 0) (yNeq 1 0) /\ nat_lit 0 = nat_lit 0 /\ i' = yNadd i 1 /\ i' = yNadd i 1 /\ (∀ (i_1 : Nat), Nat.succ i_1 <= i' -> k i_1 = ySel (yNlt i_1 i) (k i_1) (k (yNadd 0 (yNat (yInt i)))) /\ v i_1 = ySel (yNlt i_1 i) (v i_1) (v (yNadd 0 (yNat (yInt i)))) /\ True) /\ true = true))))) /\ (yLt (yInt i) (yInt n) = false -> yNeq n (nat_lit 0) = yNeq i 0 /\ nat_lit 0 = nat_lit 0 /\ n = i /\ n = i /\ (∀ (i : Nat), Nat.succ i <= n -> k i = k i /\ v i = v i /\ True) /\ true = true))
theorem goalMas_eq : goalMas = goalMasV := by kernel_rfl
set_option maxHeartbeats 8000000 in
theorem goalMas_vc : goalMasV := by
 unfold goalMasV
 intro z0 z1 nl n k v hn
 have hn : n <= 1000000 := of_decide_eq_true hn
 refine ⟨rfl, ⟨0, ?_⟩, λ g i hi => ⟨λ h => ?_, λ h => ?_⟩⟩
 . repeat' apply And.intro
   all_goals first | rfl | exact Nat.zero_le _ | exact λ i hi => absurd hi (Nat.not_succ_le_zero _)
 . have h : (i : Int) < (n : Int) := yLt_t.mp h
   refine mstI (yIn_t.mpr ⟨Int.natCast_nonneg _, h⟩) (mstI (decide_eq_true (show 0 + i < n by omega)) (mstI (decide_eq_true rfl) (mstI (yGrow_t.mpr (show 4 * (i + 1) * 16 <= 140737488355328 by omega)) ?_)))
   have w1 : yInt (i + 1) = yWrap .i64 (yAdd (yInt i) 1) := by
    show ((i + 1 : Nat) : Int) = yWrap .i64 ((i : Int) + 1)
    rw [wrap64 (by omega) (by omega)]; omega
   refine ⟨rfl, i + 1, ?_⟩
   repeat' apply And.intro
   all_goals first
    | with_reducible rfl
    | exact w1
    | exact yN1 i
    | exact (show i + 1 <= n by omega)
    | (unfold mAs; omega)
    | (intro p hp
       have e1 := sel_at (c := k) (o := 0) hp (k (yNadd 0 (yNat (yInt i)))) rfl
       have e2 := sel_at (c := v) (o := 0) hp (v (yNadd 0 (yNat (yInt i)))) rfl
       rw [Nat.zero_add] at e1 e2
       exact ⟨e1, e2, trivial⟩)
    | rfl
 . have h : (n : Int) <= (i : Int) := yLt_f.mp h
   have hi : i <= n := hi
   obtain rfl : i = n := by omega
   repeat' (first | exact trivial | rfl | apply And.intro | intro _)
theorem goalMas_tt : (goalMas) = True := goalMas_eq.trans (eq_true goalMas_vc)
theorem goalMas_ok : goalMas := @ft' goalMas goalMas_tt
def goalMfr_1 (n : Nat) (k : Nat -> Int) (x : Int) (i : Nat) (v : Nat -> Int) := yLt (yInt (yNadd (pI n k x) i)) (yInt n) = true -> mst (yIn (yInt (yNadd (pI n k x) i)) n) (mst (yNlt (yNat (yInt (yNadd (pI n k x) i))) n) (mst (yIn (yInt (yNadd (pI n k x) i)) n) (mst (yNlt (yNat (yInt (yNadd (pI n k x) i))) n) (mst (yNeq i i) (mst (yGrow (yNadd i 1) 16) (true = true /\ ∃ (i' : Nat), prFr n k x i' /\ Nat.succ (mFr n k x i') <= mFr n k x i /\ true = true /\ yNeq i' (nat_lit 0) = yAnd (yNeq i 0) (yNeq 1 0) /\ nat_lit 0 = nat_lit 0 /\ i' = yNadd i 1 /\ yInt (yNadd (pI n k x) i') = yWrap .i64 (yAdd (yInt (yNadd (pI n k x) i)) 1) /\ i' = yNadd i 1 /\ (∀ (i_1 : Nat), Nat.succ i_1 <= i' -> frC n k x k i_1 = ySel (yNlt i_1 i) (frC n k x k i_1) (k (yNat (yInt (yNadd (pI n k x) i)))) /\ frC n k x v i_1 = ySel (yNlt i_1 i) (frC n k x v i_1) (v (yNat (yInt (yNadd (pI n k x) i)))) /\ True) /\ true = true))))))
def goalMfr_2 (n : Nat) (k : Nat -> Int) (x : Int) (i : Nat) (nk : Bool) (nv : Bool) (v : Nat -> Int) := yLt (yInt (yNadd (pI n k x) i)) (yInt n) = false -> nk = nk /\ n = n /\ nv = nv /\ n = n /\ yNeq (frN n k x) (nat_lit 0) = yNeq i 0 /\ nat_lit 0 = nat_lit 0 /\ frN n k x = i /\ frN n k x = i /\ (∀ (i : Nat), Nat.succ i <= frN n k x -> frC n k x k i = frC n k x k i /\ frC n k x v i = frC n k x v i /\ True) /\ n = n /\ (∀ (i : Nat), Nat.succ i <= n -> v i = v i /\ True) /\ n = n /\ (∀ (i : Nat), Nat.succ i <= n -> k i = k i /\ True) /\ true = true
def goalMfr_0 (n : Nat) (k : Nat -> Int) (x : Int) (v : Nat -> Int) (nk : Bool) (nv : Bool) := (yLt (belowN n (λ (i : Nat) => k i) x) (yInt n) = true -> mst (yIn (belowN n (λ (i : Nat) => k i) x) n) (mst (yNlt (yNat (belowN n (λ (i : Nat) => k i) x)) n) (true = true /\ (∃ (i0 : Nat), prFr n k x i0 /\ true = true /\ yNeq i0 (nat_lit 0) = true /\ i0 = nat_lit 0 /\ yInt (yNadd (pI n k x) i0) = belowN n (λ (i : Nat) => k i) x /\ i0 = nat_lit 0 /\ true = true /\ true = true) /\ ∀ (g : Nat -> AV) (i : Nat), prFr n k x i -> (goalMfr_1 n k x i v) /\ (goalMfr_2 n k x i nk nv v)))) /\ (yLt (belowN n (λ (i : Nat) => k i) x) (yInt n) = false -> true = true /\ (∃ (i0 : Nat), prFr n k x i0 /\ true = true /\ yNeq i0 (nat_lit 0) = true /\ i0 = nat_lit 0 /\ yInt (yNadd (pI n k x) i0) = belowN n (λ (i : Nat) => k i) x /\ i0 = nat_lit 0 /\ true = true /\ true = true) /\ ∀ (g : Nat -> AV) (i : Nat), prFr n k x i -> (goalMfr_1 n k x i v) /\ (goalMfr_2 n k x i nk nv v))
def goalMfrV : Prop := (∀ (nk nv : Bool) (n : Nat) (k v : Nat -> Int) (x : Int), yNle n (nat_lit 1000000) = true -> sortB n k = true -> (yLt (yInt n) (0 : Int) = true -> mst (yNle n n) (mst (yCol (CK.int .u64) n λ (i : Nat) => AV.y .u64 (k i)) (mst (yAnd (yAnd (yEq 1 1) (yEq 0 0)) (yAnd (yEq 0 (yInt n)) (yAnd (yNle n 100000000) (sortB n λ (i : Nat) => k i)))) (goalMfr_0 n k x v nk nv)))) /\ (yLt (yInt n) (0 : Int) = false -> mst (yNle n n) (mst (yCol (CK.int .u64) n λ (i : Nat) => AV.y .u64 (k i)) (mst (yAnd (yAnd (yEq 1 1) (yEq 0 0)) (yAnd (yEq (yInt n) (yInt n)) (yAnd (yNle n 100000000) (sortB n λ (i : Nat) => k i)))) (goalMfr_0 n k x v nk nv)))))
theorem goalMfr_eq : goalMfr = goalMfrV := by kernel_rfl
set_option maxHeartbeats 8000000 in
theorem goalMfr_vc : goalMfrV := by
 unfold goalMfrV goalMfr_0 goalMfr_2 goalMfr_1
 intro nk nv n k v x hn hs
 obtain ⟨f1, f2, f3, f4, f5, f6, f7, f10, f8, f9⟩ := mdFacts (x := x) (of_decide_eq_true hn) hs
 have hn : n <= 1000000 := of_decide_eq_true hn
 have hloop : ∀ (i : Nat), prFr n k x i -> i + pI n k x <= n := λ i hi => by unfold prFr frN at hi; omega
 have lp : ∀ i, prFr n k x i -> yLt (yInt (yNadd (pI n k x) i)) (yInt n) = true -> pI n k x + i < n := λ i _ h => by
  have : ((pI n k x + i : Nat) : Int) < (n : Int) := yLt_t.mp h
  omega
 have body : ∀ i, prFr n k x i -> pI n k x + i < n -> yIn (yInt (yNadd (pI n k x) i)) n = true /\ yNlt (yNat (yInt (yNadd (pI n k x) i))) n = true /\ yNeq i i = true /\ yGrow (yNadd i 1) 16 = true ∧
  prFr n k x (i + 1) /\ Nat.succ (mFr n k x (i + 1)) <= mFr n k x i /\ yInt (yNadd (pI n k x) (i + 1)) = yWrap .i64 (yAdd (yInt (yNadd (pI n k x) i)) 1) := λ i hi h => by
  refine ⟨yIn_t.mpr ⟨Int.natCast_nonneg _, by show ((pI n k x + i : Nat) : Int) < n; omega⟩, decide_eq_true h, decide_eq_true rfl, yGrow_t.mpr (show 4 * (i + 1) * 16 <= 140737488355328 by omega), ?_, ?_, ?_⟩
  . unfold prFr frN; omega
  . unfold mFr frN; omega
  . show ((pI n k x + (i + 1) : Nat) : Int) = yWrap .i64 (((pI n k x + i : Nat) : Int) + 1)
    rw [wrap64 (by omega) (by omega)]; omega
 have done : ∀ i, prFr n k x i -> yLt (yInt (yNadd (pI n k x) i)) (yInt n) = false -> frN n k x = i := λ i hi h => by
  have : (n : Int) <= ((pI n k x + i : Nat) : Int) := yLt_f.mp h
  unfold prFr frN at hi; unfold frN; omega
 refine fork_f f1 ?_
 have hb := f8
 rcases pIs_cases f8 with ⟨c0, c5, c1, c2, c3, c4⟩ | ⟨c0, c1, c2, c3, c4⟩ | ⟨c0, c1⟩
 all_goals repeat' (first | refine mstI (by assumption) ?_ | refine fork_t (by assumption) ?_ | refine fork_f (by assumption) ?_)
 all_goals
  refine ⟨rfl, ⟨0, ?_⟩, λ g i hi => ⟨λ h => ?_, λ h => ?_⟩⟩
  . repeat' apply And.intro
    all_goals first | with_reducible rfl | exact Nat.zero_le _ | exact hb.symm | rfl
  . obtain ⟨b1, b2, b3, b4, b5, b6, b7⟩ := body i hi (lp i hi h)
    repeat' (first | refine mstI (by assumption) ?_)
    refine ⟨rfl, i + 1, ?_⟩
    repeat' apply And.intro
    all_goals first
     | with_reducible rfl
     | exact b5
     | exact b6
     | exact b7
     | exact yN1 i
     | (intro p hp; exact ⟨sel_at (c := k) hp _ rfl, sel_at (c := v) hp _ rfl, trivial⟩)
     | rfl
  . obtain rfl := done i hi h
    repeat' (first | exact trivial | rfl | apply And.intro | intro _)
theorem goalMfr_tt : (goalMfr) = True := goalMfr_eq.trans (eq_true goalMfr_vc)
theorem goalMfr_ok : goalMfr := @ft' goalMfr goalMfr_tt
def goalMdnV : Prop := (∀ (nk nv : Bool) (n : Nat) (k v : Nat -> Int) (id th ok key val hi most fr to : Int) (ov : Bool) (rk rv : Int) (nl : Bool) (q : Nat) (a0 a1 : Nat -> Int), preM n n k = true -> yLe 1 ok = true -> yLe ok (3 : Int) = true -> yNle q (nat_lit 1000000) = true -> mst (yCol (CK.int .u64) q λ (i : Nat) => AV.y .u64 (a0 i)) (mst (yCol (CK.int .u64) q λ (i : Nat) => AV.y .u64 (a1 i)) (mst (yNle q 1000000) (((fullE ov ok rk rv q (λ (i : Nat) => a0 i) λ (i : Nat) => a1 i) = true -> dnR (fullE ov ok rk rv q a0 a1) ov (sameRes (tdK n k key) (tdV n k v key) 0 (λ (x : Nat) => (0 : Int)) (λ (x : Nat) => (0 : Int)) rk rv q a0 a1) = true /\ dnB (fullE ov ok rk rv q a0 a1) ok nk n k key = nk /\ dnN (fullE ov ok rk rv q a0 a1) ok n k key = n /\ dnB (fullE ov ok rk rv q a0 a1) ok nv n k key = nv /\ dnN (fullE ov ok rk rv q a0 a1) ok n k key = n /\ dnN (fullE ov ok rk rv q a0 a1) ok n k key = n /\ (∀ (i : Nat), Nat.succ i <= dnN (fullE ov ok rk rv q a0 a1) ok n k key -> dnVl (fullE ov ok rk rv q a0 a1) ok n k v key val i = v i /\ True) /\ dnN (fullE ov ok rk rv q a0 a1) ok n k key = n /\ (∀ (i : Nat), Nat.succ i <= dnN (fullE ov ok rk rv q a0 a1) ok n k key -> dnKy (fullE ov ok rk rv q a0 a1) ok n k key i = k i /\ True) /\ true = true) /\ ((fullE ov ok rk rv q (λ (i : Nat) => a0 i) λ (i : Nat) => a1 i) = false -> mst (yNeq n n) (mst (yCol (CK.int .u64) n λ (i : Nat) => AV.y .u64 (k i)) (mst (yNeq n n) (mst (yCol (CK.int .u64) n λ (i : Nat) => AV.y .u64 (v i)) (mst (yAnd (preM n n λ (i : Nat) => k i) (yAnd (yLe 1 ok) (yLe ok 3))) ((yNot ov = true -> dnR (fullE ov ok rk rv q a0 a1) ov (sameRes (tdK n k key) (tdV n k v key) 0 (λ (x : Nat) => (0 : Int)) (λ (x : Nat) => (0 : Int)) rk rv q a0 a1) = true /\ dnB (fullE ov ok rk rv q a0 a1) ok nk n k key = doB ok nk n (λ (i : Nat) => k i) key /\ dnN (fullE ov ok rk rv q a0 a1) ok n k key = doN ok n (λ (i : Nat) => k i) key /\ dnB (fullE ov ok rk rv q a0 a1) ok nv n k key = doB ok nv n (λ (i : Nat) => k i) key /\ dnN (fullE ov ok rk rv q a0 a1) ok n k key = doN ok n (λ (i : Nat) => k i) key /\ dnN (fullE ov ok rk rv q a0 a1) ok n k key = doN ok n (λ (i : Nat) => k i) key /\ (∀ (i : Nat), Nat.succ i <= dnN (fullE ov ok rk rv q a0 a1) ok n k key -> dnVl (fullE ov ok rk rv q a0 a1) ok n k v key val i = doVl ok n (λ (i : Nat) => k i) (λ (i : Nat) => v i) key val i /\ True) /\ dnN (fullE ov ok rk rv q a0 a1) ok n k key = doN ok n (λ (i : Nat) => k i) key /\ (∀ (i : Nat), Nat.succ i <= dnN (fullE ov ok rk rv q a0 a1) ok n k key -> dnKy (fullE ov ok rk rv q a0 a1) ok n k key i = doKy ok n (λ (i : Nat) => k i) key i /\ True) /\ true = true) /\ (yNot ov = false -> mst (yNle (yNadd 0 0) 0) (mst (yCol (CK.int .u64) 0 λ (i : Nat) => AV.y .u64 0) (mst (yCol (CK.int .u64) 0 λ (i : Nat) => AV.y .u64 0) (mst (yCol (CK.int .u64) q λ (i : Nat) => AV.y .u64 (a0 i)) (mst (yCol (CK.int .u64) q λ (i : Nat) => AV.y .u64 (a1 i)) (mst (yNle 0 1000000) ((dnR (fullE ov ok rk rv q a0 a1) ov (sameRes (tdK n k key) (tdV n k v key) 0 (λ (x : Nat) => (0 : Int)) (λ (x : Nat) => (0 : Int)) rk rv q a0 a1) = sameRes (tdK n (λ (i : Nat) => k i) key) (tdV n (λ (i : Nat) => k i) (λ (i : Nat) => v i) key) 0 (λ (i : Nat) => (0 : Int)) (λ (i : Nat) => (0 : Int)) rk rv q (λ (i : Nat) => a0 i) λ (i : Nat) => a1 i) /\ dnB (fullE ov ok rk rv q a0 a1) ok nk n k key = doB ok nk n (λ (i : Nat) => k i) key /\ dnN (fullE ov ok rk rv q a0 a1) ok n k key = doN ok n (λ (i : Nat) => k i) key /\ dnB (fullE ov ok rk rv q a0 a1) ok nv n k key = doB ok nv n (λ (i : Nat) => k i) key /\ dnN (fullE ov ok rk rv q a0 a1) ok n k key = doN ok n (λ (i : Nat) => k i) key /\ dnN (fullE ov ok rk rv q a0 a1) ok n k key = doN ok n (λ (i : Nat) => k i) key /\ (∀ (i : Nat), Nat.succ i <= dnN (fullE ov ok rk rv q a0 a1) ok n k key -> dnVl (fullE ov ok rk rv q a0 a1) ok n k v key val i = doVl ok n (λ (i : Nat) => k i) (λ (i : Nat) => v i) key val i /\ True) /\ dnN (fullE ov ok rk rv q a0 a1) ok n k key = doN ok n (λ (i : Nat) => k i) key /\ (∀ (i : Nat), Nat.succ i <= dnN (fullE ov ok rk rv q a0 a1) ok n k key -> dnKy (fullE ov ok rk rv q a0 a1) ok n k key i = doKy ok n (λ (i : Nat) => k i) key i /\ True) /\ true = true)))))))))))))))))
theorem goalMdn_eq : goalMdn = goalMdnV := by kernel_rfl
set_option maxHeartbeats 8000000 in
theorem goalMdn_vc : goalMdnV := by
 unfold goalMdnV
 intro nk nv n k v id th ok key val hi most fr to ov rk rv nl q a0 a1 hp h1 h3 hq
 have a1' : (yCol (CK.int .u64) q λ (i : Nat) => AV.y .u64 (a0 i)) = true := yCol_int
 have a2' : (yCol (CK.int .u64) q λ (i : Nat) => AV.y .u64 (a1 i)) = true := yCol_int
 have a3 : (yCol (CK.int .u64) n λ (i : Nat) => AV.y .u64 (k i)) = true := yCol_int
 have a4 : (yCol (CK.int .u64) n λ (i : Nat) => AV.y .u64 (v i)) = true := yCol_int
 have a5 : yNeq n n = true := decide_eq_true rfl
 have a6 : yAnd (preM n n k) (yAnd (yLe 1 ok) (yLe ok 3)) = true := by rw [hp, h1, h3]; rfl
 have hS : ∀ c, sameRes (tdK n k key) (tdV n k v key) 0 (λ _ => 0) (λ _ => 0) rk rv q a0 a1 = c -> dnR false true (sameRes (tdK n k key) (tdV n k v key) 0 (λ _ => 0) (λ _ => 0) rk rv q a0 a1) = c := λ c h => by rw [h]; cases c <;> rfl
 cases c0 : fullE ov ok rk rv q a0 a1 <;> cases ov
 all_goals repeat' (first | refine mstI (by first | assumption | rfl) ?_ | refine fork_t (by first | assumption | rfl) ?_ | refine fork_f (by first | assumption | rfl) ?_)
 all_goals repeat' (first | exact trivial | rfl | apply And.intro | intro _ | exact hS _ rfl)
theorem goalMdn_tt : (goalMdn) = True := goalMdn_eq.trans (eq_true goalMdn_vc)
theorem goalMdn_ok : goalMdn := @ft' goalMdn goalMdn_tt
def fMdn (ds : List Dx) : Option (Bool × Dx × List (List Dx)) :=
 match ds with
 | [.l [.rows nk n [.int .u64 k], .rows nv m [.int .u64 v]], .l [.v (.y .i64 _), .v (.y .i64 _), .v (.y .i64 ok), .v (.y .u64 key), .v (.y .u64 val), .v (.y .u64 _), .v (.y .i64 _), .v (.y .i64 _), .v (.y .i64 _), .v (.yb ov), .v (.y .i64 rk), .v (.y .u64 rv), .rows _ q [.int .u64 a0, .int .u64 a1]]] =>
   some (yAnd (preM n m k) (yAnd (yLe 1 ok) (yAnd (yLe ok 3) (yNle q 1000000))), .v (.yb (dnR (fullE ov ok rk rv q a0 a1) ov (sameRes (tdK n k key) (tdV n k v key) 0 (λ _ => 0) (λ _ => 0) rk rv q a0 a1))), [dMdn (fullE ov ok rk rv q a0 a1) ok nk nv n k v key val])
 | _ => none
theorem smMdn (hm : Try.prog.follows .mixedOrders = true) (hs : SmOK Try.prog (smL lMf)) : SmCall Try.prog 74 (λ args h => (ctX [sMap, sCaP] .sc fMdn args h).sel) :=
 ctX_ok hm hs (λ ds r post h => by
  unfold fMdn at h
  split at h
  . rename_i nk n k nv m v id th ok key val hi most fr to ov rk rv nl q a0 a1
    simp only [sI, Prod.mk.injEq] at h
    obtain ⟨h1, rfl, rfl⟩ := h
    obtain ⟨h1, h3⟩ := yAnd_t.mp h1
    obtain ⟨h3, h4⟩ := yAnd_t.mp h3
    obtain ⟨h4, h5⟩ := yAnd_t.mp h4
    obtain ⟨rfl, k1, k3⟩ := preM_t h1
    have h2 := @goalMdn_ok
    unfold goalMdn at h2
    exact ⟨_, 1000, @h2 nk nv n k v id th ok key val hi most fr to ov rk rv nl q a0 a1 h1 h3 h4 h5⟩
  . cases h)
def fMfr (ds : List Dx) : Option (Bool × Dx × List (List Dx)) :=
 match ds with
 | [.l [.rows nk n [.int .u64 k], .rows nv m [.int .u64 v]], .v (.y .u64 x)] => some (preM n m k, .l [.l [.rows (yNeq (frN n k x) 0) (frN n k x) [.int .u64 (frC n k x k), .int .u64 (frC n k x v)]]], [dMap nk nv n k v])
 | _ => none
theorem smMfr (hm : Try.prog.follows .mixedOrders = true) (hs : SmOK Try.prog (smL lMd)) : SmCall Try.prog 98 (λ args h => (ctX [sMap, .sc] rFr fMfr args h).sel) :=
 ctX_ok hm hs (λ ds r post h => by
  unfold fMfr at h
  split at h
  . rename_i nk n k nv m v x
    simp only [sI, Prod.mk.injEq] at h
    obtain ⟨h1, rfl, rfl⟩ := h
    obtain ⟨rfl, h1, h3⟩ := preM_t h1
    have h2 := @goalMfr_ok
    unfold goalMfr at h2
    exact ⟨annFr n k v x, 1000, @h2 nk nv n k v x h1 h3⟩
  . cases h)
abbrev sAs : List Sx := [.own 113 [.int .u64, .int .u64], sFr]
def fMas (ds : List Dx) : Option (Bool × Dx × List (List Dx)) :=
 match ds with
 | [.rows nl0 n0 [.int .u64 _, .int .u64 _], .l [.l [.rows _ n [.int .u64 k, .int .u64 v]]]] => some (yAnd nl0 (yAnd (yNeq n0 0) (yNle n 1000000)), .rows (yNeq n 0) n [.int .u64 k, .int .u64 v], [])
 | _ => none
theorem smMas (hm : Try.prog.follows .mixedOrders = true) : SmCall Try.prog 111 (λ args h => (ctX sAs (.own 113 [.int .u64, .int .u64]) fMas args h).sel) :=
 ctX_ok hm noSm_ok (λ ds r post h => by
  unfold fMas at h
  split at h
  . rename_i nl0 n0 z0 z1 nl n k v
    simp only [sI, Prod.mk.injEq] at h
    obtain ⟨h1, rfl, rfl⟩ := h
    obtain ⟨q1, q2⟩ := yAnd_t.mp h1
    obtain ⟨q3, h3⟩ := yAnd_t.mp q2
    obtain rfl : n0 = 0 := of_decide_eq_true q3
    subst q1
    have h2 := @goalMas_ok
    unfold goalMas at h2
    exact ⟨annAs n k v, 1000, @h2 z0 z1 nl n k v h3⟩
  . cases h)
def lPs : List (Nat × Sm) := [(98, .ct (ctX [sMap, .sc] rFr fMfr)), (111, .ct (ctX sAs (.own 113 [.int .u64, .int .u64]) fMas))]
abbrev rPs : Sx := .own 113 [.int .u64, .int .u64]
abbrev dPs (n : Nat) (k v : Nat -> Int) : Dx := .rows (yNeq (frN n k 0) 0) (frN n k 0) [.int .u64 (frC n k 0 k), .int .u64 (frC n k 0 v)]
def goalMps : Prop := ∀ (nk nv : Bool) (n : Nat) (k v : Nat -> Int), preM n n k = true →
 wxH Try.prog (smL lPs) (λ _ => none) 75 [sMap] [.l (dMap nk nv n k v)] rPs (dPs n k v) [dMap nk nv n k v]
def goalMpsV : Prop := (∀ (nk nv : Bool) (n : Nat) (k v : Nat -> Int), preM n n k = true -> mst (yNeq n n) (mst (yCol (CK.int .u64) n λ (i : Nat) => AV.y .u64 (k i)) (mst (yNeq n n) (mst (yCol (CK.int .u64) n λ (i : Nat) => AV.y .u64 (v i)) (mst (preM n n λ (i : Nat) => k i) (mst (yNle (yNadd 0 (frN n (λ (i : Nat) => k i) 0)) (frN n (λ (i : Nat) => k i) 0)) (mst (yCol (CK.int .u64) (frN n (λ (i : Nat) => k i) 0) λ (i : Nat) => AV.y .u64 (frC n (λ (i : Nat) => k i) 0 (λ (i : Nat) => k i) i)) (mst (yCol (CK.int .u64) (frN n (λ (i : Nat) => k i) 0) λ (i : Nat) => AV.y .u64 (frC n (λ (i : Nat) => k i) 0 (λ (i : Nat) => v i) i)) (mst (yAnd true (yAnd (yNeq 0 0) (yNle (frN n (λ (i : Nat) => k i) 0) 1000000))) (yNeq (frN n k 0) (nat_lit 0) = yNeq (frN n (λ (i : Nat) => k i) 0) 0 /\ nat_lit 0 = nat_lit 0 /\ frN n k (0 : Int) = frN n (λ (i : Nat) => k i) 0 /\ nk = nk /\ n = n /\ nv = nv /\ n = n /\ frN n k (0 : Int) = frN n (λ (i : Nat) => k i) 0 /\ (∀ (i : Nat), Nat.succ i <= frN n k 0 -> frC n k 0 k i = frC n (λ (i : Nat) => k i) 0 (λ (i : Nat) => k i) i /\ frC n k 0 v i = frC n (λ (i : Nat) => k i) 0 (λ (i : Nat) => v i) i /\ True) /\ n = n /\ (∀ (i : Nat), Nat.succ i <= n -> v i = v i /\ True) /\ n = n /\ (∀ (i : Nat), Nat.succ i <= n -> k i = k i /\ True) /\ true = true))))))))))
theorem goalMps_eq : goalMps = goalMpsV := by kernel_rfl
set_option maxHeartbeats 8000000 in
theorem goalMps_vc : goalMpsV := by
 unfold goalMpsV
 intro nk nv n k v hp
 have a1 : (yCol (CK.int .u64) n λ (i : Nat) => AV.y .u64 (k i)) = true := yCol_int
 have a2 : (yCol (CK.int .u64) n λ (i : Nat) => AV.y .u64 (v i)) = true := yCol_int
 have hle : frN n k 0 <= 1000000 := by
  have := (preM_t hp).2.1
  have : n <= 1000000 := of_decide_eq_true this
  unfold frN; omega
 refine mstI (decide_eq_true rfl) (mstI a1 (mstI (decide_eq_true rfl) (mstI a2 (mstI hp (mstI (decide_eq_true (show 0 + frN n k 0 <= frN n k 0 by omega)) (mstI yCol_int (mstI yCol_int (mstI ?_ ?_))))))))
 . show yAnd true (yAnd (yNeq 0 0) (yNle (frN n k 0) 1000000)) = true
   rw [show yNle (frN n k 0) 1000000 = true from decide_eq_true hle]; rfl
 . repeat' (first | exact trivial | rfl | apply And.intro | intro _)
theorem goalMps_tt : (goalMps) = True := goalMps_eq.trans (eq_true goalMps_vc)
theorem goalMps_ok : goalMps := @ft' goalMps goalMps_tt
def fMps (ds : List Dx) : Option (Bool × Dx × List (List Dx)) :=
 match ds with
 | [.l [.rows nk n [.int .u64 k], .rows nv m [.int .u64 v]]] => some (preM n m k, dPs n k v, [dMap nk nv n k v])
 | _ => none
theorem smMps (hm : Try.prog.follows .mixedOrders = true) (hs : SmOK Try.prog (smL lPs)) : SmCall Try.prog 75 (λ args h => (ctX [sMap] rPs fMps args h).sel) :=
 ctX_ok hm hs (λ ds r post h => by
  unfold fMps at h
  split at h
  . rename_i nk n k nv m v
    simp only [sI, Prod.mk.injEq] at h
    obtain ⟨h1, rfl, rfl⟩ := h
    obtain ⟨rfl, k1, k3⟩ := preM_t h1
    have h2 := @goalMps_ok
    unfold goalMps at h2
    exact ⟨_, 1000, @h2 nk nv n k v h1⟩
  . cases h)
structure MpS where
 nk : Bool
 nv : Bool
 n : Nat
 k : Nat -> Int
 v : Nat -> Int
instance : Inhabited MpS := ⟨⟨true, true, 0, λ _ => 0, λ _ => 0⟩⟩
def cFl (E : EvS) (n g : Nat) : Bool := fullE (cOv (gEn E n g)) (eOk E (gEv E n g)) (cRk E (gEn E n g)) (cRv E (gEn E n g)) (cPn E (gEn E n g)) (cPk E (gEn E n g)) (cPv E (gEn E n g))
def stepM (E : EvS) (n g : Nat) (m : MpS) : MpS :=
 ⟨dnB (cFl E n g) (eOk E (gEv E n g)) m.nk m.n m.k (eKey E (gEv E n g)), dnB (cFl E n g) (eOk E (gEv E n g)) m.nv m.n m.k (eKey E (gEv E n g)), dnN (cFl E n g) (eOk E (gEv E n g)) m.n m.k (eKey E (gEv E n g)), dnKy (cFl E n g) (eOk E (gEv E n g)) m.n m.k (eKey E (gEv E n g)), dnVl (cFl E n g) (eOk E (gEv E n g)) m.n m.k m.v (eKey E (gEv E n g)) (eVal E (gEv E n g))⟩
def aS (E : EvS) (n : Nat) (o : Nat -> Int) : Nat -> MpS
 | 0 => ⟨true, true, 0, λ _ => 0, λ _ => 0⟩
 | i + 1 => if bkP E n (resN E n) (o i) = true then stepM E n (bkG (o i)) (aS E n o i) else aS E n o i
def aNk (E : EvS) (n : Nat) (o : Nat -> Int) (i : Nat) : Bool := (aS E n o i).nk
def aNv (E : EvS) (n : Nat) (o : Nat -> Int) (i : Nat) : Bool := (aS E n o i).nv
def aN (E : EvS) (n : Nat) (o : Nat -> Int) (i : Nat) : Nat := (aS E n o i).n
def aK (E : EvS) (n : Nat) (o : Nat -> Int) (i p : Nat) : Int := (aS E n o i).k p
def aV (E : EvS) (n : Nat) (o : Nat -> Int) (i p : Nat) : Int := (aS E n o i).v p
def prAf (m i : Nat) : Prop := i <= m
def mAf (m i : Nat) : Nat := m - i
def ptI (z : St) (t : Nat) : Nat := match z.tm.get (t + 1) with | some (.ptr id _) => id | _ => 0
def annAf (E : EvS) (n : Nat) (o : Nat -> Int) (m : Nat) (b : Nat) : Option (St -> LoopA) :=
 match b with
 | 0 => some λ z => { ι := Nat, tms := [16], tmU := λ i => [.y .i64 (yInt i)], ids := [ptI z 6, z.h.nx, Nat.succ z.h.nx], hpU := λ i => [.cells [.yr (aNk E n o i) z.h.nx 1 (aN E n o i), .yr (aNv E n o i) (Nat.succ z.h.nx) 1 (aN E n o i)] 166 none, .arr false 34 1 (aN E n o i) (colF [.int .u64 (aK E n o i)]), .arr false 34 1 (aN E n o i) (colF [.int .u64 (aV E n o i)])], del := [], ex := 2, pre := prAf m, ms := mAf m }
 | _ => none
def lAf : List (Nat × Sm) := [(72, .ct (ctX [sEv] rBk fBk)), (74, .ct (ctX [sMap, sCaP] .sc fMdn)), (75, .ct (ctX [sMap] rPs fMps))]
abbrev sIn : Sx := .ro 3 [.int .i64]
abbrev rPp : Sx := .pl [.int .u64, .int .u64]
def goalAf : Prop := ∀ (E : EvS) (nil : Bool) (n : Nat) (nilO : Bool) (m : Nat) (o : Nat -> Int), preE E n = true -> wfE E n = true -> yNle m 1000 = true →
 wxH Try.prog (smL lAf) (annAf E n o m) 51 [sEv, sIn] [.rows nil n (colsE E), .rows nilO m [.int .i64 o]] rPp (dPs (aN E n o m) (aK E n o m) (aV E n o m)) []
def Srt (n : Nat) (k : Nat -> Int) : Prop := ∀ i j, j < i -> i < n -> k j < k i
theorem sortB_iff {n : Nat} {k : Nat -> Int} : sortB n k = true ↔ Srt n k := by
 unfold sortB Srt
 constructor
 . intro h i j h1 h2
   have := List.all_eq_true.1 h i (List.mem_range.2 h2)
   simpa using List.all_eq_true.1 this j (List.mem_range.2 h1)
 . intro h
   refine List.all_eq_true.2 λ i hi => List.all_eq_true.2 λ j hj => ?_
   simpa using h i j (List.mem_range.1 hj) (List.mem_range.1 hi)
theorem Srt.lo {k : Nat -> Int} {x : Int} : ∀ {n : Nat}, Srt n k -> ∃ lo, lo <= n /\ (∀ j, j < lo -> k j < x) /\ ∀ j, lo <= j -> j < n -> x <= k j
 | 0, _ => ⟨0, Nat.le_refl _, λ j hj => by omega, λ j _ hj => by omega⟩
 | n + 1, h => by
   obtain ⟨lo, h1, h2, h3⟩ := Srt.lo (x := x) (n := n) (λ i j a b => h i j a (by omega))
   by_cases hlt : lo < n
   . refine ⟨lo, by omega, h2, λ j hj hjn => ?_⟩
     by_cases hj2 : j < n
     . exact h3 j hj hj2
     . obtain rfl : j = n := by omega
       have := h3 lo (Nat.le_refl _) hlt
       have := h j lo hlt (by omega)
       omega
   . obtain rfl : lo = n := by omega
     by_cases hx : k lo < x
     . exact ⟨lo + 1, Nat.le_refl _, λ j hj => by
        by_cases e : j = lo
        . subst e; exact hx
        . exact h2 j (by omega), λ j a b => by omega⟩
     . refine ⟨lo, by omega, h2, λ j a b => ?_⟩
       have e : j = lo := by omega
       rw [e]; exact Int.not_lt.1 hx
theorem pI_spec {n : Nat} {k : Nat -> Int} (x : Int) (h : Srt n k) : pI n k x <= n /\ (∀ j, j < pI n k x -> k j < x) /\ ∀ j, pI n k x <= j -> j < n -> x <= k j := by
 obtain ⟨lo, h1, h2, h3⟩ := h.lo (x := x)
 have : pI n k x = lo := by unfold pI; rw [below_eq h1 h2 h3]; rfl
 rw [this]; exact ⟨h1, h2, h3⟩
theorem pIs_t {n : Nat} {k : Nat -> Int} {x : Int} : pIs n k x = true ↔ pI n k x < n /\ k (pI n k x) = x := decide_eq_true_iff
theorem srt_pt {n : Nat} {k : Nat -> Int} (x : Int) (h : Srt n k) : Srt (ptN n k x) (ptK n k x) := by
 obtain ⟨h1, h2, h3⟩ := pI_spec x h
 unfold ptN ptK
 by_cases hi : pIs n k x = true
 . simp only [if_pos hi]; exact h
 . simp only [if_neg hi]
   have hne : pI n k x < n -> k (pI n k x) ≠ x := λ a b => hi (pIs_t.2 ⟨a, b⟩)
   intro i j hj hin
   show (if j < pI n k x then k j else if j = pI n k x then x else k (j - 1)) < (if i < pI n k x then k i else if i = pI n k x then x else k (i - 1))
   by_cases a : i < pI n k x
   . rw [if_pos a, if_pos (by omega)]; exact h i j hj (by omega)
   . rw [if_neg a]
     by_cases b : i = pI n k x
     . rw [if_pos b, if_pos (by omega)]; exact h2 j (by omega)
     . rw [if_neg b]
       have hp : pI n k x < n := by omega
       have hx := h3 (pI n k x) (Nat.le_refl _) hp
       have hx2 := hne hp
       by_cases c : j < pI n k x
       . rw [if_pos c]; exact h (i - 1) j (by omega) (by omega)
       . rw [if_neg c]
         by_cases d : j = pI n k x
         . rw [if_pos d]
           by_cases e : i - 1 = pI n k x
           . rw [e]; omega
           . have := h (i - 1) (pI n k x) (by omega) (by omega); omega
         . rw [if_neg d]; exact h (i - 1) (j - 1) (by omega) (by omega)
theorem srt_dr {n : Nat} {k : Nat -> Int} (x : Int) (h : Srt n k) : Srt (drN n k x) (drK n k k x) := by
 unfold drN drK
 by_cases hi : pIs n k x = true
 . simp only [if_pos hi]
   have hp := (pIs_t.1 hi).1
   intro i j hj hin
   show (if j < pI n k x then k j else k (j + 1)) < (if i < pI n k x then k i else k (i + 1))
   by_cases a : i < pI n k x
   . rw [if_pos a, if_pos (by omega)]; exact h i j hj (by omega)
   . rw [if_neg a]
     by_cases c : j < pI n k x
     . rw [if_pos c]; exact h (i + 1) j (by omega) (by omega)
     . rw [if_neg c]; exact h (i + 1) (j + 1) (by omega) (by omega)
 . simp only [if_neg hi]; exact h
theorem srt_dn {n : Nat} {k : Nat -> Int} (fl : Bool) (kd x : Int) (h : Srt n k) : Srt (dnN fl kd n k x) (dnKy fl kd n k x) /\ dnN fl kd n k x <= n + 1 := by
 have hd : dnN fl kd n k x <= n + 1 := by
  unfold dnN doN ptN drN
  repeat' split
  all_goals omega
 refine ⟨?_, hd⟩
 unfold dnN dnKy doN doKy
 by_cases a : fl = true
 . simp only [if_pos a]; exact h
 . simp only [if_neg a]
   by_cases b : kd = 2
   . simp only [if_pos b]; exact srt_pt x h
   . simp only [if_neg b]
     by_cases c : kd = 3
     . simp only [if_pos c]; exact srt_dr x h
     . simp only [if_neg c]; exact h
theorem aInv (E : EvS) (n : Nat) (o : Nat -> Int) : ∀ i, Srt (aS E n o i).n (aS E n o i).k /\ (aS E n o i).n <= i
 | 0 => ⟨λ i j _ h => absurd h (Nat.not_lt_zero _), Nat.le_refl _⟩
 | i + 1 => by
   obtain ⟨h1, h2⟩ := aInv E n o i
   show Srt (MpS.n (if _ then _ else _)) (MpS.k (if _ then _ else _)) /\ MpS.n (if _ then _ else _) <= i + 1
   by_cases h : bkP E n (resN E n) (o i) = true
   . rw [if_pos h]
     obtain ⟨a, b⟩ := srt_dn (cFl E n (bkG (o i))) (eOk E (gEv E n (bkG (o i)))) (eKey E (gEv E n (bkG (o i)))) h1
     exact ⟨a, by show dnN _ _ _ _ _ <= _; omega⟩
   . rw [if_neg h]; exact ⟨h1, by omega⟩
theorem gRightS (E : EvS) : ∀ i, ∀ j, j < (gS E i).n -> rightE (eOk E ((gS E i).ev j)) (eMost E ((gS E i).ev j)) = true
 | 0, j, hj => absurd hj (Nat.not_lt_zero _)
 | i + 1, j, hj => by
   have ih := gRightS E i
   revert hj
   show j < (bif (gS E i).ok then gs1 E i (gS E i) else gS E i).n -> rightE (eOk E ((bif (gS E i).ok then gs1 E i (gS E i) else gS E i).ev j)) (eMost E ((bif (gS E i).ok then gs1 E i (gS E i) else gS E i).ev j)) = true
   cases hok : (gS E i).ok with
   | false => exact ih j
   | true =>
     rw [cond_true]
     rcases gs1_cases E i (gS E i) with h | ⟨h2, h1, h3⟩ | ⟨h3, h1, h4⟩
     . rw [h]; exact ih j
     . rw [gs1_t2 h1 h2 h3]
       intro hj
       show rightE (eOk E (if j = (gS E i).n then i else (gS E i).ev j)) (eMost E (if j = (gS E i).n then i else (gS E i).ev j)) = true
       by_cases hjn : j = (gS E i).n
       . rw [if_pos hjn]
         cases hr : rightE (eOk E i) (eMost E i) with
         | true => rfl
         | false => exact absurd (.inr (.inr (.inl hr))) h3
       . rw [if_neg hjn]
         have hj : j < (gS E i).n + 1 := hj
         exact ih j (by omega)
     . rw [gs1_t3 h1 (by omega) h3 h4]; exact ih j
theorem gRight {E : EvS} {n g : Nat} (h : g < resN E n) : rightE (eOk E (gEv E n g)) (eMost E (gEv E n g)) = true := by
 refine gRightS E n g ?_
 unfold resN at h
 cases hk : gOk E n <;> rw [hk] at h
 . exact absurd h (Nat.not_lt_zero _)
 . exact h
theorem bkP_t {E : EvS} {n i : Nat} {x : Int} : bkP E n i x = true ↔ (1 <= x /\ x <= i /\ eOk E (gEv E n (bkG x)) ≠ 4) := decide_eq_true_iff
theorem bk_kind {E : EvS} {n : Nat} {x : Int} (h : bkP E n (resN E n) x = true) : bkG x < resN E n /\ yLe 1 (eOk E (gEv E n (bkG x))) = true /\ yLe (eOk E (gEv E n (bkG x))) 3 = true := by
 obtain ⟨h1, h2, h3⟩ := bkP_t.1 h
 have hg : bkG x < resN E n := by unfold bkG; omega
 have hr := gRight hg
 unfold rightE at hr
 rw [show yEq (eOk E (gEv E n (bkG x))) 4 = false from decide_eq_false h3, cond_false] at hr
 exact ⟨hg, (yAnd_t.mp hr).1, (yAnd_t.mp hr).2⟩
theorem cPn_le {E : EvS} {n : Nat} (h : preE E n = true) (g : Nat) : cPn E (gEn E n g) <= 50 := by
 have h1 := gEn_le E n g
 have h2 := (of_decide_eq_true h).2
 unfold cPn
 cases hg : gEn E n g with
 | zero => exact Nat.zero_le _
 | succ e => exact h2 e (by omega)
def goalAf_1 (E : EvS) (n : Nat) (o : Nat -> Int) (i : Nat) := eOk E (gEv E n (bkG (o (yNadd 0 (yNat (yInt i))))))
def goalAf_0 (E : EvS) (n : Nat) (o : Nat -> Int) (i : Nat) := fullE (cOv (gEn E n (bkG (o (yNadd 0 (yNat (yInt i))))))) (goalAf_1 E n o i) (cRk E (gEn E n (bkG (o (yNadd 0 (yNat (yInt i))))))) (cRv E (gEn E n (bkG (o (yNadd 0 (yNat (yInt i))))))) (cPn E (gEn E n (bkG (o (yNadd 0 (yNat (yInt i))))))) (λ (i_1 : Nat) => cPk E (gEn E n (bkG (o (yNadd 0 (yNat (yInt i)))))) i_1) λ (i_1 : Nat) => cPv E (gEn E n (bkG (o (yNadd 0 (yNat (yInt i)))))) i_1
def goalAf_2 (E : EvS) (n : Nat) (o : Nat -> Int) (i : Nat) := fullE (cOv (gEn E n (bkG (o (yNadd 0 (yNat (yInt i))))))) (goalAf_1 E n o i) (cRk E (gEn E n (bkG (o (yNadd 0 (yNat (yInt i))))))) (cRv E (gEn E n (bkG (o (yNadd 0 (yNat (yInt i))))))) (cPn E (gEn E n (bkG (o (yNadd 0 (yNat (yInt i))))))) (λ (i_2 : Nat) => cPk E (gEn E n (bkG (o (yNadd 0 (yNat (yInt i)))))) i_2) λ (i_2 : Nat) => cPv E (gEn E n (bkG (o (yNadd 0 (yNat (yInt i)))))) i_2
def goalAf_3 (E : EvS) (n : Nat) (o : Nat -> Int) (i : Nat) := eKey E (gEv E n (bkG (o (yNadd 0 (yNat (yInt i))))))
def goalAfV : Prop := (∀ (E : EvS) (nil : Bool) (n : Nat) (nilO : Bool) (m : Nat) (o : Nat -> Int), preE E n = true -> wfE E n = true -> yNle m (nat_lit 1000) = true -> mst (yCol (CK.int .i64) n λ (i : Nat) => AV.y .i64 (eKd E i)) (mst (yCol (CK.int .i64) n λ (i : Nat) => AV.y .i64 (eTh E i)) (mst (yCol (CK.int .i64) n λ (i : Nat) => AV.y .i64 (eId E i)) (mst (yCol (CK.int .i64) n λ (i : Nat) => AV.y .i64 (eAt E i)) (mst (yCol (CK.int .i64) n λ (i : Nat) => AV.y .i64 (eOk E i)) (mst (yCol (CK.int .u64) n λ (i : Nat) => AV.y .u64 (eKey E i)) (mst (yCol (CK.int .u64) n λ (i : Nat) => AV.y .u64 (eVal E i)) (mst (yCol (CK.int .u64) n λ (i : Nat) => AV.y .u64 (eHi E i)) (mst (yCol (CK.int .i64) n λ (i : Nat) => AV.y .i64 (eMost E i)) (mst (yCol (CK.int .i64) n λ (i : Nat) => AV.y .i64 (eRk E i)) (mst (yCol (CK.int .u64) n λ (i : Nat) => AV.y .u64 (eRv E i)) (mst (yCol (CK.ls [K1.int .u64, K1.int .u64]) n λ (i : Nat) => AV.lst false (eNil E i) 2 (ePn E i) (cl2F [Cl2.int .u64 (ePk E), Cl2.int .u64 (ePv E)] i)) (mst (yAnd (preE E n) (wfE E n)) (true = true /\ (∃ (i0 : Nat), prAf m i0 /\ true = true /\ yInt i0 = (0 : Int) /\ aNk E n o i0 = true /\ aN E n o i0 = nat_lit 0 /\ aNv E n o i0 = true /\ aN E n o i0 = nat_lit 0 /\ aN E n o i0 = nat_lit 0 /\ aN E n o i0 = nat_lit 0 /\ true = true /\ true = true /\ true = true) /\ ∀ (g : Nat -> AV) (i : Nat), prAf m i -> (yLt (yInt i) (yInt m) = true -> mst (yIn (yInt i) m) (mst (yNlt (yNadd 0 (yNat (yInt i))) m) ((bkP E n (resN E n) (o (yNadd 0 (yNat (yInt i)))) = true -> mst (yNeq (aN E n o i) (aN E n o i)) (mst (yCol (CK.int .u64) (aN E n o i) λ (i_1 : Nat) => AV.y .u64 (aK E n o i i_1)) (mst (yNeq (aN E n o i) (aN E n o i)) (mst (yCol (CK.int .u64) (aN E n o i) λ (i_1 : Nat) => AV.y .u64 (aV E n o i i_1)) (mst (yCol (CK.int .u64) (cPn E (gEn E n (bkG (o (yNadd 0 (yNat (yInt i))))))) λ (i_1 : Nat) => AV.y .u64 (cPk E (gEn E n (bkG (o (yNadd 0 (yNat (yInt i)))))) i_1)) (mst (yCol (CK.int .u64) (cPn E (gEn E n (bkG (o (yNadd 0 (yNat (yInt i))))))) λ (i_1 : Nat) => AV.y .u64 (cPv E (gEn E n (bkG (o (yNadd 0 (yNat (yInt i)))))) i_1)) (mst (yAnd (preM (aN E n o i) (aN E n o i) λ (i_1 : Nat) => aK E n o i i_1) (yAnd (yLe 1 (goalAf_1 E n o i)) (yAnd (yLe (goalAf_1 E n o i) 3) (yNle (cPn E (gEn E n (bkG (o (yNadd 0 (yNat (yInt i))))))) 1000000)))) (true = true /\ ∃ (i' : Nat), prAf m i' /\ Nat.succ (mAf m i') <= mAf m i /\ true = true /\ yInt i' = yWrap .i64 (yAdd (yInt i) 1) /\ aNk E n o i' = dnB (goalAf_0 E n o i) (goalAf_1 E n o i) (aNk E n o i) (aN E n o i) (λ (i_1 : Nat) => aK E n o i i_1) (goalAf_3 E n o i) /\ aN E n o i' = dnN (goalAf_0 E n o i) (goalAf_1 E n o i) (aN E n o i) (λ (i_1 : Nat) => aK E n o i i_1) (goalAf_3 E n o i) /\ aNv E n o i' = dnB (goalAf_0 E n o i) (goalAf_1 E n o i) (aNv E n o i) (aN E n o i) (λ (i_1 : Nat) => aK E n o i i_1) (goalAf_3 E n o i) /\ aN E n o i' = dnN (goalAf_0 E n o i) (goalAf_1 E n o i) (aN E n o i) (λ (i_1 : Nat) => aK E n o i i_1) (goalAf_3 E n o i) /\ aN E n o i' = dnN (goalAf_0 E n o i) (goalAf_1 E n o i) (aN E n o i) (λ (i_1 : Nat) => aK E n o i i_1) (goalAf_3 E n o i) /\ (∀ (i_1 : Nat), Nat.succ i_1 <= aN E n o i' -> aK E n o i' i_1 = dnKy (goalAf_2 E n o i) (goalAf_1 E n o i) (aN E n o i) (λ (i_2 : Nat) => aK E n o i i_2) (goalAf_3 E n o i) i_1 /\ True) /\ aN E n o i' = dnN (goalAf_0 E n o i) (goalAf_1 E n o i) (aN E n o i) (λ (i_1 : Nat) => aK E n o i i_1) (goalAf_3 E n o i) /\ (∀ (i_1 : Nat), Nat.succ i_1 <= aN E n o i' -> aV E n o i' i_1 = dnVl (goalAf_2 E n o i) (goalAf_1 E n o i) (aN E n o i) (λ (i_2 : Nat) => aK E n o i i_2) (λ (i_2 : Nat) => aV E n o i i_2) (goalAf_3 E n o i) (eVal E (gEv E n (bkG (o (yNadd 0 (yNat (yInt i))))))) i_1 /\ True) /\ true = true)))))))) /\ (bkP E n (resN E n) (o (yNadd 0 (yNat (yInt i)))) = false -> true = true /\ ∃ (i' : Nat), prAf m i' /\ Nat.succ (mAf m i') <= mAf m i /\ true = true /\ yInt i' = yWrap .i64 (yAdd (yInt i) 1) /\ aNk E n o i' = aNk E n o i /\ aN E n o i' = aN E n o i /\ aNv E n o i' = aNv E n o i /\ aN E n o i' = aN E n o i /\ aN E n o i' = aN E n o i /\ (∀ (i_1 : Nat), Nat.succ i_1 <= aN E n o i' -> aK E n o i' i_1 = aK E n o i i_1 /\ True) /\ aN E n o i' = aN E n o i /\ (∀ (i_1 : Nat), Nat.succ i_1 <= aN E n o i' -> aV E n o i' i_1 = aV E n o i i_1 /\ True) /\ true = true)))) /\ (yLt (yInt i) (yInt m) = false -> mst (yNeq (aN E n o i) (aN E n o i)) (mst (yCol (CK.int .u64) (aN E n o i) λ (i_1 : Nat) => AV.y .u64 (aK E n o i i_1)) (mst (yNeq (aN E n o i) (aN E n o i)) (mst (yCol (CK.int .u64) (aN E n o i) λ (i_1 : Nat) => AV.y .u64 (aV E n o i i_1)) (mst (preM (aN E n o i) (aN E n o i) λ (i_1 : Nat) => aK E n o i i_1) (yNeq (frN (aN E n o m) (aK E n o m) 0) (nat_lit 0) = yNeq (frN (aN E n o i) (λ (i_1 : Nat) => aK E n o i i_1) 0) 0 /\ frN (aN E n o m) (aK E n o m) (0 : Int) = frN (aN E n o i) (λ (i_1 : Nat) => aK E n o i i_1) 0 /\ yNadd 0 (frN (aN E n o i) (λ (i_1 : Nat) => aK E n o i i_1) 0) <= frN (aN E n o i) (λ (i_1 : Nat) => aK E n o i i_1) 0 /\ (∀ (i_1 : Nat), Nat.succ i_1 <= frN (aN E n o m) (aK E n o m) 0 -> frC (aN E n o m) (aK E n o m) 0 (aK E n o m) i_1 = frC (aN E n o i) (λ (i_2 : Nat) => aK E n o i i_2) 0 (λ (i_2 : Nat) => aK E n o i i_2) (yNadd 0 i_1) /\ frC (aN E n o m) (aK E n o m) 0 (aV E n o m) i_1 = frC (aN E n o i) (λ (i_2 : Nat) => aK E n o i i_2) 0 (λ (i_2 : Nat) => aV E n o i i_2) (yNadd 0 i_1) /\ True) /\ true = true))))))))))))))))))))
theorem goalAf_eq : goalAf = goalAfV := by kernel_rfl
set_option maxHeartbeats 8000000 in
theorem goalAf_vc : goalAfV := by
 unfold goalAfV goalAf_3 goalAf_2 goalAf_0 goalAf_1
 intro E nil n nilO m o hpre hwf hm
 have hm : m <= 1000 := of_decide_eq_true hm
 have hcol : (yCol (CK.ls [K1.int .u64, K1.int .u64]) n λ (i : Nat) => AV.lst false (eNil E i) 2 (ePn E i) (cl2F [Cl2.int .u64 (ePk E), Cl2.int .u64 (ePv E)] i)) = true := yCol_ok.2 λ i _ => List.all_eq_true.2 λ p _ => rfl
 have hpw : yAnd (preE E n) (wfE E n) = true := by rw [hpre, hwf]; rfl
 iterate 11 refine mstI yCol_int ?_
 refine mstI hcol (mstI hpw ?_)
 have hpm : ∀ i, i <= m -> preM (aN E n o i) (aN E n o i) (aK E n o i) = true := λ i hi => by
  obtain ⟨h1, h2⟩ := aInv E n o i
  exact preM_i (decide_eq_true (show aN E n o i <= 1000000 by have : aN E n o i <= i := h2; omega)) (sortB_iff.2 h1)
 refine ⟨rfl, ⟨0, ?_⟩, λ g i hi => ⟨λ h => ?_, λ h => ?_⟩⟩
 . repeat' apply And.intro
   all_goals first | with_reducible rfl | exact Nat.zero_le _ | rfl
 . have hlt : (i : Int) < (m : Int) := yLt_t.mp h
   have e0 : yNadd 0 (yNat (yInt i)) = i := Nat.zero_add i
   rw [e0]
   refine mstI (yIn_t.mpr ⟨Int.natCast_nonneg _, hlt⟩) (mstI (decide_eq_true (show i < m by omega)) ?_)
   have b1 : prAf m (i + 1) := show i + 1 <= m by omega
   have b2 : Nat.succ (mAf m (i + 1)) <= mAf m i := by unfold mAf; omega
   have b3 : yInt (i + 1) = yWrap .i64 (yAdd (yInt i) 1) := by
    show ((i + 1 : Nat) : Int) = yWrap .i64 ((i : Int) + 1)
    rw [wrap64 (by omega) (by omega)]; omega
   have hi : i <= m := hi
   cases hb : bkP E n (resN E n) (o i) with
   | true =>
     have hS : aS E n o (i + 1) = stepM E n (bkG (o i)) (aS E n o i) := if_pos hb
     obtain ⟨hg, k1, k2⟩ := bk_kind hb
     have hq : yNle (cPn E (gEn E n (bkG (o i)))) 1000000 = true := decide_eq_true (by have := cPn_le hpre (bkG (o i)); omega)
     refine fork_t rfl (mstI (decide_eq_true rfl) (mstI yCol_int (mstI (decide_eq_true rfl) (mstI yCol_int (mstI yCol_int (mstI yCol_int (mstI ?_ ⟨rfl, i + 1, ?_⟩)))))))
     . show yAnd (preM (aN E n o i) (aN E n o i) (aK E n o i)) (yAnd (yLe 1 (eOk E (gEv E n (bkG (o i))))) (yAnd (yLe (eOk E (gEv E n (bkG (o i)))) 3) (yNle (cPn E (gEn E n (bkG (o i)))) 1000000))) = true
       rw [hpm i hi, k1, k2, hq]; rfl
     . have e1 : aNk E n o (i + 1) = (stepM E n (bkG (o i)) (aS E n o i)).nk := congrArg MpS.nk hS
       have e2 : aN E n o (i + 1) = (stepM E n (bkG (o i)) (aS E n o i)).n := congrArg MpS.n hS
       have e3 : aNv E n o (i + 1) = (stepM E n (bkG (o i)) (aS E n o i)).nv := congrArg MpS.nv hS
       have e4 : ∀ p, aK E n o (i + 1) p = (stepM E n (bkG (o i)) (aS E n o i)).k p := λ p => congrArg (λ m => MpS.k m p) hS
       have e5 : ∀ p, aV E n o (i + 1) p = (stepM E n (bkG (o i)) (aS E n o i)).v p := λ p => congrArg (λ m => MpS.v m p) hS
       repeat' apply And.intro
       all_goals first
        | with_reducible rfl
        | exact b1
        | exact b2
        | exact b3
        | exact e1
        | exact e2
        | exact e3
        | (intro p _; exact ⟨e4 p, trivial⟩)
        | (intro p _; exact ⟨e5 p, trivial⟩)
   | false =>
     have hS : aS E n o (i + 1) = aS E n o i := if_neg (by rw [hb]; simp)
     refine fork_f rfl ⟨rfl, i + 1, ?_⟩
     have e1 : aNk E n o (i + 1) = aNk E n o i := congrArg MpS.nk hS
     have e2 : aN E n o (i + 1) = aN E n o i := congrArg MpS.n hS
     have e3 : aNv E n o (i + 1) = aNv E n o i := congrArg MpS.nv hS
     have e4 : ∀ p, aK E n o (i + 1) p = aK E n o i p := λ p => congrArg (λ m => MpS.k m p) hS
     have e5 : ∀ p, aV E n o (i + 1) p = aV E n o i p := λ p => congrArg (λ m => MpS.v m p) hS
     repeat' apply And.intro
     all_goals first
      | with_reducible rfl
      | exact b1
      | exact b2
      | exact b3
      | exact e1
      | exact e2
      | exact e3
      | (intro p _; exact ⟨e4 p, trivial⟩)
      | (intro p _; exact ⟨e5 p, trivial⟩)
 . have h : (m : Int) <= (i : Int) := yLt_f.mp h
   have hi : i <= m := hi
   obtain rfl : i = m := by omega
   refine mstI (decide_eq_true rfl) (mstI yCol_int (mstI (decide_eq_true rfl) (mstI yCol_int (mstI (hpm i hi) ?_))))
   have z0 : ∀ q, yNadd 0 q = q := Nat.zero_add
   simp only [z0]
   repeat' (first | exact trivial | with_reducible rfl | exact Nat.le_refl _ | apply And.intro | intro _ | rfl)
theorem goalAf_tt : (goalAf) = True := goalAf_eq.trans (eq_true goalAf_vc)
theorem goalAf_ok : goalAf := @ft' goalAf goalAf_tt
def fAf (ds : List Dx) : Option (Bool × Dx × List (List Dx)) :=
 match ds with
 | [.rows _ n [.int .i64 kd, .int .i64 th, .int .i64 id, .int .i64 at_, .int .i64 ok, .int .u64 key, .int .u64 val, .int .u64 hi, .int .i64 most, .int .i64 rk, .int .u64 rv, .ls nl pn [.int .u64 pk, .int .u64 pv]], .rows _ m [.int .i64 o]] =>
   some (yAnd (preE ⟨kd, th, id, at_, ok, key, val, hi, most, rk, rv, nl, pn, pk, pv⟩ n) (yAnd (wfE ⟨kd, th, id, at_, ok, key, val, hi, most, rk, rv, nl, pn, pk, pv⟩ n) (yNle m 1000)), dPs (aN ⟨kd, th, id, at_, ok, key, val, hi, most, rk, rv, nl, pn, pk, pv⟩ n o m) (aK ⟨kd, th, id, at_, ok, key, val, hi, most, rk, rv, nl, pn, pk, pv⟩ n o m) (aV ⟨kd, th, id, at_, ok, key, val, hi, most, rk, rv, nl, pn, pk, pv⟩ n o m), [])
 | _ => none
theorem smAf (hm : Try.prog.follows .mixedOrders = true) (hs : SmOK Try.prog (smL lAf)) : SmCall Try.prog 51 (λ args h => (ctX [sEv, sIn] rPp fAf args h).sel) :=
 ctX_ok hm hs (λ ds r post h => by
  unfold fAf at h
  split at h
  . rename_i nil n kd th id at_ ok key val hi most rk rv nl pn pk pv nilO m o
    simp only [sI, Prod.mk.injEq] at h
    obtain ⟨h1, rfl, rfl⟩ := h
    obtain ⟨h1, h3⟩ := yAnd_t.mp h1
    obtain ⟨h3, h4⟩ := yAnd_t.mp h3
    refine ⟨annAf ⟨kd, th, id, at_, ok, key, val, hi, most, rk, rv, nl, pn, pk, pv⟩ n o m, 1000, ?_⟩
    have h2 := @goalAf_ok
    unfold goalAf at h2
    revert h1 h3 h4
    exact @h2 ⟨kd, th, id, at_, ok, key, val, hi, most, rk, rv, nl, pn, pk, pv⟩ nil n nilO m o
  . cases h)
def evP (E : EvS) (n : Nat) (S : StS) (t : Nat) : Option Nat := if effB (sMn S t) (sMk S t) = true then whF E n (sTh S t) t else none
def aeL (E : EvS) (n : Nat) (S : StS) (m : Nat) : List Nat := (List.range m).filterMap λ t => if (evP E n S t).isSome = true then some t else none
def stN (E : EvS) (n : Nat) (S : StS) (i : Nat) : Nat := (aeL E n S i).length + 1
def tFr (E : EvS) (n : Nat) (S : StS) (m q : Nat) : Int := match q with | 0 => 0 | q + 1 => (((aeL E n S m)[q]?.getD 0 : Nat) : Int)
def tO (E : EvS) (n : Nat) (S : StS) (m : Nat) : Nat -> Int := rI (efL E n S m)
def tNn (E : EvS) (n : Nat) (S : StS) (m q : Nat) : Nat := match q with | 0 => 0 | q + 1 => frN (aN E n (tO E n S m) (q + 1)) (aK E n (tO E n S m) (q + 1)) 0
def tNl (E : EvS) (n : Nat) (S : StS) (m q : Nat) : Bool := match q with | 0 => true | q + 1 => yNeq (frN (aN E n (tO E n S m) (q + 1)) (aK E n (tO E n S m) (q + 1)) 0) 0
def tNk (E : EvS) (n : Nat) (S : StS) (m q p : Nat) : Int := match q with | 0 => 0 | q + 1 => frC (aN E n (tO E n S m) (q + 1)) (aK E n (tO E n S m) (q + 1)) 0 (aK E n (tO E n S m) (q + 1)) p
def tNv (E : EvS) (n : Nat) (S : StS) (m q p : Nat) : Int := match q with | 0 => 0 | q + 1 => frC (aN E n (tO E n S m) (q + 1)) (aK E n (tO E n S m) (q + 1)) 0 (aV E n (tO E n S m) (q + 1)) p
abbrev kState : List CK := [.int .i64, .ls [.int .u64, .int .u64]]
abbrev colsSt (E : EvS) (n : Nat) (S : StS) (m : Nat) : List Col := [.int .i64 (tFr E n S m), .ls (tNl E n S m) (tNn E n S m) [.int .u64 (tNk E n S m), .int .u64 (tNv E n S m)]]
def prSt (m i : Nat) : Prop := i <= m
def mSt (m i : Nat) : Nat := m - i
def slI' (z : St) (t : Nat) : Nat := match z.tm.get (t + 1) with | some (.sl id _ _ _ _) => id | _ => 0
def annSt (E : EvS) (n : Nat) (S : StS) (m : Nat) (b : Nat) : Option (St -> LoopA) :=
 match b with
 | 0 => some λ z => { ι := Nat, tms := [5, 6, 16], tmU := λ i => [.ysl false false z.h.nx 2 0 (stN E n S i), .ysl false (yNeq (rL (efL E n S i)) 0) (Nat.succ z.h.nx) 1 0 (rL (efL E n S i)), .y .i64 (yInt i)], ids := [z.h.nx, Nat.succ z.h.nx], hpU := λ i => [.arr false 117 2 (stN E n S i) (colF (colsSt E n S m)), .arr false 3 1 (rL (efL E n S i)) (colF [.int .i64 (rI (efL E n S i))])], del := [slI' z 5], ex := 2, pre := prSt m, ms := mSt m }
 | _ => none
def lSt : List (Nat × Sm) := [(33, .ct (ctX [sEv] rGn fGn)), (50, .ct (ctX [sSts, .sc] rSo fSo)), (49, .ct (ctX [sEv, sSts] rEs fEs)), (51, .ct (ctX [sEv, sIn] rPp fAf))]
abbrev rSt : Sx := .pl kState
def gOkS (E : EvS) (n : Nat) (S : StS) (m : Nat) : Nat := if gOk E n = true then stN E n S m else 0
def preT (S : StS) (m : Nat) : Bool := decide (m <= 500 /\ ∀ i, i < m -> sMn S i <= 10)
def goalSt : Prop := ∀ (E : EvS) (nil : Bool) (n : Nat) (S : StS) (nilS : Bool) (m : Nat), preE E n = true -> wfE E n = true -> preT S m = true →
 wxH Try.prog (smL lSt) (annSt E n S m) 28 [sEv, sSts] [.rows nil n (colsE E), .rows nilS m (colsS S)] rSt (.rows (yNot (gOk E n)) (gOkS E n S m) (colsSt E n S m)) []
theorem evP_map (E : EvS) (n : Nat) (S : StS) (t : Nat) : (if effB (sMn S t) (sMk S t) = true then (whF E n (sTh S t) t).map (λ j => eId E (gEv E n j)) else none) = (evP E n S t).map (λ j => eId E (gEv E n j)) := by
 unfold evP; split <;> rfl
theorem efL_step (E : EvS) (n : Nat) (S : StS) (i : Nat) : efL E n S (i + 1) = efL E n S i ++ ((evP E n S i).map (λ j => eId E (gEv E n j))).toList := by
 rw [efL_succ, evP_map]
theorem aeL_step (E : EvS) (n : Nat) (S : StS) (i : Nat) : aeL E n S (i + 1) = aeL E n S i ++ (if (evP E n S i).isSome = true then [i] else []) := by
 unfold aeL
 rw [List.range_succ, List.filterMap_append]
 congr 1
 cases h : evP E n S i <;> simp [h]
theorem aeL_len (E : EvS) (n : Nat) (S : StS) : ∀ i, (aeL E n S i).length = rL (efL E n S i)
 | 0 => rfl
 | i + 1 => by
   have := aeL_len E n S i
   rw [aeL_step, efL_step]
   unfold rL at *
   cases h : evP E n S i <;> simp [this]
theorem sole_eff (E : EvS) (n : Nat) (S : StS) (i : Nat) : efL E n (soleS S i) (i + 1) = ((evP E n S i).map (λ j => eId E (gEv E n j))).toList := by
 have h0 : ∀ t, t <= i -> efL E n (soleS S i) t = [] := by
  intro t
  induction t with
  | zero => intro _; rfl
  | succ t ih =>
    intro ht
    rw [efL_succ, ih (by omega), List.nil_append]
    have hn : sMn (soleS S i) t = 0 := by
     show ySelN (yNeq t i) (sMn S i) 0 = 0
     rw [show yNeq t i = false from decide_eq_false (by omega)]; rfl
    rw [hn, if_neg (by unfold effB; simp)]
    rfl
 rw [efL_step, h0 i (Nat.le_refl _), List.nil_append]
 have e : evP E n (soleS S i) i = evP E n S i := by
  have e1 : sMn (soleS S i) i = sMn S i := by
   show ySelN (yNeq i i) (sMn S i) 0 = _
   rw [show yNeq i i = true from decide_eq_true rfl]; rfl
  have e2 : sTh (soleS S i) i = sTh S i := by
   show ySel (yNeq i i) (sTh S i) 0 = _
   rw [show yNeq i i = true from decide_eq_true rfl]; rfl
  have e3 : sMk (soleS S i) i = sMk S i := rfl
  unfold evP
  rw [e1, e2, e3]
 rw [e]
theorem pre_aeL (E : EvS) (n : Nat) (S : StS) {i m : Nat} (h : i <= m) : ∃ l, aeL E n S m = aeL E n S i ++ l := by
 induction m with
 | zero => obtain rfl : i = 0 := by omega
           exact ⟨[], (List.append_nil _).symm⟩
 | succ m ih =>
   by_cases e : i = m + 1
   . subst e; exact ⟨[], (List.append_nil _).symm⟩
   . obtain ⟨l, hl⟩ := ih (by omega)
     exact ⟨l ++ _, by rw [aeL_step, hl, List.append_assoc]⟩
theorem pre_efL (E : EvS) (n : Nat) (S : StS) {i m : Nat} (h : i <= m) : ∃ l, efL E n S m = efL E n S i ++ l := by
 induction m with
 | zero => obtain rfl : i = 0 := by omega
           exact ⟨[], (List.append_nil _).symm⟩
 | succ m ih =>
   by_cases e : i = m + 1
   . subst e; exact ⟨[], (List.append_nil _).symm⟩
   . obtain ⟨l, hl⟩ := ih (by omega)
     exact ⟨l ++ _, by rw [efL_step, hl, List.append_assoc]⟩
theorem rI_pre {L l : List Int} {p : Nat} (h : p < rL L) : rI (L ++ l) p = rI L p := by
 unfold rI rL at *
 rw [List.getElem?_append_left h]
theorem aS_congr (E : EvS) (n : Nat) {o o' : Nat -> Int} : ∀ q, (∀ p, p < q -> o p = o' p) -> aS E n o q = aS E n o' q
 | 0, _ => rfl
 | q + 1, h => by
   have ih := aS_congr E n q (λ p hp => h p (by omega))
   show (if bkP E n (resN E n) (o q) = true then stepM E n (bkG (o q)) (aS E n o q) else aS E n o q) = (if bkP E n (resN E n) (o' q) = true then stepM E n (bkG (o' q)) (aS E n o' q) else aS E n o' q)
   rw [h q (by omega), ih]
def goalSt_2  := Nat.succ (Nat.succ (Nat.succ (Nat.succ (Nat.succ (0 : Nat)))))
def goalSt_3  := List.length [K1.int .i64, K1.int .u64, K1.int .u64]
def goalSt_0 (S : StS) := λ (i : Nat) => lsF (goalSt_3) (colF (colsS S) i (Nat.succ (goalSt_2)))
def goalSt_7 (E : EvS) (n : Nat) (S : StS) (i : Nat) := efL E n (soleS S (yNat (yInt i))) (yNadd (yNat (yInt i)) 1)
def goalSt_1 (E : EvS) (n : Nat) (S : StS) (i : Nat) := rI (goalSt_7 E n S i) (yNadd 0 0)
def goalSt_4 (E : EvS) (n : Nat) (S : StS) (i : Nat) := λ (i_3 : Nat) => ySel (yNlt i_3 (rL (efL E n S i))) (rI (efL E n S i) i_3) (goalSt_1 E n S i)
def goalSt_5 (n : Nat) (E : EvS) := yCol (CK.ls [K1.int .u64, K1.int .u64]) n λ (i : Nat) => AV.lst false (eNil E i) 2 (ePn E i) (cl2F [Cl2.int .u64 (ePk E), Cl2.int .u64 (ePv E)] i)
def goalSt_6 (E : EvS) (n : Nat) (S : StS) (i : Nat) := frN (aN E n (λ (i_2 : Nat) => ySel (yNlt i_2 (rL (efL E n S i))) (rI (efL E n S i) i_2) (goalSt_1 E n S i)) (yNadd (rL (efL E n S i)) 1)) (aK E n (λ (i_2 : Nat) => ySel (yNlt i_2 (rL (efL E n S i))) (rI (efL E n S i) i_2) (goalSt_1 E n S i)) (yNadd (rL (efL E n S i)) 1)) 0
def goalStV : Prop := (∀ (E : EvS) (nil : Bool) (n : Nat) (S : StS) (nilS : Bool) (m : Nat), preE E n = true -> wfE E n = true -> preT S m = true -> mst (yCol (CK.int .i64) n λ (i : Nat) => AV.y .i64 (eKd E i)) (mst (yCol (CK.int .i64) n λ (i : Nat) => AV.y .i64 (eTh E i)) (mst (yCol (CK.int .i64) n λ (i : Nat) => AV.y .i64 (eId E i)) (mst (yCol (CK.int .i64) n λ (i : Nat) => AV.y .i64 (eAt E i)) (mst (yCol (CK.int .i64) n λ (i : Nat) => AV.y .i64 (eOk E i)) (mst (yCol (CK.int .u64) n λ (i : Nat) => AV.y .u64 (eKey E i)) (mst (yCol (CK.int .u64) n λ (i : Nat) => AV.y .u64 (eVal E i)) (mst (yCol (CK.int .u64) n λ (i : Nat) => AV.y .u64 (eHi E i)) (mst (yCol (CK.int .i64) n λ (i : Nat) => AV.y .i64 (eMost E i)) (mst (yCol (CK.int .i64) n λ (i : Nat) => AV.y .i64 (eRk E i)) (mst (yCol (CK.int .u64) n λ (i : Nat) => AV.y .u64 (eRv E i)) (mst (goalSt_5 n E) (mst (preE E n) ((gOk E n = true -> true = true /\ (∃ (i0 : Nat), prSt m i0 /\ true = true /\ false = false /\ nat_lit 0 = nat_lit 0 /\ stN E n S i0 = nat_lit 1 /\ yNeq (rL (efL E n S i0)) (nat_lit 0) = true /\ rL (efL E n S i0) = nat_lit 0 /\ yInt i0 = (0 : Int) /\ stN E n S i0 = nat_lit 1 /\ ((tFr E n S m (nat_lit 0) = (0 : Int) /\ (tNl E n S m (nat_lit 0) = true /\ tNn E n S m (nat_lit 0) = nat_lit 0) /\ True) /\ True) /\ rL (efL E n S i0) = nat_lit 0 /\ true = true /\ true = true) /\ ∀ (g : Nat -> AV) (i : Nat), prSt m i -> (yLt (yInt i) (yInt m) = true -> mst (yCol (CK.int .i64) m λ (i : Nat) => AV.y .i64 (sTh S i)) (mst (yCol (CK.int .i64) m λ (i : Nat) => AV.y .i64 (sAk S i)) (mst (yCol (CK.int .i64) m λ (i : Nat) => AV.y .i64 (sAt S i)) (mst (yCol (CK.int .u64) m λ (i : Nat) => AV.y .u64 (sOld S i)) (mst (yCol (CK.int .u64) m λ (i : Nat) => AV.y .u64 (sNew S i)) (mst (yCol (CK.int .u64) m λ (i : Nat) => AV.y .u64 (sGot S i)) (mst (yCol (CK.ls [K1.int .i64, K1.int .u64, K1.int .u64]) m λ (i : Nat) => AV.lst false (sNil S i) 3 (sMn S i) (cl2F [Cl2.int .i64 (sMk S), Cl2.int .u64 (sMa S), Cl2.int .u64 (sMb S)] i)) (mst (yAnd (yNle m 1000000) (yIn (yInt i) m)) (mst (yCol (CK.int .i64) n λ (i : Nat) => AV.y .i64 (eKd E i)) (mst (yCol (CK.int .i64) n λ (i : Nat) => AV.y .i64 (eTh E i)) (mst (yCol (CK.int .i64) n λ (i : Nat) => AV.y .i64 (eId E i)) (mst (yCol (CK.int .i64) n λ (i : Nat) => AV.y .i64 (eAt E i)) (mst (yCol (CK.int .i64) n λ (i : Nat) => AV.y .i64 (eOk E i)) (mst (yCol (CK.int .u64) n λ (i : Nat) => AV.y .u64 (eKey E i)) (mst (yCol (CK.int .u64) n λ (i : Nat) => AV.y .u64 (eVal E i)) (mst (yCol (CK.int .u64) n λ (i : Nat) => AV.y .u64 (eHi E i)) (mst (yCol (CK.int .i64) n λ (i : Nat) => AV.y .i64 (eMost E i)) (mst (yCol (CK.int .i64) n λ (i : Nat) => AV.y .i64 (eRk E i)) (mst (yCol (CK.int .u64) n λ (i : Nat) => AV.y .u64 (eRv E i)) (mst (goalSt_5 n E) (mst (yNle (yNadd 0 (yNadd (yNat (yInt i)) 1)) (yNadd (yNat (yInt i)) 1)) (mst (yCol (CK.int .i64) (yNadd (yNat (yInt i)) 1) λ (i_1 : Nat) => AV.y .i64 (ySel (yNeq i_1 (yNat (yInt i))) (sTh S (yNat (yInt i))) 0)) (mst (yCol (CK.int .i64) (yNadd (yNat (yInt i)) 1) λ (i_1 : Nat) => AV.y .i64 (ySel (yNeq i_1 (yNat (yInt i))) (sAk S (yNat (yInt i))) 0)) (mst (yCol (CK.int .i64) (yNadd (yNat (yInt i)) 1) λ (i_1 : Nat) => AV.y .i64 (ySel (yNeq i_1 (yNat (yInt i))) (sAt S (yNat (yInt i))) 0)) (mst (yCol (CK.int .u64) (yNadd (yNat (yInt i)) 1) λ (i_1 : Nat) => AV.y .u64 (ySel (yNeq i_1 (yNat (yInt i))) (sOld S (yNat (yInt i))) 0)) (mst (yCol (CK.int .u64) (yNadd (yNat (yInt i)) 1) λ (i_1 : Nat) => AV.y .u64 (ySel (yNeq i_1 (yNat (yInt i))) (sNew S (yNat (yInt i))) 0)) (mst (yCol (CK.int .u64) (yNadd (yNat (yInt i)) 1) λ (i_1 : Nat) => AV.y .u64 (ySel (yNeq i_1 (yNat (yInt i))) (sGot S (yNat (yInt i))) 0)) (mst (yCol (CK.ls [K1.int .i64, K1.int .u64, K1.int .u64]) (yNadd (yNat (yInt i)) 1) λ (i_1 : Nat) => AV.lst false (ySelB (yNeq i_1 (yNat (yInt i))) (sNil S (yNat (yInt i))) true) 3 (ySelN (yNeq i_1 (yNat (yInt i))) (sMn S (yNat (yInt i))) 0) (cl2F [Cl2.int .i64 λ (x p : Nat) => sMk { th := λ (i : Nat) => toI (colF (colsS S) i (0 : Nat)), ak := λ (i : Nat) => toI (colF (colsS S) i (Nat.succ (0 : Nat))), at_ := λ (i : Nat) => toI (colF (colsS S) i (Nat.succ (Nat.succ (0 : Nat)))), old := λ (i : Nat) => toI (colF (colsS S) i (Nat.succ (Nat.succ (Nat.succ (0 : Nat))))), new := λ (i : Nat) => toI (colF (colsS S) i (Nat.succ (Nat.succ (Nat.succ (Nat.succ (0 : Nat)))))), got := λ (i : Nat) => toI (colF (colsS S) i (goalSt_2)), nil := λ (i : Nat) => lsNil (goalSt_3) (colF (colsS S) i (Nat.succ (goalSt_2))), mn := λ (i : Nat) => lsN (goalSt_3) (colF (colsS S) i (Nat.succ (goalSt_2))), kk := λ (i p : Nat) => toI ((goalSt_0 S) i p (0 : Nat)), ma := λ (i p : Nat) => toI ((goalSt_0 S) i p (Nat.succ (0 : Nat))), mb := λ (i p : Nat) => toI ((goalSt_0 S) i p (Nat.succ (Nat.succ (0 : Nat)))) } (yNat (yInt i)) p, Cl2.int .u64 λ (x p : Nat) => sMa { th := λ (i : Nat) => toI (colF (colsS S) i (0 : Nat)), ak := λ (i : Nat) => toI (colF (colsS S) i (Nat.succ (0 : Nat))), at_ := λ (i : Nat) => toI (colF (colsS S) i (Nat.succ (Nat.succ (0 : Nat)))), old := λ (i : Nat) => toI (colF (colsS S) i (Nat.succ (Nat.succ (Nat.succ (0 : Nat))))), new := λ (i : Nat) => toI (colF (colsS S) i (Nat.succ (Nat.succ (Nat.succ (Nat.succ (0 : Nat)))))), got := λ (i : Nat) => toI (colF (colsS S) i (goalSt_2)), nil := λ (i : Nat) => lsNil (goalSt_3) (colF (colsS S) i (Nat.succ (goalSt_2))), mn := λ (i : Nat) => lsN (goalSt_3) (colF (colsS S) i (Nat.succ (goalSt_2))), kk := λ (i p : Nat) => toI ((goalSt_0 S) i p (0 : Nat)), ma := λ (i p : Nat) => toI ((goalSt_0 S) i p (Nat.succ (0 : Nat))), mb := λ (i p : Nat) => toI ((goalSt_0 S) i p (Nat.succ (Nat.succ (0 : Nat)))) } (yNat (yInt i)) p, Cl2.int .u64 λ (x p : Nat) => sMb { th := λ (i : Nat) => toI (colF (colsS S) i (0 : Nat)), ak := λ (i : Nat) => toI (colF (colsS S) i (Nat.succ (0 : Nat))), at_ := λ (i : Nat) => toI (colF (colsS S) i (Nat.succ (Nat.succ (0 : Nat)))), old := λ (i : Nat) => toI (colF (colsS S) i (Nat.succ (Nat.succ (Nat.succ (0 : Nat))))), new := λ (i : Nat) => toI (colF (colsS S) i (Nat.succ (Nat.succ (Nat.succ (Nat.succ (0 : Nat)))))), got := λ (i : Nat) => toI (colF (colsS S) i (goalSt_2)), nil := λ (i : Nat) => lsNil (goalSt_3) (colF (colsS S) i (Nat.succ (goalSt_2))), mn := λ (i : Nat) => lsN (goalSt_3) (colF (colsS S) i (Nat.succ (goalSt_2))), kk := λ (i p : Nat) => toI ((goalSt_0 S) i p (0 : Nat)), ma := λ (i p : Nat) => toI ((goalSt_0 S) i p (Nat.succ (0 : Nat))), mb := λ (i p : Nat) => toI ((goalSt_0 S) i p (Nat.succ (Nat.succ (0 : Nat)))) } (yNat (yInt i)) p] i_1)) (mst (yAnd (preE E n) (yAnd (wfE E n) (preS (soleS S (yNat (yInt i))) (yNadd (yNat (yInt i)) 1)))) ((yEq (yInt (rL (goalSt_7 E n S i))) (0 : Int) = true -> true = true /\ ∃ (i' : Nat), prSt m i' /\ Nat.succ (mSt m i') <= mSt m i /\ true = true /\ false = false /\ nat_lit 0 = nat_lit 0 /\ stN E n S i' = stN E n S i /\ yNeq (rL (efL E n S i')) (nat_lit 0) = yNeq (rL (efL E n S i)) 0 /\ nat_lit 0 = nat_lit 0 /\ rL (efL E n S i') = rL (efL E n S i) /\ yInt i' = yWrap .i64 (yAdd (yInt i) 1) /\ stN E n S i' = stN E n S i /\ (∀ (i : Nat), Nat.succ i <= stN E n S i' -> tFr E n S m i = tFr E n S m i /\ (tNl E n S m i = tNl E n S m i /\ tNn E n S m i = tNn E n S m i /\ ∀ (i_1 : Nat), Nat.succ i_1 <= tNn E n S m i -> tNk E n S m i i_1 = tNk E n S m i i_1 /\ tNv E n S m i i_1 = tNv E n S m i i_1 /\ True) /\ True) /\ rL (efL E n S i') = rL (efL E n S i) /\ (∀ (i_1 : Nat), Nat.succ i_1 <= rL (efL E n S i') -> rI (efL E n S i') i_1 = rI (efL E n S i) i_1 /\ True) /\ true = true) /\ (yEq (yInt (rL (goalSt_7 E n S i))) (0 : Int) = false -> mst (yIn 0 (rL (goalSt_7 E n S i))) (mst (yNlt (yNadd 0 0) (rL (goalSt_7 E n S i))) (mst (yNeq (rL (efL E n S i)) (rL (efL E n S i))) (mst (yGrow (yNadd (rL (efL E n S i)) 1) 8) (mst (yCol (CK.int .i64) n λ (i : Nat) => AV.y .i64 (eKd E i)) (mst (yCol (CK.int .i64) n λ (i : Nat) => AV.y .i64 (eTh E i)) (mst (yCol (CK.int .i64) n λ (i : Nat) => AV.y .i64 (eId E i)) (mst (yCol (CK.int .i64) n λ (i : Nat) => AV.y .i64 (eAt E i)) (mst (yCol (CK.int .i64) n λ (i : Nat) => AV.y .i64 (eOk E i)) (mst (yCol (CK.int .u64) n λ (i : Nat) => AV.y .u64 (eKey E i)) (mst (yCol (CK.int .u64) n λ (i : Nat) => AV.y .u64 (eVal E i)) (mst (yCol (CK.int .u64) n λ (i : Nat) => AV.y .u64 (eHi E i)) (mst (yCol (CK.int .i64) n λ (i : Nat) => AV.y .i64 (eMost E i)) (mst (yCol (CK.int .i64) n λ (i : Nat) => AV.y .i64 (eRk E i)) (mst (yCol (CK.int .u64) n λ (i : Nat) => AV.y .u64 (eRv E i)) (mst (goalSt_5 n E) (mst (yNle (yNadd 0 (yNadd (rL (efL E n S i)) 1)) (yNadd (rL (efL E n S i)) 1)) (mst (yCol (CK.int .i64) (yNadd (rL (efL E n S i)) 1) λ (i_1 : Nat) => AV.y .i64 (ySel (yNlt i_1 (rL (efL E n S i))) (rI (efL E n S i) i_1) (goalSt_1 E n S i))) (mst (yAnd (preE E n) (yAnd (wfE E n) (yNle (yNadd (rL (efL E n S i)) 1) 1000))) (mst (yNeq (stN E n S i) (stN E n S i)) (mst (yGrow (yNadd (stN E n S i) 1) 32) (true = true /\ ∃ (i' : Nat), prSt m i' /\ Nat.succ (mSt m i') <= mSt m i /\ true = true /\ false = yAnd false (yNeq 1 0) /\ nat_lit 0 = nat_lit 0 /\ stN E n S i' = yNadd (stN E n S i) 1 /\ yNeq (rL (efL E n S i')) (nat_lit 0) = yAnd (yNeq (rL (efL E n S i)) 0) (yNeq 1 0) /\ nat_lit 0 = nat_lit 0 /\ rL (efL E n S i') = yNadd (rL (efL E n S i)) 1 /\ yInt i' = yWrap .i64 (yAdd (yInt i) 1) /\ stN E n S i' = yNadd (stN E n S i) 1 /\ (∀ (i_1 : Nat), Nat.succ i_1 <= stN E n S i' -> tFr E n S m i_1 = ySel (yNlt i_1 (stN E n S i)) (tFr E n S m i_1) (yInt i) /\ (tNl E n S m i_1 = ySelB (yNlt i_1 (stN E n S i)) (tNl E n S m i_1) (yNeq (goalSt_6 E n S i) 0) /\ tNn E n S m i_1 = ySelN (yNlt i_1 (stN E n S i)) (tNn E n S m i_1) (goalSt_6 E n S i) /\ ∀ (i_2 : Nat), Nat.succ i_2 <= tNn E n S m i_1 -> tNk E n S m i_1 i_2 = ySel (yNlt i_1 (stN E n S i)) (tNk E n S m i_1 i_2) (frC (aN E n (goalSt_4 E n S i) (yNadd (rL (efL E n S i)) 1)) (aK E n (goalSt_4 E n S i) (yNadd (rL (efL E n S i)) 1)) 0 (aK E n (goalSt_4 E n S i) (yNadd (rL (efL E n S i)) 1)) i_2) /\ tNv E n S m i_1 i_2 = ySel (yNlt i_1 (stN E n S i)) (tNv E n S m i_1 i_2) (frC (aN E n (goalSt_4 E n S i) (yNadd (rL (efL E n S i)) 1)) (aK E n (goalSt_4 E n S i) (yNadd (rL (efL E n S i)) 1)) 0 (aV E n (goalSt_4 E n S i) (yNadd (rL (efL E n S i)) 1)) i_2) /\ True) /\ True) /\ rL (efL E n S i') = yNadd (rL (efL E n S i)) 1 /\ (∀ (i_1 : Nat), Nat.succ i_1 <= rL (efL E n S i') -> rI (efL E n S i') i_1 = ySel (yNlt i_1 (rL (efL E n S i))) (rI (efL E n S i) i_1) (goalSt_1 E n S i) /\ True) /\ true = true)))))))))))))))))))))))))))))))))))))))))))))))))))) /\ (yLt (yInt i) (yInt m) = false -> yNot (gOk E n) = false /\ gOkS E n S m = stN E n S i /\ yNadd 0 (stN E n S i) <= stN E n S i /\ (∀ (i : Nat), Nat.succ i <= gOkS E n S m -> tFr E n S m i = tFr E n S m (yNadd 0 i) /\ (tNl E n S m i = tNl E n S m (yNadd 0 i) /\ tNn E n S m i = tNn E n S m (yNadd 0 i) /\ ∀ (i_1 : Nat), Nat.succ i_1 <= tNn E n S m i -> tNk E n S m i i_1 = tNk E n S m (yNadd 0 i) i_1 /\ tNv E n S m i i_1 = tNv E n S m (yNadd 0 i) i_1 /\ True) /\ True) /\ true = true)) /\ (gOk E n = false -> yNot (gOk E n) = true /\ gOkS E n S m = nat_lit 0 /\ true = true)))))))))))))))
theorem goalSt_eq : goalSt = goalStV := by kernel_rfl
set_option maxHeartbeats 8000000 in
theorem goalSt_vc : goalStV := by
 unfold goalStV goalSt_6 goalSt_5 goalSt_4 goalSt_1 goalSt_7 goalSt_0 goalSt_3 goalSt_2
 intro E nil n S nilS m hpre hwf hT
 obtain ⟨hm, hmn⟩ := of_decide_eq_true hT
 have hcol : ∀ m, (yCol (CK.ls [K1.int .u64, K1.int .u64]) m λ (i : Nat) => AV.lst false (eNil E i) 2 (ePn E i) (cl2F [Cl2.int .u64 (ePk E), Cl2.int .u64 (ePv E)] i)) = true := λ m => yCol_ok.2 λ i _ => List.all_eq_true.2 λ p _ => rfl
 iterate 11 refine mstI yCol_int ?_
 refine mstI (hcol _) (mstI hpre ?_)
 cases hok : gOk E n with
 | false =>
   refine fork_f rfl ?_
   repeat' (first | exact trivial | rfl | apply And.intro)
   exact if_neg (by rw [hok]; simp)
 | true =>
 refine fork_t rfl ⟨rfl, ⟨0, ?_⟩, λ g i hi => ⟨λ h => ?_, λ h => ?_⟩⟩
 . repeat' apply And.intro
   all_goals first | with_reducible rfl | exact Nat.zero_le _ | trivial | rfl
 . have hlt : i < m := by have : (i : Int) < (m : Int) := yLt_t.mp h; omega
   have e0 : yNat (yInt i) = i := rfl
   have z0 : ∀ q, yNadd 0 q = q := Nat.zero_add
   have hr : rL (efL E n S i) <= i := efL_len E n S i
   have hs : stN E n S i = rL (efL E n S i) + 1 := by unfold stN; rw [aeL_len]
   have b1 : prSt m (i + 1) := show i + 1 <= m by omega
   have b2 : Nat.succ (mSt m (i + 1)) <= mSt m i := by unfold mSt; omega
   have b3 : yInt (i + 1) = yWrap .i64 (yAdd (yInt i) 1) := by
    show ((i + 1 : Nat) : Int) = yWrap .i64 ((i : Int) + 1)
    rw [wrap64 (by omega) (by omega)]; omega
   rw [e0]
   iterate 6 refine mstI yCol_int ?_
   refine mstI (yCol_ok.2 λ i _ => List.all_eq_true.2 λ p _ => rfl) (mstI ?_ ?_)
   . show yAnd (yNle m 1000000) (yIn (yInt i) m) = true
     rw [show yNle m 1000000 = true from decide_eq_true (by omega), show yIn (yInt i) m = true from yIn_t.mpr ⟨Int.natCast_nonneg _, by show (i : Int) < m; omega⟩]; rfl
   iterate 11 refine mstI yCol_int ?_
   refine mstI (hcol _) (mstI (decide_eq_true (show 0 + (i + 1) <= i + 1 by omega)) ?_)
   iterate 6 refine mstI yCol_int ?_
   refine mstI (yCol_ok.2 λ i _ => List.all_eq_true.2 λ p _ => rfl) (mstI ?_ ?_)
   . have hp : preS (soleS S i) (yNadd i 1) = true := decide_eq_true ⟨show i + 1 <= 1000000 by omega, λ j hj => by
      show ySelN (yNeq j i) (sMn S i) 0 <= _
      cases yNeq j i
      . exact Nat.zero_le _
      . exact Nat.le_trans (hmn i hlt) (by omega)⟩
     rw [hpre, hwf, hp]; rfl
   have hsol := sole_eff E n S i
   have hsol : efL E n (soleS S i) (yNadd i 1) = ((evP E n S i).map (λ j => eId E (gEv E n j))).toList := hsol
   rw [hsol]
   cases hev : evP E n S i with
   | none =>
     have he : efL E n S (i + 1) = efL E n S i := by rw [efL_step, hev]; exact List.append_nil _
     have ha : stN E n S (i + 1) = stN E n S i := by unfold stN; rw [aeL_step, hev]; simp
     refine fork_t rfl ⟨rfl, i + 1, ?_⟩
     rw [he, ha]
     repeat' (first | exact trivial | exact b1 | exact b2 | exact b3 | with_reducible rfl | apply And.intro | intro _ | rfl)
   | some j =>
     obtain ⟨x, hx⟩ : ∃ x, x = eId E (gEv E n j) := ⟨_, rfl⟩
     have he : efL E n S (i + 1) = efL E n S i ++ [x] := by rw [efL_step, hev, hx]; rfl
     have ha : stN E n S (i + 1) = stN E n S i + 1 := by unfold stN; rw [aeL_step, hev]; simp
     have hal : aeL E n S (i + 1) = aeL E n S i ++ [i] := by rw [aeL_step, hev]; rfl
     have hO : ((Option.map (λ j => eId E (gEv E n j)) (some j)).toList) = [x] := by rw [hx]; rfl
     rw [hO]
     have hx0 : rI [x] (yNadd 0 0) = x := rfl
     rw [hx0]
     refine fork_f rfl (mstI rfl (mstI rfl (mstI (decide_eq_true rfl) (mstI (yGrow_t.mpr (show 4 * (rL (efL E n S i) + 1) * 8 <= 140737488355328 by omega)) ?_))))
     iterate 11 refine mstI yCol_int ?_
     refine mstI (hcol _) (mstI (decide_eq_true (show 0 + (rL (efL E n S i) + 1) <= rL (efL E n S i) + 1 by omega)) (mstI yCol_int (mstI ?_ (mstI (decide_eq_true rfl) (mstI (yGrow_t.mpr (show 4 * (stN E n S i + 1) * 32 <= 140737488355328 by omega)) ?_)))))
     . rw [hpre, hwf, show yNle (yNadd (rL (efL E n S i)) 1) 1000 = true from decide_eq_true (show rL (efL E n S i) + 1 <= 1000 by omega)]; rfl
     obtain ⟨O, hOd⟩ : ∃ O : Nat -> Int, O = λ p => ySel (yNlt p (rL (efL E n S i))) (rI (efL E n S i) p) x := ⟨_, rfl⟩
     obtain ⟨lm, hlm⟩ := pre_efL E n S (show i + 1 <= m by omega)
     obtain ⟨la, hla⟩ := pre_aeL E n S (show i + 1 <= m by omega)
     have hOm : ∀ p, p < rL (efL E n S i) + 1 -> O p = tO E n S m p := λ p hp => by
      show O p = rI (efL E n S m) p
      rw [hlm, rI_pre (by rw [he, rL_snoc]; exact hp), he, rI_snoc _ _ _ hp, hOd]
     have hA : aS E n O (rL (efL E n S i) + 1) = aS E n (tO E n S m) (rL (efL E n S i) + 1) := aS_congr E n _ hOm
     have hf : tFr E n S m (rL (efL E n S i) + 1) = (i : Int) := by
      show (((aeL E n S m)[rL (efL E n S i)]?.getD 0 : Nat) : Int) = i
      rw [hla, hal, <- aeL_len, List.getElem?_append_left (by simp)]
      simp
     have hq : ∀ q, Nat.succ q <= stN E n S (i + 1) -> yNlt q (stN E n S i) = false -> q = rL (efL E n S i) + 1 := λ q h1 h2 => by
      have h2 : ¬ q < stN E n S i := of_decide_eq_false h2
      omega
     refine ⟨rfl, i + 1, ?_⟩
     rw [<- hOd]
     refine ⟨b1, b2, rfl, rfl, rfl, ha, ?_, rfl, ?_, b3, ha, λ q hq1 => ?_, ?_, λ p hp => ⟨?_, trivial⟩, rfl⟩
     . rw [he, rL_snoc]; exact yN1 _
     . rw [he, rL_snoc]; rfl
     . cases hlq : yNlt q (stN E n S i) with
       | true => exact ⟨rfl, ⟨rfl, rfl, λ _ _ => ⟨rfl, rfl, trivial⟩⟩, trivial⟩
       | false =>
         obtain rfl := hq q hq1 hlq
         refine ⟨hf, ⟨?_, ?_, λ p _ => ⟨?_, ?_, trivial⟩⟩, trivial⟩
         . show yNeq (frN (aS E n (tO E n S m) (rL (efL E n S i) + 1)).n (aS E n (tO E n S m) (rL (efL E n S i) + 1)).k 0) 0 = yNeq (frN (aS E n O (rL (efL E n S i) + 1)).n (aS E n O (rL (efL E n S i) + 1)).k 0) 0
           rw [hA]
         . show frN (aS E n (tO E n S m) (rL (efL E n S i) + 1)).n (aS E n (tO E n S m) (rL (efL E n S i) + 1)).k 0 = frN (aS E n O (rL (efL E n S i) + 1)).n (aS E n O (rL (efL E n S i) + 1)).k 0
           rw [hA]
         . show frC (aS E n (tO E n S m) (rL (efL E n S i) + 1)).n (aS E n (tO E n S m) (rL (efL E n S i) + 1)).k 0 (aS E n (tO E n S m) (rL (efL E n S i) + 1)).k p = frC (aS E n O (rL (efL E n S i) + 1)).n (aS E n O (rL (efL E n S i) + 1)).k 0 (aS E n O (rL (efL E n S i) + 1)).k p
           rw [hA]
         . show frC (aS E n (tO E n S m) (rL (efL E n S i) + 1)).n (aS E n (tO E n S m) (rL (efL E n S i) + 1)).k 0 (aS E n (tO E n S m) (rL (efL E n S i) + 1)).v p = frC (aS E n O (rL (efL E n S i) + 1)).n (aS E n O (rL (efL E n S i) + 1)).k 0 (aS E n O (rL (efL E n S i) + 1)).v p
           rw [hA]
     . rw [he, rL_snoc]; rfl
     . rw [he] at hp ⊢
       exact rI_snoc _ _ _ (by rw [rL_snoc] at hp; exact hp)
 . have h : (m : Int) <= (i : Int) := yLt_f.mp h
   have hi : i <= m := hi
   obtain rfl : i = m := by omega
   have hg : gOkS E n S i = stN E n S i := if_pos hok
   have z0 : ∀ q, yNadd 0 q = q := Nat.zero_add
   simp only [z0]
   refine ⟨rfl, hg, Nat.le_refl _, ?_⟩
   repeat' (first | exact trivial | with_reducible rfl | apply And.intro | intro _ | rfl)
theorem goalSt_tt : (goalSt) = True := goalSt_eq.trans (eq_true goalSt_vc)
theorem goalSt_ok : goalSt := @ft' goalSt goalSt_tt
def fSt (ds : List Dx) : Option (Bool × Dx × List (List Dx)) :=
 match ds with
 | [.rows _ n [.int .i64 kd, .int .i64 th, .int .i64 id, .int .i64 at_, .int .i64 ok, .int .u64 key, .int .u64 val, .int .u64 hi, .int .i64 most, .int .i64 rk, .int .u64 rv, .ls nl pn [.int .u64 pk, .int .u64 pv]], .rows _ m [.int .i64 sth, .int .i64 sak, .int .i64 sat, .int .u64 sold, .int .u64 snew, .int .u64 sgot, .ls snl smn [.int .i64 smk, .int .u64 sma, .int .u64 smb]]] =>
   some (yAnd (preE ⟨kd, th, id, at_, ok, key, val, hi, most, rk, rv, nl, pn, pk, pv⟩ n) (yAnd (wfE ⟨kd, th, id, at_, ok, key, val, hi, most, rk, rv, nl, pn, pk, pv⟩ n) (preT ⟨sth, sak, sat, sold, snew, sgot, snl, smn, smk, sma, smb⟩ m)),
    .rows (yNot (gOk ⟨kd, th, id, at_, ok, key, val, hi, most, rk, rv, nl, pn, pk, pv⟩ n)) (gOkS ⟨kd, th, id, at_, ok, key, val, hi, most, rk, rv, nl, pn, pk, pv⟩ n ⟨sth, sak, sat, sold, snew, sgot, snl, smn, smk, sma, smb⟩ m) (colsSt ⟨kd, th, id, at_, ok, key, val, hi, most, rk, rv, nl, pn, pk, pv⟩ n ⟨sth, sak, sat, sold, snew, sgot, snl, smn, smk, sma, smb⟩ m), [])
 | _ => none
theorem smSt (hm : Try.prog.follows .mixedOrders = true) (hs : SmOK Try.prog (smL lSt)) : SmCall Try.prog 28 (λ args h => (ctX [sEv, sSts] rSt fSt args h).sel) :=
 ctX_ok hm hs (λ ds r post h => by
  unfold fSt at h
  split at h
  . rename_i nil n kd th id at_ ok key val hi most rk rv nl pn pk pv nilS m sth sak sat sold snew sgot snl smn smk sma smb
    simp only [sI, Prod.mk.injEq] at h
    obtain ⟨h1, rfl, rfl⟩ := h
    obtain ⟨h1, h3⟩ := yAnd_t.mp h1
    obtain ⟨h3, h4⟩ := yAnd_t.mp h3
    refine ⟨annSt ⟨kd, th, id, at_, ok, key, val, hi, most, rk, rv, nl, pn, pk, pv⟩ n ⟨sth, sak, sat, sold, snew, sgot, snl, smn, smk, sma, smb⟩ m, 1000, ?_⟩
    have h2 := @goalSt_ok
    unfold goalSt at h2
    revert h1 h3 h4
    exact @h2 ⟨kd, th, id, at_, ok, key, val, hi, most, rk, rv, nl, pn, pk, pv⟩ nil n ⟨sth, sak, sat, sold, snew, sgot, snl, smn, smk, sma, smb⟩ nilS m
  . cases h)
theorem prs_congr {n : Nat} {a b a' b' : Nat -> Int} (h : ∀ p, p < n -> a p = a' p /\ b p = b' p) : prs n a b = prs n a' b' := by
 unfold prs
 refine List.map_congr_left λ p hp => ?_
 obtain ⟨h1, h2⟩ := h p (List.mem_range.1 hp)
 rw [h1, h2]
theorem ps_lo {x y a b : Int} {L : List (Int × Int)} (h : a < x) : putStep x y (L, false) (a, b) = (L ++ [(a, b)], false) := by
 unfold putStep
 have h1 : ¬ x <= a := by omega
 have h2 : ¬ a = x := by omega
 simp [h1, h2]
theorem ps_eq {x y a b : Int} {L : List (Int × Int)} (h : a = x) : putStep x y (L, false) (a, b) = (L ++ [(x, y)], true) := by
 subst h
 unfold putStep
 simp
theorem ps_hi {x y a b : Int} {L : List (Int × Int)} (h : x < a) : putStep x y (L, false) (a, b) = (L ++ [(x, y)] ++ [(a, b)], true) := by
 unfold putStep
 have h1 : x <= a := by omega
 have h2 : ¬ a = x := by omega
 simp [h1, h2]
theorem ps_done {x y a b : Int} {L : List (Int × Int)} (h : x < a) : putStep x y (L, true) (a, b) = (L ++ [(a, b)], true) := by
 unfold putStep
 have h2 : ¬ a = x := by omega
 simp [h2]
theorem put_below {n : Nat} {k v : Nat -> Int} {x : Int} (y : Int) (h : Srt n k) : ∀ i, i <= pI n k x -> putSt x y (prs i k v) = (prs i k v, false)
 | 0, _ => rfl
 | i + 1, hi => by
   have ih := put_below (v := v) (x := x) y h i (by omega)
   rw [putSt_succ, ih, prs_succ, ps_lo ((pI_spec x h).2.1 i (by omega))]
theorem put_is {n : Nat} {k v : Nat -> Int} {x : Int} (y : Int) (h : Srt n k) (hs : pIs n k x = true) : ∀ j, pI n k x + 1 + j <= n -> putSt x y (prs (pI n k x + 1 + j) k v) = (prs (pI n k x + 1 + j) k (ptV n k v x y), true)
 | 0, _ => by
   obtain ⟨h1, h2⟩ := pIs_t.1 hs
   have e1 : ptV n k v x y (pI n k x) = y := by unfold ptV; rw [if_pos hs, if_pos rfl]
   have e2 : prs (pI n k x) k v = prs (pI n k x) k (ptV n k v x y) := prs_congr λ p hp => ⟨rfl, by unfold ptV; rw [if_pos hs, if_neg (by omega)]⟩
   rw [Nat.add_zero, putSt_succ, put_below y h _ (Nat.le_refl _), ps_eq h2, prs_succ, e1, e2, h2]
 | j + 1, hj => by
   have ih := put_is (v := v) y h hs j (by omega)
   obtain ⟨h1, h2⟩ := pIs_t.1 hs
   have hk : x < k (pI n k x + 1 + j) := by have := h (pI n k x + 1 + j) (pI n k x) (by omega) (by omega); rw [h2] at this; exact this
   have e1 : ptV n k v x y (pI n k x + 1 + j) = v (pI n k x + 1 + j) := by unfold ptV; rw [if_pos hs, if_neg (by omega)]
   rw [show pI n k x + 1 + (j + 1) = (pI n k x + 1 + j) + 1 by omega, putSt_succ, ih, prs_succ, ps_done hk, e1]
theorem put_not {n : Nat} {k v : Nat -> Int} {x : Int} (y : Int) (h : Srt n k) (hs : ¬ pIs n k x = true) : ∀ j, pI n k x + 1 + j <= n -> putSt x y (prs (pI n k x + 1 + j) k v) = (prs (pI n k x + 1 + j + 1) (ptK n k x) (ptV n k v x y), true)
 | 0, hj => by
   have hp : pI n k x < n := by omega
   have hk := (pI_spec x h).2.2 _ (Nat.le_refl _) hp
   have hne : k (pI n k x) ≠ x := λ e => hs (pIs_t.2 ⟨hp, e⟩)
   have e1 : ptK n k x (pI n k x) = x := by unfold ptK; rw [if_neg hs, if_neg (by omega), if_pos rfl]
   have e2 : ptV n k v x y (pI n k x) = y := by unfold ptV; rw [if_neg hs, if_neg (by omega), if_pos rfl]
   have e3 : ptK n k x (pI n k x + 1) = k (pI n k x) := by unfold ptK; rw [if_neg hs, if_neg (by omega), if_neg (by omega)]; rfl
   have e4 : ptV n k v x y (pI n k x + 1) = v (pI n k x) := by unfold ptV; rw [if_neg hs, if_neg (by omega), if_neg (by omega)]; rfl
   have e5 : prs (pI n k x) k v = prs (pI n k x) (ptK n k x) (ptV n k v x y) := prs_congr λ p hp => ⟨by unfold ptK; rw [if_neg hs, if_pos hp], by unfold ptV; rw [if_neg hs, if_pos hp]⟩
   rw [Nat.add_zero, putSt_succ, put_below y h _ (Nat.le_refl _), ps_hi (by omega), prs_succ, prs_succ, e1, e2, e3, e4, e5]
 | j + 1, hj => by
   have ih := put_not (v := v) y h hs j (by omega)
   have hp : pI n k x < n := by omega
   have hk := (pI_spec x h).2.2 _ (Nat.le_refl _) hp
   have hlt := h (pI n k x + 1 + j) (pI n k x) (by omega) (by omega)
   have e3 : ptK n k x (pI n k x + 1 + j + 1) = k (pI n k x + 1 + j) := by unfold ptK; rw [if_neg hs, if_neg (by omega), if_neg (by omega)]; rfl
   have e4 : ptV n k v x y (pI n k x + 1 + j + 1) = v (pI n k x + 1 + j) := by unfold ptV; rw [if_neg hs, if_neg (by omega), if_neg (by omega)]; rfl
   rw [show pI n k x + 1 + (j + 1) = (pI n k x + 1 + j) + 1 by omega, putSt_succ, ih, prs_succ (pI n k x + 1 + j + 1), ps_done (by omega), e3, e4]
theorem put_prs {n : Nat} {k v : Nat -> Int} (x y : Int) (h : Srt n k) : putL x y (prs n k v) = prs (ptN n k x) (ptK n k x) (ptV n k v x y) := by
 have hle := (pI_spec x h).1
 unfold putL putO putD
 by_cases hs : pIs n k x = true
 . obtain ⟨h1, h2⟩ := pIs_t.1 hs
   have := put_is (v := v) y h hs (n - (pI n k x + 1)) (by omega)
   rw [show pI n k x + 1 + (n - (pI n k x + 1)) = n by omega] at this
   rw [this]
   simp only [if_true]
   have e : ptN n k x = n := if_pos hs
   rw [e]
   exact prs_congr λ p _ => ⟨(if_pos hs).symm, rfl⟩
 . have e : ptN n k x = n + 1 := if_neg hs
   rw [e]
   by_cases hp : pI n k x < n
   . have := put_not (v := v) y h hs (n - (pI n k x + 1)) (by omega)
     rw [show pI n k x + 1 + (n - (pI n k x + 1)) = n by omega] at this
     rw [this]
     simp only [if_true]
   . have hpn : pI n k x = n := by omega
     have := put_below (v := v) (x := x) y h n (by omega)
     rw [this]
     simp only [Bool.false_eq_true, if_false]
     rw [prs_succ]
     have e1 : ptK n k x n = x := by unfold ptK; rw [if_neg hs, if_neg (by omega), if_pos hpn.symm]
     have e2 : ptV n k v x y n = y := by unfold ptV; rw [if_neg hs, if_neg (by omega), if_pos hpn.symm]
     rw [e1, e2]
     congr 1
     exact prs_congr λ p hp => ⟨by unfold ptK; rw [if_neg hs, if_pos (by omega)], by unfold ptV; rw [if_neg hs, if_pos (by omega)]⟩
theorem drop_step (x : Int) (i : Nat) (k v : Nat -> Int) : dropL x (prs (i + 1) k v) = dropL x (prs i k v) ++ (if k i = x then [] else [(k i, v i)]) := by
 rw [prs_succ]; unfold dropL; rw [List.filter_append]
 by_cases h : k i = x <;> simp [h]
theorem drop_prs_i {n : Nat} {k v : Nat -> Int} (x : Int) (h : Srt n k) : ∀ i, i <= n -> dropL x (prs i k v) = if pIs n k x = true /\ pI n k x < i then prs (i - 1) (drK n k k x) (drK n k v x) else prs i k v
 | 0, _ => by rw [if_neg (by omega)]; rfl
 | i + 1, hi => by
   rw [drop_step, drop_prs_i x h i (by omega)]
   by_cases hs : pIs n k x = true
   . obtain ⟨h1, h2⟩ := pIs_t.1 hs
     by_cases c : pI n k x < i
     . have hlt : x < k i := by have := h i (pI n k x) c (by omega); rw [h2] at this; exact this
       rw [if_neg (show ¬ k i = x by omega), if_pos (show pIs n k x = true /\ pI n k x < i from ⟨hs, c⟩), if_pos (show pIs n k x = true /\ pI n k x < i + 1 from ⟨hs, by omega⟩)]
       obtain ⟨j, rfl⟩ : ∃ j, i = j + 1 := ⟨i - 1, by omega⟩
       have e1 : drK n k k x j = k (j + 1) := by unfold drK; rw [if_pos hs, if_neg (by omega)]
       have e2 : drK n k v x j = v (j + 1) := by unfold drK; rw [if_pos hs, if_neg (by omega)]
       show prs j _ _ ++ _ = prs (j + 1) _ _
       rw [prs_succ, e1, e2]
     . rw [if_neg (show ¬ (pIs n k x = true /\ pI n k x < i) from λ e => c e.2)]
       by_cases d : pI n k x = i
       . rw [if_pos (show k i = x by rw [<- d]; exact h2), if_pos (show pIs n k x = true /\ pI n k x < i + 1 from ⟨hs, by omega⟩), List.append_nil]
         show prs i _ _ = prs i _ _
         exact prs_congr λ p hp => ⟨by unfold drK; rw [if_pos hs, if_pos (by omega)], by unfold drK; rw [if_pos hs, if_pos (by omega)]⟩
       . have hlt : k i < x := by have := h (pI n k x) i (by omega) h1; rw [h2] at this; exact this
         rw [if_neg (show ¬ (pIs n k x = true /\ pI n k x < i + 1) from λ e => by omega), if_neg (show ¬ k i = x by omega), prs_succ]
   . have hne : ¬ k i = x := λ e => by
      obtain ⟨q1, q2, q3⟩ := pI_spec x h
      rcases Nat.lt_trichotomy i (pI n k x) with c | c | c
      . have := q2 i c; omega
      . exact hs (pIs_t.2 ⟨by omega, by rw [<- c]; exact e⟩)
      . have a1 := q3 (pI n k x) (Nat.le_refl _) (by omega)
        have a2 := h i (pI n k x) c (by omega)
        omega
     rw [if_neg (show ¬ (pIs n k x = true /\ pI n k x < i) from λ e => hs e.1), if_neg (show ¬ (pIs n k x = true /\ pI n k x < i + 1) from λ e => hs e.1), if_neg hne, prs_succ]
theorem drop_prs {n : Nat} {k v : Nat -> Int} (x : Int) (h : Srt n k) : dropL x (prs n k v) = prs (drN n k x) (drK n k k x) (drK n k v x) := by
 rw [drop_prs_i x h n (Nat.le_refl _)]
 by_cases hs : pIs n k x = true
 . obtain ⟨h1, h2⟩ := pIs_t.1 hs
   rw [if_pos ⟨hs, h1⟩, show drN n k x = n - 1 from if_pos hs]
 . rw [if_neg (λ e => hs e.1), show drN n k x = n from if_neg hs]
   exact prs_congr λ p _ => ⟨(if_neg hs).symm, (if_neg hs).symm⟩
def afL (kd x y : Int) (l : List (Int × Int)) : List (Int × Int) := if kd = 2 then putL x y l else if kd = 3 then dropL x l else l
theorem af_prs {n : Nat} {k v : Nat -> Int} (kd x y : Int) (h : Srt n k) : afL kd x y (prs n k v) = prs (doN kd n k x) (doKy kd n k x) (doVl kd n k v x y) := by
 unfold afL doN doKy doVl
 by_cases a : kd = 2
 . simp only [if_pos a]; exact put_prs x y h
 . simp only [if_neg a]
   by_cases b : kd = 3
   . simp only [if_pos b]; exact drop_prs x h
   . simp only [if_neg b]
def lAt : List (Nat × Sm) := [(47, .ct (ctX [roP, .sc, .sc] ownP fPut)), (48, .ct (ctX [roP, .sc] ownP fDrop))]
abbrev sPp : Sx := .pl [.int .u64, .int .u64]
def goalRaf : Prop := ∀ (nl : Bool) (n : Nat) (a0 a1 : Nat -> Int) (kd x y hi mo : Int), yNle n 1000000 = true -> yIff nl (yNeq n 0) = true →
 wxH Try.prog (smL lAt) (λ _ => none) 27 [sPp, sOpx] [.rows nl n (cols2 a0 a1), dOpx kd x y hi mo] rPp (rowsL (afL kd x y (prs n a0 a1))) []
theorem prs_back {n : Nat} {a b : Nat -> Int} : rN (prs n a b) = n /\ (∀ p, p < n -> rA (prs n a b) p = a p /\ rB (prs n a b) p = b p) /\ rE (prs n a b) = yNeq n 0 := by
 refine ⟨prs_len n a b, λ p hp => ?_, ?_⟩
 . unfold rA rB prs
   rw [List.getD_eq_getElem?_getD, List.getElem?_map, List.getElem?_range hp]
   exact ⟨rfl, rfl⟩
 . unfold rE
   have := prs_len n a b
   cases h : prs n a b with
   | nil => rw [h] at this; exact (decide_eq_true this.symm).symm
   | cons x l => rw [h] at this; exact (decide_eq_false (by simp at this; omega)).symm
def goalRafV : Prop := (∀ (nl : Bool) (n : Nat) (a0 a1 : Nat -> Int) (kd x y hi mo : Int), yNle n (nat_lit 1000000) = true -> yIff nl (yNeq n 0) = true -> (yEq kd (2 : Int) = true -> mst (yCol (CK.int .u64) n λ (i : Nat) => AV.y .u64 (a0 i)) (mst (yCol (CK.int .u64) n λ (i : Nat) => AV.y .u64 (a1 i)) (mst (yNle n 1000000) (rE (afL kd x y (prs n a0 a1)) = rE (putL x y (prs n (λ (i : Nat) => a0 i) λ (i : Nat) => a1 i)) /\ rN (afL kd x y (prs n a0 a1)) = rN (putL x y (prs n (λ (i : Nat) => a0 i) λ (i : Nat) => a1 i)) /\ yNadd 0 (rN (putL x y (prs n (λ (i : Nat) => a0 i) λ (i : Nat) => a1 i))) <= rN (putL x y (prs n (λ (i : Nat) => a0 i) λ (i : Nat) => a1 i)) /\ (∀ (i : Nat), Nat.succ i <= rN (afL kd x y (prs n a0 a1)) -> rA (afL kd x y (prs n a0 a1)) i = rA (putL x y (prs n (λ (i : Nat) => a0 i) λ (i : Nat) => a1 i)) (yNadd 0 i) /\ rB (afL kd x y (prs n a0 a1)) i = rB (putL x y (prs n (λ (i : Nat) => a0 i) λ (i : Nat) => a1 i)) (yNadd 0 i) /\ True) /\ true = true)))) /\ (yEq kd (2 : Int) = false -> (yEq kd (3 : Int) = true -> mst (yCol (CK.int .u64) n λ (i : Nat) => AV.y .u64 (a0 i)) (mst (yCol (CK.int .u64) n λ (i : Nat) => AV.y .u64 (a1 i)) (mst (yNle n 1000000) (rE (afL kd x y (prs n a0 a1)) = rE (dropL x (prs n (λ (i : Nat) => a0 i) λ (i : Nat) => a1 i)) /\ rN (afL kd x y (prs n a0 a1)) = rN (dropL x (prs n (λ (i : Nat) => a0 i) λ (i : Nat) => a1 i)) /\ yNadd 0 (rN (dropL x (prs n (λ (i : Nat) => a0 i) λ (i : Nat) => a1 i))) <= rN (dropL x (prs n (λ (i : Nat) => a0 i) λ (i : Nat) => a1 i)) /\ (∀ (i : Nat), Nat.succ i <= rN (afL kd x y (prs n a0 a1)) -> rA (afL kd x y (prs n a0 a1)) i = rA (dropL x (prs n (λ (i : Nat) => a0 i) λ (i : Nat) => a1 i)) (yNadd 0 i) /\ rB (afL kd x y (prs n a0 a1)) i = rB (dropL x (prs n (λ (i : Nat) => a0 i) λ (i : Nat) => a1 i)) (yNadd 0 i) /\ True) /\ true = true)))) /\ (yEq kd (3 : Int) = false -> (rE (afL kd x y (prs n a0 a1)) = nl /\ rN (afL kd x y (prs n a0 a1)) = n /\ ∀ (i : Nat), Nat.succ i <= rN (afL kd x y (prs n a0 a1)) -> rA (afL kd x y (prs n a0 a1)) i = a0 i /\ rB (afL kd x y (prs n a0 a1)) i = a1 i /\ True) /\ true = true)))
theorem goalRaf_eq : goalRaf = goalRafV := by kernel_rfl
set_option maxHeartbeats 8000000 in
theorem goalRaf_vc : goalRafV := by
 unfold goalRafV
 intro nl n a0 a1 kd x y hi mo hn hnl
 have c1 : (yCol (CK.int .u64) n λ (i : Nat) => AV.y .u64 (a0 i)) = true := yCol_int
 have c2 : (yCol (CK.int .u64) n λ (i : Nat) => AV.y .u64 (a1 i)) = true := yCol_int
 have z0 : ∀ q, yNadd 0 q = q := Nat.zero_add
 simp only [z0]
 cases e2 : yEq kd 2 with
 | true =>
   have k2 : kd = 2 := of_decide_eq_true e2
   have ha : afL kd x y (prs n a0 a1) = putL x y (prs n a0 a1) := if_pos k2
   refine fork_t rfl (mstI c1 (mstI c2 (mstI hn ?_)))
   rw [ha]
   repeat' (first | exact trivial | with_reducible rfl | exact Nat.le_refl _ | apply And.intro | intro _ | rfl)
 | false =>
   have k2 : ¬ kd = 2 := of_decide_eq_false e2
   refine fork_f rfl ?_
   cases e3 : yEq kd 3 with
   | true =>
     have k3 : kd = 3 := of_decide_eq_true e3
     have ha : afL kd x y (prs n a0 a1) = dropL x (prs n a0 a1) := (if_neg k2).trans (if_pos k3)
     refine fork_t rfl (mstI c1 (mstI c2 (mstI hn ?_)))
     rw [ha]
     repeat' (first | exact trivial | with_reducible rfl | exact Nat.le_refl _ | apply And.intro | intro _ | rfl)
   | false =>
     have k3 : ¬ kd = 3 := of_decide_eq_false e3
     have ha : afL kd x y (prs n a0 a1) = prs n a0 a1 := (if_neg k2).trans (if_neg k3)
     obtain ⟨p1, p2, p3⟩ := prs_back (n := n) (a := a0) (b := a1)
     have hnn : nl = yNeq n 0 := by
      revert hnl; cases nl <;> cases yNeq n 0 <;> decide
     refine fork_f rfl ?_
     rw [ha]
     refine ⟨⟨?_, p1, λ p hp => ?_⟩, ?_⟩
     . rw [p3, hnn]
     . rw [p1] at hp
       exact ⟨(p2 p hp).1, (p2 p hp).2, trivial⟩
     . first | trivial | rfl
theorem goalRaf_tt : (goalRaf) = True := goalRaf_eq.trans (eq_true goalRaf_vc)
theorem goalRaf_ok : goalRaf := @ft' goalRaf goalRaf_tt
def fRaf (ds : List Dx) : Option (Bool × Dx × List (List Dx)) :=
 match ds with
 | [.rows nl n [.int .u64 a0, .int .u64 a1], .l [.v (.y .i64 kd), .v (.y .u64 x), .v (.y .u64 y), .v (.y .u64 _), .v (.y .i64 _)]] => some (yAnd (yNle n 1000000) (yIff nl (yNeq n 0)), rowsL (afL kd x y (prs n a0 a1)), [])
 | _ => none
theorem smRaf (hm : Try.prog.follows .mixedOrders = true) (hs : SmOK Try.prog (smL lAt)) : SmCall Try.prog 27 (λ args h => (ctX [sPp, sOpx] rPp fRaf args h).sel) :=
 ctX_ok hm hs (λ ds r post h => by
  unfold fRaf at h
  split at h
  . rename_i nl n a0 a1 kd x y hi mo
    simp only [sI, Prod.mk.injEq] at h
    obtain ⟨h1, rfl, rfl⟩ := h
    obtain ⟨h1, h3⟩ := yAnd_t.mp h1
    have h2 := @goalRaf_ok
    unfold goalRaf at h2
    exact ⟨_, 1000, @h2 nl n a0 a1 kd x y hi mo h1 h3⟩
  . cases h)
structure RcS where
 id : Nat -> Int
 th : Nat -> Int
 ok : Nat -> Int
 key : Nat -> Int
 val : Nat -> Int
 hi : Nat -> Int
 most : Nat -> Int
 fr : Nat -> Int
 to_ : Nat -> Int
 ov : Nat -> Bool
 rk : Nat -> Int
 rv : Nat -> Int
 nl : Nat -> Bool
 pn : Nat -> Nat
 pk : Nat -> Nat -> Int
 pv : Nat -> Nat -> Int
instance : Inhabited RcS := ⟨⟨λ _ => 0, λ _ => 0, λ _ => 0, λ _ => 0, λ _ => 0, λ _ => 0, λ _ => 0, λ _ => 0, λ _ => 0, λ _ => false, λ _ => 0, λ _ => 0, λ _ => true, λ _ => 0, λ _ _ => 0, λ _ _ => 0⟩⟩
def qId (C : RcS) (i : Nat) : Int := C.id i
def qTh (C : RcS) (i : Nat) : Int := C.th i
def qOk (C : RcS) (i : Nat) : Int := C.ok i
def qKey (C : RcS) (i : Nat) : Int := C.key i
def qVal (C : RcS) (i : Nat) : Int := C.val i
def qHi (C : RcS) (i : Nat) : Int := C.hi i
def qMost (C : RcS) (i : Nat) : Int := C.most i
def qFr (C : RcS) (i : Nat) : Int := C.fr i
def qTo (C : RcS) (i : Nat) : Int := C.to_ i
def qOv (C : RcS) (i : Nat) : Bool := C.ov i
def qRk (C : RcS) (i : Nat) : Int := C.rk i
def qRv (C : RcS) (i : Nat) : Int := C.rv i
def qNl (C : RcS) (i : Nat) : Bool := C.nl i
def qPn (C : RcS) (i : Nat) : Nat := C.pn i
def qPk (C : RcS) (i j : Nat) : Int := C.pk i j
def qPv (C : RcS) (i j : Nat) : Int := C.pv i j
abbrev colsQ (C : RcS) : List Col := colsC (qId C) (qTh C) (qOk C) (qKey C) (qVal C) (qHi C) (qMost C) (qFr C) (qTo C) (qOv C) (qRk C) (qRv C) (qNl C) (qPn C) (qPk C) (qPv C)
def flC (C : RcS) (j : Nat) : Bool := fullE (qOv C j) (qOk C j) (qRk C j) (qRv C j) (qPn C j) (qPk C j) (qPv C j)
def evC (C : RcS) (N : Nat) (S : StS) (t : Nat) : Option Nat := if effB (sMn S t) (sMk S t) = true then (List.range N).find? (wsB (qTh C) (qFr C) (qTo C) (qOv C) (sTh S t) t) else none
def evCL (C : RcS) (N : Nat) (S : StS) (m : Nat) : List Nat := (List.range m).filterMap (evC C N S)
def atCL (C : RcS) (N : Nat) (S : StS) (m : Nat) : List Nat := (List.range m).filterMap λ t => if (evC C N S t).isSome = true then some t else none
def stepD (C : RcS) (j : Nat) (m : MpS) : MpS := if qOk C j = 4 ∨ flC C j = true then m else ⟨false, false, doN (qOk C j) m.n m.k (qKey C j), doKy (qOk C j) m.n m.k (qKey C j), doVl (qOk C j) m.n m.k m.v (qKey C j) (qVal C j)⟩
def dS (C : RcS) (N : Nat) (S : StS) (m : Nat) : Nat -> MpS
 | 0 => ⟨true, true, 0, λ _ => 0, λ _ => 0⟩
 | q + 1 => stepD C ((evCL C N S m)[q]?.getD 0) (dS C N S m q)
def dC (C : RcS) (N : Nat) (S : StS) (i : Nat) : Nat := (evCL C N S i).length
def dFr (C : RcS) (N : Nat) (S : StS) (m q : Nat) : Int := match q with | 0 => 0 | q + 1 => (((atCL C N S m)[q]?.getD 0 : Nat) : Int)
def dN (C : RcS) (N : Nat) (S : StS) (m q : Nat) : Nat := (dS C N S m q).n
def dK (C : RcS) (N : Nat) (S : StS) (m q p : Nat) : Int := (dS C N S m q).k p
def dV (C : RcS) (N : Nat) (S : StS) (m q p : Nat) : Int := (dS C N S m q).v p
abbrev colsD (C : RcS) (N : Nat) (S : StS) (m : Nat) : List Col := [.int .i64 (dFr C N S m), .ls (λ q => yNeq (dN C N S m q) 0) (dN C N S m) [.int .u64 (dK C N S m), .int .u64 (dV C N S m)]]
def preQ (C : RcS) (N : Nat) : Bool := decide (N <= 200 /\ ∀ j, j < N -> qId C j = (j : Int) + 1 /\ qPn C j <= 1000000)
def prDt (m i : Nat) : Prop := i <= m
def mDt (m i : Nat) : Nat := m - i
def annDt (C : RcS) (N : Nat) (S : StS) (m : Nat) (b : Nat) : Option (St -> LoopA) :=
 match b with
 | 0 => some λ z => { ι := Nat, tms := [5, 6, 7], tmU := λ i => [.ysl false false z.h.nx 2 0 (yNadd (dC C N S i) 1), .lst false (yNeq (dN C N S m (dC C N S i)) 0) 2 (dN C N S m (dC C N S i)) (colF [.int .u64 (dK C N S m (dC C N S i)), .int .u64 (dV C N S m (dC C N S i))]), .y .i64 (yInt i)], ids := [z.h.nx], hpU := λ i => [.arr false 130 2 (yNadd (dC C N S i) 1) (colF (colsD C N S m))], del := [slI' z 5], ex := 1, pre := prDt m, ms := mDt m }
 | _ => none
def lDt : List (Nat × Sm) := [(62, .ct (ctX [sRp, .sc, .sc] .sc fWs)), (63, .ct (ctX [sStp] .sc fEf)), (24, .ct (ctS gCa fFu)), (27, .ct (ctX [sPp, sOpx] rPp fRaf))]
def goalDt : Prop := ∀ (C : RcS) (nil : Bool) (N : Nat) (S : StS) (nilS : Bool) (m : Nat), preQ C N = true -> preT S m = true →
 wxH Try.prog (smL lDt) (annDt C N S m) 32 [sRp, sSts] [.rows nil N (colsQ C), .rows nilS m (colsS S)] rSt (.rows false (yNadd (dC C N S m) 1) (colsD C N S m)) []
theorem evCL_step (C : RcS) (N : Nat) (S : StS) (i : Nat) : evCL C N S (i + 1) = evCL C N S i ++ (evC C N S i).toList := by
 unfold evCL
 rw [List.range_succ, List.filterMap_append]
 congr 1
theorem atCL_step (C : RcS) (N : Nat) (S : StS) (i : Nat) : atCL C N S (i + 1) = atCL C N S i ++ (if (evC C N S i).isSome = true then [i] else []) := by
 unfold atCL
 rw [List.range_succ, List.filterMap_append]
 congr 1
 cases h : evC C N S i <;> simp [h]
theorem atCL_len (C : RcS) (N : Nat) (S : StS) : ∀ i, (atCL C N S i).length = (evCL C N S i).length
 | 0 => rfl
 | i + 1 => by
   have := atCL_len C N S i
   rw [atCL_step, evCL_step]
   cases h : evC C N S i <;> simp [this]
theorem pre_step {α : Type} {f : Nat -> List α} (hs : ∀ i, ∃ l, f (i + 1) = f i ++ l) {i m : Nat} (h : i <= m) : ∃ l, f m = f i ++ l := by
 induction m with
 | zero => obtain rfl : i = 0 := by omega
           exact ⟨[], (List.append_nil _).symm⟩
 | succ m ih =>
   by_cases e : i = m + 1
   . subst e; exact ⟨[], (List.append_nil _).symm⟩
   . obtain ⟨l, hl⟩ := ih (by omega)
     obtain ⟨l2, h2⟩ := hs m
     exact ⟨l ++ l2, by rw [h2, hl, List.append_assoc]⟩
theorem dC_le (C : RcS) (N : Nat) (S : StS) (i : Nat) : dC C N S i <= i := by
 unfold dC evCL
 exact Nat.le_trans (List.length_filterMap_le _ _) (by simp)
theorem doN_le (kd : Int) (n : Nat) (k : Nat -> Int) (x : Int) : doN kd n k x <= n + 1 := by
 unfold doN ptN drN
 repeat' split
 all_goals omega
theorem srt_do {n : Nat} {k : Nat -> Int} (kd x : Int) (h : Srt n k) : Srt (doN kd n k x) (doKy kd n k x) := by
 unfold doN doKy
 by_cases b : kd = 2
 . simp only [if_pos b]; exact srt_pt x h
 . simp only [if_neg b]
   by_cases c : kd = 3
   . simp only [if_pos c]; exact srt_dr x h
   . simp only [if_neg c]; exact h
theorem dInv (C : RcS) (N : Nat) (S : StS) (m : Nat) : ∀ q, Srt (dS C N S m q).n (dS C N S m q).k /\ (dS C N S m q).n <= q
 | 0 => ⟨λ i j _ h => absurd h (Nat.not_lt_zero _), Nat.le_refl _⟩
 | q + 1 => by
   obtain ⟨h1, h2⟩ := dInv C N S m q
   show Srt (stepD C _ (dS C N S m q)).n (stepD C _ (dS C N S m q)).k /\ (stepD C _ (dS C N S m q)).n <= q + 1
   unfold stepD
   split
   . exact ⟨h1, by omega⟩
   . exact ⟨srt_do _ _ h1, by show doN _ _ _ _ <= _; have := doN_le (qOk C ((evCL C N S m)[q]?.getD 0)) (dS C N S m q).n (dS C N S m q).k (qKey C ((evCL C N S m)[q]?.getD 0)); omega⟩
def goalDt_4 (N : Nat) (C : RcS) (S : StS) (i : Nat) := wsV N (λ (i : Nat) => qId C i) (λ (i : Nat) => qTh C i) (λ (i : Nat) => qFr C i) (λ (i : Nat) => qTo C i) (λ (i : Nat) => qOv C i) (sTh S (yNat (yInt i))) (yInt i)
def goalDt_0 (N : Nat) (C : RcS) (S : StS) (i : Nat) := yWrap .i64 (ySub (goalDt_4 N C S i) 1)
def goalDt_3 (C : RcS) (N : Nat) (S : StS) (m : Nat) (i' : Nat) (i : Nat) := yNeq (dN C N S m (dC C N S i')) (nat_lit 0) = yNeq (dN C N S m (dC C N S i)) 0 /\ dN C N S m (dC C N S i') = dN C N S m (dC C N S i) /\ ∀ (i_1 : Nat), Nat.succ i_1 <= dN C N S m (dC C N S i') -> dK C N S m (dC C N S i') i_1 = dK C N S m (dC C N S i) i_1 /\ dV C N S m (dC C N S i') i_1 = dV C N S m (dC C N S i) i_1 /\ True
def goalDt_1 (C : RcS) (N : Nat) (S : StS) (i : Nat) (m : Nat) := mst (yGrow (yNadd (yNadd (dC C N S i) 1) 1) 32) (true = true /\ ∃ (i' : Nat), prDt m i' /\ Nat.succ (mDt m i') <= mDt m i /\ true = true /\ false = yAnd false (yNeq 1 0) /\ nat_lit 0 = nat_lit 0 /\ yNadd (dC C N S i') (nat_lit 1) = yNadd (yNadd (dC C N S i) 1) 1 /\ (goalDt_3 C N S m i' i) /\ yInt i' = yWrap .i64 (yAdd (yInt i) 1) /\ yNadd (dC C N S i') (nat_lit 1) = yNadd (yNadd (dC C N S i) 1) 1 /\ (∀ (i_1 : Nat), Nat.succ i_1 <= yNadd (dC C N S i') 1 -> dFr C N S m i_1 = ySel (yNlt i_1 (yNadd (dC C N S i) 1)) (dFr C N S m i_1) (yInt i) /\ (yNeq (dN C N S m i_1) (nat_lit 0) = ySelB (yNlt i_1 (yNadd (dC C N S i) 1)) (yNeq (dN C N S m i_1) 0) (yNeq (dN C N S m (dC C N S i)) 0) /\ dN C N S m i_1 = ySelN (yNlt i_1 (yNadd (dC C N S i) 1)) (dN C N S m i_1) (dN C N S m (dC C N S i)) /\ ∀ (i_2 : Nat), Nat.succ i_2 <= dN C N S m i_1 -> dK C N S m i_1 i_2 = ySel (yNlt i_1 (yNadd (dC C N S i) 1)) (dK C N S m i_1 i_2) (dK C N S m (dC C N S i) i_2) /\ dV C N S m i_1 i_2 = ySel (yNlt i_1 (yNadd (dC C N S i) 1)) (dV C N S m i_1 i_2) (dV C N S m (dC C N S i) i_2) /\ True) /\ True) /\ true = true)
def goalDt_2 (C : RcS) (N : Nat) (S : StS) (i : Nat) (m : Nat) := afL (qOk C (yNat (goalDt_0 N C S i))) (qKey C (yNat (goalDt_0 N C S i))) (qVal C (yNat (goalDt_0 N C S i))) (prs (dN C N S m (dC C N S i)) (λ (i_2 : Nat) => dK C N S m (dC C N S i) i_2) λ (i_2 : Nat) => dV C N S m (dC C N S i) i_2)
def goalDt_5 (C : RcS) (N : Nat) (S : StS) (i' : Nat) (m : Nat) := ∀ (i : Nat), Nat.succ i <= yNadd (dC C N S i') 1 -> dFr C N S m i = dFr C N S m i /\ (yNeq (dN C N S m i) (nat_lit 0) = yNeq (dN C N S m i) 0 /\ dN C N S m i = dN C N S m i /\ ∀ (i_1 : Nat), Nat.succ i_1 <= dN C N S m i -> dK C N S m i i_1 = dK C N S m i i_1 /\ dV C N S m i i_1 = dV C N S m i i_1 /\ True) /\ True
def goalDt_6 (C : RcS) (N : Nat) (S : StS) (i : Nat) := fullE (qOv C (yNat (goalDt_0 N C S i))) (qOk C (yNat (goalDt_0 N C S i))) (qRk C (yNat (goalDt_0 N C S i))) (qRv C (yNat (goalDt_0 N C S i))) (qPn C (yNat (goalDt_0 N C S i))) (λ (i_1 : Nat) => qPk C (yNat (goalDt_0 N C S i)) i_1) λ (i_1 : Nat) => qPv C (yNat (goalDt_0 N C S i)) i_1
def goalDtV : Prop := (∀ (C : RcS) (nil : Bool) (N : Nat) (S : StS) (nilS : Bool) (m : Nat), preQ C N = true -> preT S m = true -> true = true /\ (∃ (i0 : Nat), prDt m i0 /\ true = true /\ false = false /\ nat_lit 0 = nat_lit 0 /\ yNadd (dC C N S i0) (nat_lit 1) = nat_lit 1 /\ yNeq (dN C N S m (dC C N S i0)) (nat_lit 0) = true /\ dN C N S m (dC C N S i0) = nat_lit 0 /\ yInt i0 = (0 : Int) /\ yNadd (dC C N S i0) (nat_lit 1) = nat_lit 1 /\ ((dFr C N S m (nat_lit 0) = (0 : Int) /\ (yNeq (dN C N S m 0) (nat_lit 0) = true /\ dN C N S m (nat_lit 0) = nat_lit 0) /\ True) /\ True) /\ true = true) /\ ∀ (g : Nat -> AV) (i : Nat), prDt m i -> (yLt (yInt i) (yInt m) = true -> mst (yIn (yInt i) m) (mst (yCol (CK.int .i64) N λ (i : Nat) => AV.y .i64 (qId C i)) (mst (yCol (CK.int .i64) N λ (i : Nat) => AV.y .i64 (qTh C i)) (mst (yCol (CK.int .i64) N λ (i : Nat) => AV.y .i64 (qOk C i)) (mst (yCol (CK.int .u64) N λ (i : Nat) => AV.y .u64 (qKey C i)) (mst (yCol (CK.int .u64) N λ (i : Nat) => AV.y .u64 (qVal C i)) (mst (yCol (CK.int .u64) N λ (i : Nat) => AV.y .u64 (qHi C i)) (mst (yCol (CK.int .i64) N λ (i : Nat) => AV.y .i64 (qMost C i)) (mst (yCol (CK.int .i64) N λ (i : Nat) => AV.y .i64 (qFr C i)) (mst (yCol (CK.int .i64) N λ (i : Nat) => AV.y .i64 (qTo C i)) (mst (yCol CK.bool N λ (i : Nat) => AV.yb (qOv C i)) (mst (yCol (CK.int .i64) N λ (i : Nat) => AV.y .i64 (qRk C i)) (mst (yCol (CK.int .u64) N λ (i : Nat) => AV.y .u64 (qRv C i)) (mst (yCol (CK.ls [K1.int .u64, K1.int .u64]) N λ (i : Nat) => AV.lst false (qNl C i) 2 (qPn C i) (cl2F [Cl2.int .u64 (qPk C), Cl2.int .u64 (qPv C)] i)) (mst (yNle N 1000000) ((yEq (goalDt_4 N C S i) (0 : Int) = true -> true = true /\ ∃ (i' : Nat), prDt m i' /\ Nat.succ (mDt m i') <= mDt m i /\ true = true /\ false = false /\ nat_lit 0 = nat_lit 0 /\ yNadd (dC C N S i') (nat_lit 1) = yNadd (dC C N S i) 1 /\ (goalDt_3 C N S m i' i) /\ yInt i' = yWrap .i64 (yAdd (yInt i) 1) /\ yNadd (dC C N S i') (nat_lit 1) = yNadd (dC C N S i) 1 /\ (goalDt_5 C N S i' m) /\ true = true) /\ (yEq (goalDt_4 N C S i) (0 : Int) = false -> mst (yIn (yInt i) m) (mst (yCol (CK.int .i64) (sMn S (yNat (yInt i))) λ (i_1 : Nat) => AV.y .i64 (sMk S (yNat (yInt i)) i_1)) (mst (yCol (CK.int .u64) (sMn S (yNat (yInt i))) λ (i_1 : Nat) => AV.y .u64 (sMa S (yNat (yInt i)) i_1)) (mst (yCol (CK.int .u64) (sMn S (yNat (yInt i))) λ (i_1 : Nat) => AV.y .u64 (sMb S (yNat (yInt i)) i_1)) (mst (yNle (sMn S (yNat (yInt i))) 1000000) ((yNot (effB (sMn S (yNat (yInt i))) λ (i_1 : Nat) => sMk S (yNat (yInt i)) i_1) = true -> true = true /\ ∃ (i' : Nat), prDt m i' /\ Nat.succ (mDt m i') <= mDt m i /\ true = true /\ false = false /\ nat_lit 0 = nat_lit 0 /\ yNadd (dC C N S i') (nat_lit 1) = yNadd (dC C N S i) 1 /\ (goalDt_3 C N S m i' i) /\ yInt i' = yWrap .i64 (yAdd (yInt i) 1) /\ yNadd (dC C N S i') (nat_lit 1) = yNadd (dC C N S i) 1 /\ (goalDt_5 C N S i' m) /\ true = true) /\ (yNot (effB (sMn S (yNat (yInt i))) λ (i_1 : Nat) => sMk S (yNat (yInt i)) i_1) = false -> mst (yIn (goalDt_0 N C S i) N) ((yNot (yEq (qOk C (yNat (goalDt_0 N C S i))) 4) = true -> mst (yIn (goalDt_0 N C S i) N) (mst (yCol (CK.int .u64) (qPn C (yNat (goalDt_0 N C S i))) λ (i_1 : Nat) => AV.y .u64 (qPk C (yNat (goalDt_0 N C S i)) i_1)) (mst (yCol (CK.int .u64) (qPn C (yNat (goalDt_0 N C S i))) λ (i_1 : Nat) => AV.y .u64 (qPv C (yNat (goalDt_0 N C S i)) i_1)) (mst (yNle (qPn C (yNat (goalDt_0 N C S i))) 1000000) ((yNot (goalDt_6 C N S i) = true -> mst (yIn (goalDt_0 N C S i) N) (mst (yCol (CK.int .u64) (dN C N S m (dC C N S i)) λ (i_1 : Nat) => AV.y .u64 (dK C N S m (dC C N S i) i_1)) (mst (yCol (CK.int .u64) (dN C N S m (dC C N S i)) λ (i_1 : Nat) => AV.y .u64 (dV C N S m (dC C N S i) i_1)) (mst (yAnd (yNle (dN C N S m (dC C N S i)) 1000000) (yIff (yNeq (dN C N S m (dC C N S i)) 0) (yNeq (dN C N S m (dC C N S i)) 0))) (mst (yNeq (yNadd (dC C N S i) 1) (yNadd (dC C N S i) 1)) (mst (yGrow (yNadd (yNadd (dC C N S i) 1) 1) 32) (true = true /\ ∃ (i' : Nat), prDt m i' /\ Nat.succ (mDt m i') <= mDt m i /\ true = true /\ false = yAnd false (yNeq 1 0) /\ nat_lit 0 = nat_lit 0 /\ yNadd (dC C N S i') (nat_lit 1) = yNadd (yNadd (dC C N S i) 1) 1 /\ (yNeq (dN C N S m (dC C N S i')) (nat_lit 0) = rE (afL (qOk C (yNat (goalDt_0 N C S i))) (qKey C (yNat (goalDt_0 N C S i))) (qVal C (yNat (goalDt_0 N C S i))) (prs (dN C N S m (dC C N S i)) (λ (i_1 : Nat) => dK C N S m (dC C N S i) i_1) λ (i_1 : Nat) => dV C N S m (dC C N S i) i_1)) /\ dN C N S m (dC C N S i') = rN (afL (qOk C (yNat (goalDt_0 N C S i))) (qKey C (yNat (goalDt_0 N C S i))) (qVal C (yNat (goalDt_0 N C S i))) (prs (dN C N S m (dC C N S i)) (λ (i_1 : Nat) => dK C N S m (dC C N S i) i_1) λ (i_1 : Nat) => dV C N S m (dC C N S i) i_1)) /\ ∀ (i_1 : Nat), Nat.succ i_1 <= dN C N S m (dC C N S i') -> dK C N S m (dC C N S i') i_1 = rA (goalDt_2 C N S i m) i_1 /\ dV C N S m (dC C N S i') i_1 = rB (goalDt_2 C N S i m) i_1 /\ True) /\ yInt i' = yWrap .i64 (yAdd (yInt i) 1) /\ yNadd (dC C N S i') (nat_lit 1) = yNadd (yNadd (dC C N S i) 1) 1 /\ (∀ (i_1 : Nat), Nat.succ i_1 <= yNadd (dC C N S i') 1 -> dFr C N S m i_1 = ySel (yNlt i_1 (yNadd (dC C N S i) 1)) (dFr C N S m i_1) (yInt i) /\ (yNeq (dN C N S m i_1) (nat_lit 0) = ySelB (yNlt i_1 (yNadd (dC C N S i) 1)) (yNeq (dN C N S m i_1) 0) (rE (goalDt_2 C N S i m)) /\ dN C N S m i_1 = ySelN (yNlt i_1 (yNadd (dC C N S i) 1)) (dN C N S m i_1) (rN (goalDt_2 C N S i m)) /\ ∀ (i_2 : Nat), Nat.succ i_2 <= dN C N S m i_1 -> dK C N S m i_1 i_2 = ySel (yNlt i_1 (yNadd (dC C N S i) 1)) (dK C N S m i_1 i_2) (rA (afL (qOk C (yNat (goalDt_0 N C S i))) (qKey C (yNat (goalDt_0 N C S i))) (qVal C (yNat (goalDt_0 N C S i))) (prs (dN C N S m (dC C N S i)) (λ (i_3 : Nat) => dK C N S m (dC C N S i) i_3) λ (i_3 : Nat) => dV C N S m (dC C N S i) i_3)) i_2) /\ dV C N S m i_1 i_2 = ySel (yNlt i_1 (yNadd (dC C N S i) 1)) (dV C N S m i_1 i_2) (rB (afL (qOk C (yNat (goalDt_0 N C S i))) (qKey C (yNat (goalDt_0 N C S i))) (qVal C (yNat (goalDt_0 N C S i))) (prs (dN C N S m (dC C N S i)) (λ (i_3 : Nat) => dK C N S m (dC C N S i) i_3) λ (i_3 : Nat) => dV C N S m (dC C N S i) i_3)) i_2) /\ True) /\ True) /\ true = true))))))) /\ (yNot (goalDt_6 C N S i) = false -> mst (yNeq (yNadd (dC C N S i) 1) (yNadd (dC C N S i) 1)) (goalDt_1 C N S i m))))))) /\ (yNot (yEq (qOk C (yNat (goalDt_0 N C S i))) 4) = false -> mst (yNeq (yNadd (dC C N S i) 1) (yNadd (dC C N S i) 1)) (goalDt_1 C N S i m)))))))))))))))))))))))))) /\ (yLt (yInt i) (yInt m) = false -> false = false /\ yNadd (dC C N S m) (nat_lit 1) = yNadd (dC C N S i) 1 /\ yNadd 0 (yNadd (dC C N S i) 1) <= yNadd (dC C N S i) 1 /\ (∀ (i : Nat), Nat.succ i <= yNadd (dC C N S m) 1 -> dFr C N S m i = dFr C N S m (yNadd 0 i) /\ (yNeq (dN C N S m i) (nat_lit 0) = yNeq (dN C N S m (yNadd 0 i)) 0 /\ dN C N S m i = dN C N S m (yNadd 0 i) /\ ∀ (i_1 : Nat), Nat.succ i_1 <= dN C N S m i -> dK C N S m i i_1 = dK C N S m (yNadd 0 i) i_1 /\ dV C N S m i i_1 = dV C N S m (yNadd 0 i) i_1 /\ True) /\ True) /\ true = true))
theorem goalDt_eq : goalDt = goalDtV := by kernel_rfl
set_option maxHeartbeats 8000000 in
theorem goalDt_vc : goalDtV := by
 unfold goalDtV goalDt_6 goalDt_5 goalDt_2 goalDt_1 goalDt_3 goalDt_0 goalDt_4
 intro C nil N S nilS m hQ hT
 obtain ⟨hN, hq⟩ := of_decide_eq_true hQ
 obtain ⟨hm, hmn⟩ := of_decide_eq_true hT
 have d0 : dC C N S 0 = 0 := rfl
 refine ⟨rfl, ⟨0, ?_⟩, λ g i hi => ⟨λ h => ?_, λ h => ?_⟩⟩
 . repeat' (first | exact trivial | with_reducible rfl | exact Nat.zero_le _ | apply And.intro | intro _ | rfl)
 . have hlt : i < m := by have : (i : Int) < (m : Int) := yLt_t.mp h; omega
   have e0 : yNat (yInt i) = i := rfl
   have him : yIn (yInt i) m = true := yIn_t.mpr ⟨Int.natCast_nonneg _, by show (i : Int) < m; omega⟩
   have hr : dC C N S i <= i := dC_le C N S i
   have b1 : prDt m (i + 1) := show i + 1 <= m by omega
   have b2 : Nat.succ (mDt m (i + 1)) <= mDt m i := by unfold mDt; omega
   have b3 : yInt (i + 1) = yWrap .i64 (yAdd (yInt i) 1) := by
    show ((i + 1 : Nat) : Int) = yWrap .i64 ((i : Int) + 1)
    rw [wrap64 (by omega) (by omega)]; omega
   have z0 : ∀ q, yNadd 0 q = q := Nat.zero_add
   have n1 : ∀ q, yNadd q 1 = q + 1 := λ _ => rfl
   rw [e0]
   refine mstI him ?_
   iterate 9 refine mstI yCol_int ?_
   refine mstI (yCol_ok.2 λ i _ => rfl) (mstI yCol_int (mstI yCol_int (mstI (yCol_ok.2 λ i _ => List.all_eq_true.2 λ p _ => rfl) (mstI (decide_eq_true (show N <= 1000000 by omega)) ?_))))
   have stay : evC C N S i = none -> dC C N S (i + 1) = dC C N S i := λ hev => by unfold dC; rw [evCL_step, hev]; simp
   cases hF : (List.range N).find? (wsB (qTh C) (qFr C) (qTo C) (qOv C) (sTh S i) i) with
   | none =>
     have hW : wsV N (qId C) (qTh C) (qFr C) (qTo C) (qOv C) (sTh S i) (yInt i) = 0 := by
      unfold wsV
      have : (List.range N).find? (wsB (qTh C) (qFr C) (qTo C) (qOv C) (sTh S i) (yInt i)) = none := hF
      rw [this]
     have ha := stay (by unfold evC; split; exact hF; rfl)
     rw [hW]
     refine fork_t rfl ⟨rfl, i + 1, ?_⟩
     rw [ha]
     repeat' (first | exact trivial | exact b1 | exact b2 | exact b3 | with_reducible rfl | apply And.intro | intro _ | rfl)
   | some j =>
     have hjN : j < N := List.mem_range.1 (List.mem_of_find?_eq_some hF)
     have hW : wsV N (qId C) (qTh C) (qFr C) (qTo C) (qOv C) (sTh S i) (yInt i) = (j : Int) + 1 := by
      unfold wsV
      have : (List.range N).find? (wsB (qTh C) (qFr C) (qTo C) (qOv C) (sTh S i) (yInt i)) = some j := hF
      rw [this]
      exact (hq j hjN).1
     rw [hW]
     have w1 : yWrap .i64 (ySub ((j : Int) + 1) 1) = (j : Int) := by
      show yWrap .i64 ((j : Int) + 1 - 1) = _
      rw [wrap64 (by omega) (by omega)]; omega
     have w2 : yNat (j : Int) = j := rfl
     rw [w1, w2]
     refine fork_f (decide_eq_false (by omega)) (mstI him (mstI yCol_int (mstI yCol_int (mstI yCol_int (mstI (decide_eq_true (show sMn S i <= 1000000 by have := hmn i hlt; omega)) ?_)))))
     cases hE : effB (sMn S i) (sMk S i) with
     | false =>
       have ha := stay (by unfold evC; rw [hE]; rfl)
       refine fork_t rfl ⟨rfl, i + 1, ?_⟩
       rw [ha]
       repeat' (first | exact trivial | exact b1 | exact b2 | exact b3 | with_reducible rfl | apply And.intro | intro _ | rfl)
     | true =>
     have hev : evC C N S i = some j := by unfold evC; rw [if_pos hE]; exact hF
     have ha : dC C N S (i + 1) = dC C N S i + 1 := by unfold dC; rw [evCL_step, hev]; simp
     obtain ⟨lm, hlm⟩ := pre_step (λ i => ⟨_, evCL_step C N S i⟩) (show i + 1 <= m by omega)
     obtain ⟨la, hla⟩ := pre_step (λ i => ⟨_, atCL_step C N S i⟩) (show i + 1 <= m by omega)
     have hjm : (evCL C N S m)[dC C N S i]?.getD 0 = j := by
      rw [hlm, evCL_step, hev]
      unfold dC
      simp
     have hf : dFr C N S m (dC C N S i + 1) = (i : Int) := by
      show (((atCL C N S m)[dC C N S i]?.getD 0 : Nat) : Int) = i
      have hlen : dC C N S i = (atCL C N S i).length := (atCL_len C N S i).symm
      rw [hla, atCL_step, hev, hlen]
      simp
     have hS : dS C N S m (dC C N S i + 1) = stepD C j (dS C N S m (dC C N S i)) := by
      show stepD C ((evCL C N S m)[dC C N S i]?.getD 0) (dS C N S m (dC C N S i)) = _
      rw [hjm]
     obtain ⟨s1, s2⟩ := dInv C N S m (dC C N S i)
     have hjn : yIn (j : Int) N = true := yIn_t.mpr ⟨Int.natCast_nonneg _, by omega⟩
     have hjl : yNlt j N = true := decide_eq_true hjN
     have hpn : yNle (qPn C j) 1000000 = true := decide_eq_true (hq j hjN).2
     have g1 : yNeq (yNadd (dC C N S i) 1) (yNadd (dC C N S i) 1) = true := decide_eq_true rfl
     have g2 : yGrow (yNadd (yNadd (dC C N S i) 1) 1) 32 = true := yGrow_t.mpr (show 4 * (dC C N S i + 1 + 1) * 32 <= 140737488355328 by omega)
     have hqq : ∀ q, Nat.succ q <= yNadd (dC C N S (i + 1)) 1 -> yNlt q (yNadd (dC C N S i) 1) = false -> q = dC C N S i + 1 := λ q h1 h2 => by
      have h2 : ¬ q < dC C N S i + 1 := of_decide_eq_false h2
      have h1 : q + 1 <= dC C N S (i + 1) + 1 := h1
      omega
     have leaf : ∀ (e : Bool) (n' : Nat) (a' b' : Nat -> Int), yNeq (dN C N S m (dC C N S i + 1)) 0 = e -> dN C N S m (dC C N S i + 1) = n' -> (∀ p, p < dN C N S m (dC C N S i + 1) -> dK C N S m (dC C N S i + 1) p = a' p /\ dV C N S m (dC C N S i + 1) p = b' p) →
      (yNeq (dN C N S m (dC C N S (i + 1))) 0 = e /\ dN C N S m (dC C N S (i + 1)) = n' /\ ∀ p, Nat.succ p <= dN C N S m (dC C N S (i + 1)) -> dK C N S m (dC C N S (i + 1)) p = a' p /\ dV C N S m (dC C N S (i + 1)) p = b' p /\ True) ∧
      (∀ q, Nat.succ q <= yNadd (dC C N S (i + 1)) 1 -> dFr C N S m q = ySel (yNlt q (yNadd (dC C N S i) 1)) (dFr C N S m q) (yInt i) /\ (yNeq (dN C N S m q) 0 = ySelB (yNlt q (yNadd (dC C N S i) 1)) (yNeq (dN C N S m q) 0) e /\ dN C N S m q = ySelN (yNlt q (yNadd (dC C N S i) 1)) (dN C N S m q) n' /\ ∀ p, Nat.succ p <= dN C N S m q -> dK C N S m q p = ySel (yNlt q (yNadd (dC C N S i) 1)) (dK C N S m q p) (a' p) /\ dV C N S m q p = ySel (yNlt q (yNadd (dC C N S i) 1)) (dV C N S m q p) (b' p) /\ True) /\ True) := λ e n' a' b' h1 h2 h3 => by
      refine ⟨by rw [ha]; exact ⟨h1, h2, λ p hp => ⟨(h3 p hp).1, (h3 p hp).2, trivial⟩⟩, λ q hq1 => ?_⟩
      cases hlq : yNlt q (yNadd (dC C N S i) 1) with
      | true => exact ⟨rfl, ⟨rfl, rfl, λ _ _ => ⟨rfl, rfl, trivial⟩⟩, trivial⟩
      | false =>
        obtain rfl := hqq q hq1 hlq
        exact ⟨hf, ⟨h1, h2, λ p hp => ⟨(h3 p hp).1, (h3 p hp).2, trivial⟩⟩, trivial⟩
     refine fork_f rfl (mstI hjn ?_)
     have same : (qOk C j = 4 ∨ flC C j = true) -> ∀ {P : Prop}, (∀ (q1 : yNeq (dN C N S m (dC C N S i + 1)) 0 = yNeq (dN C N S m (dC C N S i)) 0) (q2 : dN C N S m (dC C N S i + 1) = dN C N S m (dC C N S i)) (q3 : ∀ p, p < dN C N S m (dC C N S i + 1) -> dK C N S m (dC C N S i + 1) p = dK C N S m (dC C N S i) p /\ dV C N S m (dC C N S i + 1) p = dV C N S m (dC C N S i) p), P) -> P := λ hc P k => by
      have hS2 : dS C N S m (dC C N S i + 1) = dS C N S m (dC C N S i) := by rw [hS]; exact if_pos hc
      have q2 : dN C N S m (dC C N S i + 1) = dN C N S m (dC C N S i) := congrArg MpS.n hS2
      exact k (by rw [q2]) q2 (λ p _ => ⟨congrArg (λ m => MpS.k m p) hS2, congrArg (λ m => MpS.v m p) hS2⟩)
     cases h4 : yEq (qOk C j) 4 with
     | true =>
       refine fork_f rfl (mstI g1 (mstI g2 ⟨rfl, i + 1, ?_⟩))
       refine same (.inl (of_decide_eq_true h4)) λ q1 q2 q3 => ?_
       obtain ⟨l1, l2⟩ := leaf _ _ _ _ q1 q2 q3
       refine ⟨b1, b2, rfl, rfl, rfl, by rw [ha]; rfl, l1, b3, by rw [ha]; rfl, l2, rfl⟩
     | false =>
       refine fork_t rfl (mstI hjn (mstI yCol_int (mstI yCol_int (mstI hpn ?_))))
       have hfl : fullE (qOv C j) (qOk C j) (qRk C j) (qRv C j) (qPn C j) (λ (i_1 : Nat) => qPk C j i_1) (λ (i_1 : Nat) => qPv C j i_1) = flC C j := rfl
       rw [hfl]
       cases h5 : flC C j with
       | true =>
         refine fork_f rfl (mstI g1 (mstI g2 ⟨rfl, i + 1, ?_⟩))
         refine same (.inr h5) λ q1 q2 q3 => ?_
         obtain ⟨l1, l2⟩ := leaf _ _ _ _ q1 q2 q3
         refine ⟨b1, b2, rfl, rfl, rfl, by rw [ha]; rfl, l1, b3, by rw [ha]; rfl, l2, rfl⟩
       | false =>
         have hnn : dN C N S m (dC C N S i) <= 1000000 := by have : dN C N S m (dC C N S i) <= dC C N S i := s2; omega
         refine fork_t rfl (mstI hjn (mstI yCol_int (mstI yCol_int (mstI ?_ (mstI g1 (mstI g2 ⟨rfl, i + 1, ?_⟩))))))
         . rw [show yNle (dN C N S m (dC C N S i)) 1000000 = true from decide_eq_true hnn]
           show yIff _ _ = true
           unfold yIff; simp
         have hS2 : dS C N S m (dC C N S i + 1) = ⟨false, false, doN (qOk C j) (dS C N S m (dC C N S i)).n (dS C N S m (dC C N S i)).k (qKey C j), doKy (qOk C j) (dS C N S m (dC C N S i)).n (dS C N S m (dC C N S i)).k (qKey C j), doVl (qOk C j) (dS C N S m (dC C N S i)).n (dS C N S m (dC C N S i)).k (dS C N S m (dC C N S i)).v (qKey C j) (qVal C j)⟩ := by
          rw [hS]
          exact if_neg (λ e => by
           rcases e with e | e
           . exact absurd e (of_decide_eq_false h4)
           . rw [h5] at e; cases e)
         have hA := af_prs (v := (dS C N S m (dC C N S i)).v) (qOk C j) (qKey C j) (qVal C j) s1
         have hA : afL (qOk C j) (qKey C j) (qVal C j) (prs (dN C N S m (dC C N S i)) (λ (i_1 : Nat) => dK C N S m (dC C N S i) i_1) (λ (i_1 : Nat) => dV C N S m (dC C N S i) i_1)) = prs (dS C N S m (dC C N S i + 1)).n (dS C N S m (dC C N S i + 1)).k (dS C N S m (dC C N S i + 1)).v := by
          rw [hS2]; exact hA
         rw [hA]
         obtain ⟨p1, p2, p3⟩ := prs_back (n := (dS C N S m (dC C N S i + 1)).n) (a := (dS C N S m (dC C N S i + 1)).k) (b := (dS C N S m (dC C N S i + 1)).v)
         obtain ⟨l1, l2⟩ := leaf _ _ _ _ p3.symm p1.symm (λ p hp => ⟨(p2 p hp).1.symm, (p2 p hp).2.symm⟩)
         refine ⟨b1, b2, rfl, rfl, rfl, by rw [ha]; rfl, l1, b3, by rw [ha]; rfl, l2, rfl⟩
 . have h : (m : Int) <= (i : Int) := yLt_f.mp h
   have hi : i <= m := hi
   obtain rfl : i = m := by omega
   have z0 : ∀ q, yNadd 0 q = q := Nat.zero_add
   simp only [z0]
   repeat' (first | exact trivial | with_reducible rfl | exact Nat.le_refl _ | apply And.intro | intro _ | rfl)
theorem goalDt_tt : (goalDt) = True := goalDt_eq.trans (eq_true goalDt_vc)
theorem goalDt_ok : goalDt := @ft' goalDt goalDt_tt
def fDt (ds : List Dx) : Option (Bool × Dx × List (List Dx)) :=
 match ds with
 | [.rows _ N [.int .i64 id, .int .i64 th, .int .i64 ok, .int .u64 key, .int .u64 val, .int .u64 hi, .int .i64 most, .int .i64 fr, .int .i64 to, .bool ov, .int .i64 rk, .int .u64 rv, .ls nl pn [.int .u64 pk, .int .u64 pv]], .rows _ m [.int .i64 sth, .int .i64 sak, .int .i64 sat, .int .u64 sold, .int .u64 snew, .int .u64 sgot, .ls snl smn [.int .i64 smk, .int .u64 sma, .int .u64 smb]]] =>
   some (yAnd (preQ ⟨id, th, ok, key, val, hi, most, fr, to, ov, rk, rv, nl, pn, pk, pv⟩ N) (preT ⟨sth, sak, sat, sold, snew, sgot, snl, smn, smk, sma, smb⟩ m),
    .rows false (yNadd (dC ⟨id, th, ok, key, val, hi, most, fr, to, ov, rk, rv, nl, pn, pk, pv⟩ N ⟨sth, sak, sat, sold, snew, sgot, snl, smn, smk, sma, smb⟩ m) 1) (colsD ⟨id, th, ok, key, val, hi, most, fr, to, ov, rk, rv, nl, pn, pk, pv⟩ N ⟨sth, sak, sat, sold, snew, sgot, snl, smn, smk, sma, smb⟩ m), [])
 | _ => none
theorem smDt (hm : Try.prog.follows .mixedOrders = true) (hs : SmOK Try.prog (smL lDt)) : SmCall Try.prog 32 (λ args h => (ctX [sRp, sSts] rSt fDt args h).sel) :=
 ctX_ok hm hs (λ ds r post h => by
  unfold fDt at h
  split at h
  . rename_i nil N id th ok key val hi most fr to ov rk rv nl pn pk pv nilS m sth sak sat sold snew sgot snl smn smk sma smb
    simp only [sI, Prod.mk.injEq] at h
    obtain ⟨h1, rfl, rfl⟩ := h
    obtain ⟨h1, h3⟩ := yAnd_t.mp h1
    refine ⟨annDt ⟨id, th, ok, key, val, hi, most, fr, to, ov, rk, rv, nl, pn, pk, pv⟩ N ⟨sth, sak, sat, sold, snew, sgot, snl, smn, smk, sma, smb⟩ m, 1000, ?_⟩
    have h2 := @goalDt_ok
    unfold goalDt at h2
    revert h1 h3
    exact @h2 ⟨id, th, ok, key, val, hi, most, fr, to, ov, rk, rv, nl, pn, pk, pv⟩ nil N ⟨sth, sak, sat, sold, snew, sgot, snl, smn, smk, sma, smb⟩ nilS m
  . cases h)
def fxI (n : Nat) (p : Nat -> Bool) : Int := match (List.range n).find? p with | some i => i | none => -1
def pvB (k v : Nat -> Int) (a b : Int) (p : Nat) : Bool := decide (k p = a /\ v p = b)
def keB (k : Nat -> Int) (a : Int) (p : Nat) : Bool := decide (k p = a)
def prFx (n : Nat) (p : Nat -> Bool) (i : Nat) : Prop := i <= n /\ ∀ j, j < i -> p j = false
def mFx (n i : Nat) : Nat := n - i
def annFx (t n : Nat) (p : Nat -> Bool) (b : Nat) : Option (St -> LoopA) :=
 match b with
 | 0 => some λ _ => { ι := Nat, tms := [t], tmU := λ i => [.y .i64 (yInt i)], ids := [], hpU := λ _ => [], del := [], ex := 0, pre := prFx n p, ms := mFx n }
 | _ => none
abbrev sPr : Sx := .agg [.sc, .sc]
abbrev dPr (a b : Int) : Dx := .l [.v (.y .u64 a), .v (.y .u64 b)]
def goalIx : Prop := ∀ (nl : Bool) (n : Nat) (k v : Nat -> Int) (a b : Int), yNle n 1000000 = true →
 wxH Try.prog noSm (annFx 8 n (pvB k v a b)) 79 [sPp, sPr] [.rows nl n (cols2 k v), dPr a b] .sc (.v (.y .i64 (fxI n (pvB k v a b)))) []
def fIx (ds : List Dx) : Option (Bool × Dx × List (List Dx)) :=
 match ds with
 | [.rows _ n [.int .u64 k, .int .u64 v], .l [.v (.y .u64 a), .v (.y .u64 b)]] => some (yNle n 1000000, .v (.y .i64 (fxI n (pvB k v a b))), [])
 | _ => none
def goalIk : Prop := ∀ (nl : Bool) (n : Nat) (k v : Nat -> Int) (a b : Int), yNle n 1000000 = true →
 wxH Try.prog noSm (annFx 8 n (keB k a)) 113 [sPp, .fn 80 [.ptr 113 [.sc, .sc]]] [.rows nl n (cols2 k v), .l [dPr a b]] .sc (.v (.y .i64 (fxI n (keB k a)))) [[.v (.y .u64 a), .v (.y .u64 b)]]
structure TtS where
 fr : Nat -> Int
 nl : Nat -> Bool
 n : Nat -> Nat
 k : Nat -> Nat -> Int
 v : Nat -> Nat -> Int
instance : Inhabited TtS := ⟨⟨λ _ => 0, λ _ => true, λ _ => 0, λ _ _ => 0, λ _ _ => 0⟩⟩
def zFr (T : TtS) (i : Nat) : Int := T.fr i
def zNl (T : TtS) (i : Nat) : Bool := T.nl i
def zN (T : TtS) (i : Nat) : Nat := T.n i
def zK (T : TtS) (i p : Nat) : Int := T.k i p
def zV (T : TtS) (i p : Nat) : Int := T.v i p
abbrev colsT (T : TtS) : List Col := [.int .i64 (zFr T), .ls (zNl T) (zN T) [.int .u64 (zK T), .int .u64 (zV T)]]
def preZ (T : TtS) (N : Nat) : Bool := decide (N <= 1000 /\ ∀ i, i < N -> zN T i <= 1000000)
def stB (T : TtS) (a b : Int) (q : Nat) : Bool := yLe 0 (fxI (zN T q) (pvB (zK T q) (zV T q) a b))
def lIs : List (Nat × Sm) := [(79, .ct (ctX [sPp, sPr] .sc fIx))]
def goalIs : Prop := ∀ (nl : Bool) (N : Nat) (T : TtS) (a b : Int), preZ T N = true →
 wxH Try.prog (smL lIs) (annFx 8 N (stB T a b)) 78 [rSt, .fn 56 [.ptr 113 [.sc, .sc]]] [.rows nl N (colsT T), .l [dPr a b]] .sc (.v (.y .i64 (fxI N (stB T a b)))) [[.v (.y .u64 a), .v (.y .u64 b)]]
abbrev dCal (id th ok key val hi most fr to : Int) (ov : Bool) (rk rv : Int) (nl : Bool) (n : Nat) (pk pv : Nat -> Int) : List Dx := [.v (.y .i64 id), .v (.y .i64 th), .v (.y .i64 ok), .v (.y .u64 key), .v (.y .u64 val), .v (.y .u64 hi), .v (.y .i64 most), .v (.y .i64 fr), .v (.y .i64 to), .v (.yb ov), .v (.y .i64 rk), .v (.y .u64 rv), .rows nl n [.int .u64 pk, .int .u64 pv]]
def cuB (T : TtS) (fr : Nat) (to : Int) (q : Nat) : Bool := decide (fr < q /\ to < zFr T q)
def cuT (T : TtS) (N fr : Nat) (to : Int) : Nat := match (List.range N).find? (cuB T fr to) with | some q => q | none => N
def prCu (T : TtS) (N fr : Nat) (to : Int) (i : Nat) : Prop := yNadd (yNadd fr 1) i <= N /\ ∀ j, j < yNadd (yNadd fr 1) i -> cuB T fr to j = false
def mCu (N fr i : Nat) : Nat := N - (fr + i)
def annCu (T : TtS) (N fr : Nat) (to : Int) (b : Nat) : Option (St -> LoopA) :=
 match b with
 | 0 => some λ _ => { ι := Nat, tms := [7], tmU := λ i => [.y .i64 (yInt (yNadd (yNadd fr 1) i))], ids := [], hpU := λ _ => [], del := [], ex := 0, pre := prCu T N fr to, ms := mCu N fr }
 | _ => none
abbrev sCuF : Sx := .fn 77 [.ptr 62 [.sc, .sc, .sc, .sc, .sc, .sc, .sc, .sc, .sc, .sc, .sc, .sc, .pl [.int .u64, .int .u64]]]
abbrev colsTs (T : TtS) (fr : Nat) : List Col := [.int .i64 (λ i => zFr T (yNadd fr i)), .ls (λ i => zNl T (yNadd fr i)) (λ i => zN T (yNadd fr i)) [.int .u64 (λ i p => zK T (yNadd fr i) p), .int .u64 (λ i p => zV T (yNadd fr i) p)]]
def goalCu : Prop := ∀ (nl : Bool) (N : Nat) (T : TtS) (f : Nat) (id th ok key val hi most fr to : Int) (ov : Bool) (rk rv : Int) (nlc : Bool) (n : Nat) (pk pv : Nat -> Int), preZ T N = true -> yNlt f N = true →
 wxH Try.prog noSm (annCu T N f to) 76 [rSt, .sc, sCuF] [.rows nl N (colsT T), .v (.y .i64 (yInt f)), .l [.l (dCal id th ok key val hi most fr to ov rk rv nlc n pk pv)]] rSt (.rows nl (yNsub (cuT T N f to) f) (colsTs T f)) [dCal id th ok key val hi most fr to ov rk rv nlc n pk pv]
theorem fx_hit {n : Nat} {p : Nat -> Bool} {i : Nat} (h : prFx n p i) (hl : i < n) (hp : p i = true) : fxI n p = (i : Int) := by
 unfold fxI; rw [find_range h.2 hp n hl]
theorem fx_none {n : Nat} {p : Nat -> Bool} {i : Nat} (h : prFx n p i) (hl : n <= i) : fxI n p = -1 := by
 unfold fxI; rw [find_none (λ j hj => h.2 j (by omega))]
theorem fx_next {n : Nat} {p : Nat -> Bool} {i : Nat} (hn : n <= 1000000) (h : prFx n p i) (hl : i < n) (hp : p i = false) : prFx n p (i + 1) /\ Nat.succ (mFx n (i + 1)) <= mFx n i /\ yInt (i + 1) = yWrap .i64 (yAdd (yInt i) 1) :=
 ⟨⟨hl, λ j hj => by
   rcases Nat.lt_succ_iff_lt_or_eq.1 hj with h1 | rfl
   . exact h.2 j h1
   . exact hp⟩, by unfold mFx; omega, by
   show ((i + 1 : Nat) : Int) = yWrap .i64 ((i : Int) + 1)
   rw [wrap64 (by omega) (by omega)]; omega⟩
theorem fx_0 (n : Nat) (p : Nat -> Bool) : prFx n p 0 := ⟨Nat.zero_le _, λ j hj => absurd hj (Nat.not_lt_zero _)⟩
theorem yLtN {i n : Nat} (h : yLt (yInt i) (yInt n) = true) : i < n := by have : (i : Int) < (n : Int) := yLt_t.mp h; omega
theorem yLtF {i n : Nat} (h : yLt (yInt i) (yInt n) = false) : n <= i := by have : (n : Int) <= (i : Int) := yLt_f.mp h; omega
theorem yInN {i n : Nat} (h : i < n) : yIn (yInt i) n = true := yIn_t.mpr ⟨Int.natCast_nonneg _, by show (i : Int) < n; omega⟩
def goalIxV : Prop := (∀ (nl : Bool) (n : Nat) (k v : Nat -> Int) (a b : Int), yNle n (nat_lit 1000000) = true -> true = true /\ (∃ (i0 : Nat), prFx n (pvB k v a b) i0 /\ true = true /\ yInt i0 = (0 : Int) /\ true = true) /\ ∀ (g : Nat -> AV) (i : Nat), prFx n (pvB k v a b) i -> (yLt (yInt i) (yInt n) = true -> mst (yIn (yInt i) n) ((yAnd (yEq a (k (yNat (yInt i)))) (yAnd (yEq b (v (yNat (yInt i)))) true) = true -> fxI n (pvB k v a b) = yInt i /\ true = true) /\ (yAnd (yEq a (k (yNat (yInt i)))) (yAnd (yEq b (v (yNat (yInt i)))) true) = false -> true = true /\ ∃ (i' : Nat), prFx n (pvB k v a b) i' /\ Nat.succ (mFx n i') <= mFx n i /\ true = true /\ yInt i' = yWrap .i64 (yAdd (yInt i) 1) /\ true = true))) /\ (yLt (yInt i) (yInt n) = false -> fxI n (pvB k v a b) = (-1 : Int) /\ true = true))
theorem goalIx_eq : goalIx = goalIxV := by kernel_rfl
set_option maxHeartbeats 8000000 in
theorem goalIx_vc : goalIxV := by
 unfold goalIxV
 intro nl n k v a b hn
 have hn : n <= 1000000 := of_decide_eq_true hn
 refine ⟨rfl, ⟨0, fx_0 _ _, rfl, rfl, rfl⟩, λ g i hi => ⟨λ h => ?_, λ h => ⟨fx_none hi (yLtF h), rfl⟩⟩⟩
 refine mstI (yInN (yLtN h)) ⟨λ e => ⟨fx_hit hi (yLtN h) ?_, rfl⟩, λ e => ?_⟩
 . obtain ⟨e1, e2⟩ := yAnd_t.mp e
   obtain ⟨e2, _⟩ := yAnd_t.mp e2
   exact decide_eq_true ⟨(of_decide_eq_true e1).symm, (of_decide_eq_true e2).symm⟩
 . have hp : pvB k v a b i = false := decide_eq_false λ ⟨h1, h2⟩ => by
    have e1 : yEq a (k (yNat (yInt i))) = true := decide_eq_true h1.symm
    have e2 : yEq b (v (yNat (yInt i))) = true := decide_eq_true h2.symm
    rw [e1, e2] at e; cases e
   obtain ⟨q1, q2, q3⟩ := fx_next hn hi (yLtN h) hp
   exact ⟨rfl, i + 1, q1, q2, rfl, q3, rfl⟩
theorem goalIx_tt : (goalIx) = True := goalIx_eq.trans (eq_true goalIx_vc)
theorem goalIx_ok : goalIx := @ft' goalIx goalIx_tt
def goalIkV : Prop := (∀ (nl : Bool) (n : Nat) (k v : Nat -> Int) (a b : Int), yNle n (nat_lit 1000000) = true -> true = true /\ (∃ (i0 : Nat), prFx n (keB k a) i0 /\ true = true /\ yInt i0 = (0 : Int) /\ true = true) /\ ∀ (g : Nat -> AV) (i : Nat), prFx n (keB k a) i -> (yLt (yInt i) (yInt n) = true -> mst (yIn (yInt i) n) ((yEq (k (yNat (yInt i))) a = true -> fxI n (keB k a) = yInt i /\ a = a /\ b = b /\ true = true) /\ (yEq (k (yNat (yInt i))) a = false -> true = true /\ ∃ (i' : Nat), prFx n (keB k a) i' /\ Nat.succ (mFx n i') <= mFx n i /\ true = true /\ yInt i' = yWrap .i64 (yAdd (yInt i) 1) /\ true = true))) /\ (yLt (yInt i) (yInt n) = false -> fxI n (keB k a) = (-1 : Int) /\ a = a /\ b = b /\ true = true))
theorem goalIk_eq : goalIk = goalIkV := by kernel_rfl
set_option maxHeartbeats 8000000 in
theorem goalIk_vc : goalIkV := by
 unfold goalIkV
 intro nl n k v a b hn
 have hn : n <= 1000000 := of_decide_eq_true hn
 refine ⟨rfl, ⟨0, fx_0 _ _, rfl, rfl, rfl⟩, λ g i hi => ⟨λ h => ?_, λ h => ?_⟩⟩
 . refine mstI (yInN (yLtN h)) ⟨λ e => ?_, λ e => ?_⟩
   . have := fx_hit hi (yLtN h) (show keB k a i = true from decide_eq_true (of_decide_eq_true e))
     repeat' (first | exact this | exact trivial | rfl | apply And.intro)
   . obtain ⟨q1, q2, q3⟩ := fx_next hn hi (yLtN h) (show keB k a i = false from decide_eq_false (of_decide_eq_false e))
     exact ⟨rfl, i + 1, q1, q2, rfl, q3, rfl⟩
 . have := fx_none hi (yLtF h)
   repeat' (first | exact this | exact trivial | rfl | apply And.intro)
theorem goalIk_tt : (goalIk) = True := goalIk_eq.trans (eq_true goalIk_vc)
theorem goalIk_ok : goalIk := @ft' goalIk goalIk_tt
def goalIsV : Prop := (∀ (nl : Bool) (N : Nat) (T : TtS) (a b : Int), preZ T N = true -> true = true /\ (∃ (i0 : Nat), prFx N (stB T a b) i0 /\ true = true /\ yInt i0 = (0 : Int) /\ true = true) /\ ∀ (g : Nat -> AV) (i : Nat), prFx N (stB T a b) i -> (yLt (yInt i) (yInt N) = true -> mst (yIn (yInt i) N) (mst (yCol (CK.int .u64) (zN T (yNat (yInt i))) λ (i_1 : Nat) => AV.y .u64 (zK T (yNat (yInt i)) i_1)) (mst (yCol (CK.int .u64) (zN T (yNat (yInt i))) λ (i_1 : Nat) => AV.y .u64 (zV T (yNat (yInt i)) i_1)) (mst (yNle (zN T (yNat (yInt i))) 1000000) ((yLe 0 (fxI (zN T (yNat (yInt i))) (pvB (λ (i_1 : Nat) => zK T (yNat (yInt i)) i_1) (λ (i_1 : Nat) => zV T (yNat (yInt i)) i_1) a b)) = true -> fxI N (stB T a b) = yInt i /\ a = a /\ b = b /\ true = true) /\ (yLe 0 (fxI (zN T (yNat (yInt i))) (pvB (λ (i_1 : Nat) => zK T (yNat (yInt i)) i_1) (λ (i_1 : Nat) => zV T (yNat (yInt i)) i_1) a b)) = false -> true = true /\ ∃ (i' : Nat), prFx N (stB T a b) i' /\ Nat.succ (mFx N i') <= mFx N i /\ true = true /\ yInt i' = yWrap .i64 (yAdd (yInt i) 1) /\ true = true)))))) /\ (yLt (yInt i) (yInt N) = false -> fxI N (stB T a b) = (-1 : Int) /\ a = a /\ b = b /\ true = true))
theorem goalIs_eq : goalIs = goalIsV := by kernel_rfl
set_option maxHeartbeats 8000000 in
theorem goalIs_vc : goalIsV := by
 unfold goalIsV
 intro nl N T a b hT
 obtain ⟨hN, hz⟩ := of_decide_eq_true hT
 refine ⟨rfl, ⟨0, fx_0 _ _, rfl, rfl, rfl⟩, λ g i hi => ⟨λ h => ?_, λ h => ?_⟩⟩
 . refine mstI (yInN (yLtN h)) (mstI yCol_int (mstI yCol_int (mstI (decide_eq_true (hz i (yLtN h))) ⟨λ e => ?_, λ e => ?_⟩)))
   . have := fx_hit hi (yLtN h) (show stB T a b i = true from e)
     repeat' (first | exact this | exact trivial | rfl | apply And.intro)
   . obtain ⟨q1, q2, q3⟩ := fx_next (by omega) hi (yLtN h) (show stB T a b i = false from e)
     exact ⟨rfl, i + 1, q1, q2, rfl, q3, rfl⟩
 . have := fx_none hi (yLtF h)
   repeat' (first | exact this | exact trivial | rfl | apply And.intro)
theorem goalIs_tt : (goalIs) = True := goalIs_eq.trans (eq_true goalIs_vc)
theorem goalIs_ok : goalIs := @ft' goalIs goalIs_tt
def goalCu_0 (f : Nat) (i : Nat) (nl : Bool) (T : TtS) (N : Nat) (to : Int) (id : Int) (th : Int) (ok : Int) (key : Int) (val : Int) (hi : Int) (most : Int) (fr : Int) (ov : Bool) (rk : Int) (rv : Int) (nlc : Bool) (n : Nat) (pk : Nat -> Int) (pv : Nat -> Int) := mst (yIn (yInt f) (Nat.succ (yNat (yInt (yNadd (yNadd f 1) i))))) ((nl = nl /\ yNsub (cuT T N f to) f = yNsub (yNat (yInt (yNadd (yNadd f 1) i))) (yNat (yInt f)) /\ ∀ (i : Nat), Nat.succ i <= yNsub (cuT T N f to) f -> zFr T (yNadd f i) = zFr T (yNadd (yNat (yInt f)) i) /\ (zNl T (yNadd f i) = zNl T (yNadd (yNat (yInt f)) i) /\ zN T (yNadd f i) = zN T (yNadd (yNat (yInt f)) i) /\ ∀ (i_1 : Nat), Nat.succ i_1 <= zN T (yNadd f i) -> zK T (yNadd f i) i_1 = zK T (yNadd (yNat (yInt f)) i) i_1 /\ zV T (yNadd f i) i_1 = zV T (yNadd (yNat (yInt f)) i) i_1 /\ True) /\ True) /\ id = id /\ th = th /\ ok = ok /\ key = key /\ val = val /\ hi = hi /\ most = most /\ fr = fr /\ to = to /\ ov = ov /\ rk = rk /\ rv = rv /\ (nlc = nlc /\ n = n /\ ∀ (i : Nat), Nat.succ i <= n -> pk i = pk i /\ pv i = pv i /\ True) /\ true = true)
def goalCuV : Prop := (∀ (nl : Bool) (N : Nat) (T : TtS) (f : Nat) (id th ok key val hi most fr to : Int) (ov : Bool) (rk rv : Int) (nlc : Bool) (n : Nat) (pk pv : Nat -> Int), preZ T N = true -> yNlt f N = true -> (yLe (yInt N) (yInt f) = true -> nl = true /\ yNsub (cuT T N f to) f = nat_lit 0 /\ id = id /\ th = th /\ ok = ok /\ key = key /\ val = val /\ hi = hi /\ most = most /\ fr = fr /\ to = to /\ ov = ov /\ rk = rk /\ rv = rv /\ (nlc = nlc /\ n = n /\ ∀ (i : Nat), Nat.succ i <= n -> pk i = pk i /\ pv i = pv i /\ True) /\ true = true) /\ (yLe (yInt N) (yInt f) = false -> true = true /\ (∃ (i0 : Nat), prCu T N f to i0 /\ true = true /\ yInt (yNadd (yNadd f 1) i0) = yWrap .i64 (yAdd (yInt f) 1) /\ true = true) /\ ∀ (g : Nat -> AV) (i : Nat), prCu T N f to i -> (yLt (yInt (yNadd (yNadd f 1) i)) (yInt N) = true -> mst (yIn (yInt (yNadd (yNadd f 1) i)) N) ((yLe (zFr T (yNat (yInt (yNadd (yNadd f 1) i)))) to = true -> true = true /\ ∃ (i' : Nat), prCu T N f to i' /\ Nat.succ (mCu N f i') <= mCu N f i /\ true = true /\ yInt (yNadd (yNadd f 1) i') = yWrap .i64 (yAdd (yInt (yNadd (yNadd f 1) i)) 1) /\ true = true) /\ (yLe (zFr T (yNat (yInt (yNadd (yNadd f 1) i)))) to = false -> mst (yIn (yInt (yNadd (yNadd f 1) i)) (Nat.succ N)) (goalCu_0 f i nl T N to id th ok key val hi most fr ov rk rv nlc n pk pv)))) /\ (yLt (yInt (yNadd (yNadd f 1) i)) (yInt N) = false -> mst (yIn (yInt (yNadd (yNadd f 1) i)) (Nat.succ N)) (goalCu_0 f i nl T N to id th ok key val hi most fr ov rk rv nlc n pk pv))))
theorem goalCu_eq : goalCu = goalCuV := by kernel_rfl
set_option maxHeartbeats 8000000 in
theorem goalCu_vc : goalCuV := by
 unfold goalCuV goalCu_0
 intro nl N T f id th ok key val hi most fr to ov rk rv nlc n pk pv hT hf
 obtain ⟨hN, hz⟩ := of_decide_eq_true hT
 have hf : f < N := of_decide_eq_true hf
 have hw : ∀ q : Nat, q <= N -> yInt (q + 1) = yWrap .i64 (yAdd (yInt q) 1) := λ q hq => by
  show ((q + 1 : Nat) : Int) = yWrap .i64 ((q : Int) + 1)
  rw [wrap64 (by omega) (by omega)]; omega
 have hcu : ∀ i, prCu T N f to i -> (yNadd (yNadd f 1) i < N -> cuB T f to (yNadd (yNadd f 1) i) = true) -> cuT T N f to = yNadd (yNadd f 1) i := λ i hi hp => by
  unfold cuT
  by_cases hl : yNadd (yNadd f 1) i < N
  . rw [find_range hi.2 (hp hl) N hl]
  . have := hi.1
    rw [find_none (λ j hj => hi.2 j (by omega))]
    show N = _
    omega
 refine fork_f (decide_eq_false (show ¬ (N : Int) <= (f : Int) by omega)) ⟨rfl, ⟨0, ⟨show f + 1 + 0 <= N by omega, λ j hj => decide_eq_false λ h => by have hj : j < f + 1 + 0 := hj; omega⟩, rfl, hw f (by omega), rfl⟩, λ g i hi => ⟨λ h => ?_, λ h => ?_⟩⟩
 . have hlt := yLtN h
   refine mstI (yInN hlt) ⟨λ e => ?_, λ e => ?_⟩
   . have e : zFr T (yNadd (yNadd f 1) i) <= to := of_decide_eq_true e
     refine ⟨rfl, i + 1, ⟨hlt, λ j hj => ?_⟩, ?_, rfl, hw (yNadd (yNadd f 1) i) (Nat.le_of_lt hlt), rfl⟩
     . rcases Nat.lt_succ_iff_lt_or_eq.1 (show j < Nat.succ (yNadd (yNadd f 1) i) from hj) with h1 | rfl
       . exact hi.2 j h1
       . exact decide_eq_false λ h => by omega
     . have hlt : f + 1 + i < N := hlt
       unfold mCu; omega
   . have e : ¬ zFr T (yNadd (yNadd f 1) i) <= to := of_decide_eq_false e
     have hc := hcu i hi (λ _ => decide_eq_true ⟨show f < f + 1 + i by omega, by omega⟩)
     refine mstI (yInN (show f + 1 + i < N + 1 by have : f + 1 + i < N := hlt; omega)) (mstI (yInN (show f < f + 1 + i + 1 by omega)) ?_)
     rw [hc]
     repeat' (first | exact trivial | with_reducible rfl | apply And.intro | intro _ | rfl)
 . have hle := yLtF h
   have h1 : f + 1 + i <= N := hi.1
   have hc := hcu i hi (λ hl => absurd hl (Nat.not_lt.mpr hle))
   refine mstI (yInN (show f + 1 + i < N + 1 by omega)) (mstI (yInN (show f < f + 1 + i + 1 by omega)) ?_)
   rw [hc]
   repeat' (first | exact trivial | with_reducible rfl | apply And.intro | intro _ | rfl)
theorem goalCu_tt : (goalCu) = True := goalCu_eq.trans (eq_true goalCu_vc)
theorem goalCu_ok : goalCu := @ft' goalCu goalCu_tt
theorem smIx (hm : Try.prog.follows .mixedOrders = true) : SmCall Try.prog 79 (λ args h => (ctX [sPp, sPr] .sc fIx args h).sel) :=
 ctX_ok hm noSm_ok (λ ds r post h => by
  unfold fIx at h
  split at h
  . rename_i nl n k v a b
    simp only [sI, Prod.mk.injEq] at h
    obtain ⟨h1, rfl, rfl⟩ := h
    have h2 := @goalIx_ok
    unfold goalIx at h2
    exact ⟨_, 1000, @h2 nl n k v a b h1⟩
  . cases h)
abbrev sIk : List Sx := [sPp, .fn 80 [.ptr 113 [.sc, .sc]]]
def fIk (ds : List Dx) : Option (Bool × Dx × List (List Dx)) :=
 match ds with
 | [.rows _ n [.int .u64 k, .int .u64 _], .l [.l [.v (.y .u64 a), .v (.y .u64 b)]]] => some (yNle n 1000000, .v (.y .i64 (fxI n (keB k a))), [[.v (.y .u64 a), .v (.y .u64 b)]])
 | _ => none
theorem smIk (hm : Try.prog.follows .mixedOrders = true) : SmCall Try.prog 113 (λ args h => (ctX sIk .sc fIk args h).sel) :=
 ctX_ok hm noSm_ok (λ ds r post h => by
  unfold fIk at h
  split at h
  . rename_i nl n k v a b
    simp only [sI, Prod.mk.injEq] at h
    obtain ⟨h1, rfl, rfl⟩ := h
    have h2 := @goalIk_ok
    unfold goalIk at h2
    exact ⟨_, 1000, @h2 nl n k v a b h1⟩
  . cases h)
abbrev sIs : List Sx := [rSt, .fn 56 [.ptr 113 [.sc, .sc]]]
def fIs (ds : List Dx) : Option (Bool × Dx × List (List Dx)) :=
 match ds with
 | [.rows _ N [.int .i64 fr, .ls nl n [.int .u64 k, .int .u64 v]], .l [.l [.v (.y .u64 a), .v (.y .u64 b)]]] => some (preZ ⟨fr, nl, n, k, v⟩ N, .v (.y .i64 (fxI N (stB ⟨fr, nl, n, k, v⟩ a b))), [[.v (.y .u64 a), .v (.y .u64 b)]])
 | _ => none
theorem smIs (hm : Try.prog.follows .mixedOrders = true) (hs : SmOK Try.prog (smL lIs)) : SmCall Try.prog 78 (λ args h => (ctX sIs .sc fIs args h).sel) :=
 ctX_ok hm hs (λ ds r post h => by
  unfold fIs at h
  split at h
  . rename_i nil N fr nl n k v a b
    simp only [sI, Prod.mk.injEq] at h
    obtain ⟨h1, rfl, rfl⟩ := h
    have h2 := @goalIs_ok
    unfold goalIs at h2
    refine ⟨annFx 8 N (stB ⟨fr, nl, n, k, v⟩ a b), 1000, ?_⟩
    revert h1
    exact @h2 nil N ⟨fr, nl, n, k, v⟩ a b
  . cases h)
abbrev sCu : List Sx := [rSt, .sc, sCuF]
def fCu (ds : List Dx) : Option (Bool × Dx × List (List Dx)) :=
 match ds with
 | [.rows nil N [.int .i64 fr, .ls nl n [.int .u64 k, .int .u64 v]], .v (.y .i64 f), .l [.l [.v (.y .i64 id), .v (.y .i64 th), .v (.y .i64 ok), .v (.y .u64 key), .v (.y .u64 val), .v (.y .u64 hi), .v (.y .i64 most), .v (.y .i64 frm), .v (.y .i64 to), .v (.yb ov), .v (.y .i64 rk), .v (.y .u64 rv), .rows nlc q [.int .u64 pk, .int .u64 pv]]]] =>
   some (yAnd (preZ ⟨fr, nl, n, k, v⟩ N) (yIn f N), .rows nil (yNsub (cuT ⟨fr, nl, n, k, v⟩ N (yNat f) to) (yNat f)) (colsTs ⟨fr, nl, n, k, v⟩ (yNat f)), [dCal id th ok key val hi most frm to ov rk rv nlc q pk pv])
 | _ => none
theorem smCu (hm : Try.prog.follows .mixedOrders = true) : SmCall Try.prog 76 (λ args h => (ctX sCu rSt fCu args h).sel) :=
 ctX_ok hm noSm_ok (λ ds r post h => by
  unfold fCu at h
  split at h
  . rename_i nil N fr nl n k v f id th ok key val hi most frm to ov rk rv nlc q pk pv
    simp only [sI, Prod.mk.injEq] at h
    obtain ⟨h1, rfl, rfl⟩ := h
    obtain ⟨k1, k3⟩ := yAnd_t.mp h1
    clear h1
    have h2 := @goalCu_ok
    unfold goalCu at h2
    obtain ⟨x, rfl⟩ : ∃ x : Nat, f = (x : Int) := ⟨f.toNat, by rw [yIn_t] at k3; omega⟩
    have h4 : yNlt x N = true := by rw [yIn_t] at k3; rw [yNlt_t]; omega
    clear k3
    refine ⟨annCu ⟨fr, nl, n, k, v⟩ N x to, 1000, ?_⟩
    revert k1 h4
    exact @h2 nil N ⟨fr, nl, n, k, v⟩ x id th ok key val hi most frm to ov rk rv nlc q pk pv
  . cases h)
end Go.Proofs.Ytknfdbilpfblnaa.Ex
end
