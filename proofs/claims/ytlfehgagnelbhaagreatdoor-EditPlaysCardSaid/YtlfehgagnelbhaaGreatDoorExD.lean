/- The abstract machine: lists of cells, and the steps of memory. -/
import Derived.Test.YtlfehgagnelbhaaGreatDoorExC
import Derived.Laws.CopyRow
import Derived.Deep.AppendSrc
namespace Go.Proofs.YtlfehgagnelbhaaGreatDoor.Ex
open Go

section lists
variable {M : Mp}
theorem RL_length : ∀ {l : List AV} {vs : List Value}, AV.RL M l vs → vs.length = l.length
  | [], vs, r => by simp only [AV.RL] at r; subst r; rfl
  | a :: l, vs, r => by simp only [AV.RL] at r; obtain ⟨v, vs', _, r2, rfl⟩ := r; simp [RL_length r2]
theorem RL_append : ∀ {l k : List AV} {vs us : List Value}, AV.RL M l vs → AV.RL M k us → AV.RL M (l ++ k) (vs ++ us)
  | [], _, vs, _, r, s => by simp only [AV.RL] at r; subst r; exact s
  | a :: l, _, vs, _, r, s => by
    simp only [AV.RL] at r; obtain ⟨v, vs', r1, r2, rfl⟩ := r
    simp only [List.cons_append, AV.RL]
    exact ⟨v, _, r1, RL_append r2 s, rfl⟩
theorem RL_take : ∀ {l : List AV} {vs : List Value} (n : Nat), AV.RL M l vs → AV.RL M (l.take n) (vs.take n)
  | _, _, 0, _ => by simp [AV.RL]
  | [], vs, n + 1, r => by simp only [AV.RL] at r; subst r; simp [AV.RL]
  | a :: l, vs, n + 1, r => by
    simp only [AV.RL] at r; obtain ⟨v, vs', r1, r2, rfl⟩ := r
    simp only [List.take_succ_cons, AV.RL]
    exact ⟨v, _, r1, RL_take n r2, rfl⟩
theorem RL_drop : ∀ {l : List AV} {vs : List Value} (n : Nat), AV.RL M l vs → AV.RL M (l.drop n) (vs.drop n)
  | _, _, 0, r => by simpa using r
  | [], vs, n + 1, r => by simp only [AV.RL] at r; subst r; simp [AV.RL]
  | a :: l, vs, n + 1, r => by
    simp only [AV.RL] at r; obtain ⟨v, vs', r1, r2, rfl⟩ := r
    simp only [List.drop_succ_cons]
    exact RL_drop n r2
theorem nthA_get : ∀ {l : List AV} {n : Nat} {a : AV} {vs : List Value}, nthA l n = some a → AV.RL M l vs → ∃ v, vs[n]? = some v ∧ a.R M v
  | [], _, _, _, h, _ => by simp [nthA] at h
  | x :: l, 0, a, vs, h, r => by
    simp only [nthA, Option.some.injEq] at h; subst h
    simp only [AV.RL] at r; obtain ⟨v, vs', r1, r2, rfl⟩ := r
    exact ⟨v, rfl, r1⟩
  | x :: l, n + 1, a, vs, h, r => by
    simp only [nthA] at h
    simp only [AV.RL] at r; obtain ⟨v, vs', r1, r2, rfl⟩ := r
    simpa using nthA_get h r2
theorem takeA_eq : ∀ {l : List AV} {n : Nat} {r : List AV}, takeA l n = some r → r = l.take n ∧ n ≤ l.length
  | _, 0, r, h => by simp [takeA] at h; subst h; simp
  | [], n + 1, r, h => by simp [takeA] at h
  | a :: l, n + 1, r, h => by
    simp only [takeA] at h
    split at h
    · rename_i k hk
      obtain ⟨h1, h2⟩ := takeA_eq hk
      simp only [Option.some.injEq] at h; subst h; subst h1
      simp; omega
    · cases h
theorem sliceA_eq : ∀ {l : List AV} {o n : Nat} {r : List AV}, sliceA l o n = some r → r = (l.drop o).take n ∧ o + n ≤ l.length
  | l, 0, n, r, h => by
    simp only [sliceA] at h
    obtain ⟨h1, h2⟩ := takeA_eq h
    subst h1; simp; omega
  | [], o + 1, n, r, h => by simp [sliceA] at h
  | a :: l, o + 1, n, r, h => by
    simp only [sliceA] at h
    obtain ⟨h1, h2⟩ := sliceA_eq h
    subst h1; simp; omega
theorem spliceA_eq : ∀ {l : List AV} {o : Nat} {x r : List AV}, spliceA l o x = some r → r = l.take o ++ x ++ l.drop (o + x.length) ∧ o + x.length ≤ l.length
  | l, 0, [], r, h => by cases l <;> (simp [spliceA] at h; subst h; simp)
  | a :: l, 0, v :: vs, r, h => by
    simp only [spliceA] at h
    split at h
    · rename_i k hk
      obtain ⟨h1, h2⟩ := spliceA_eq hk
      simp only [Option.some.injEq] at h; subst h; subst h1
      simp at h2 ⊢; omega
    · cases h
  | [], 0, v :: vs, r, h => by simp [spliceA] at h
  | [], o + 1, x, r, h => by cases x <;> simp [spliceA] at h
  | a :: l, o + 1, x, r, h => by
    have h' : (spliceA l o x).map (a :: ·) = some r := by
      cases x <;> (simp only [spliceA] at h; split at h <;> simp_all)
    cases hk : spliceA l o x
    · rw [hk] at h'; cases h'
    · rename_i k
      rw [hk] at h'
      obtain ⟨h1, h2⟩ := spliceA_eq hk
      simp only [Option.map_some, Option.some.injEq] at h'; subst h'; subst h1
      have e : o + 1 + x.length = (o + x.length) + 1 := by omega
      rw [e]
      simp; omega
theorem RL_splice {l x r : List AV} {vs us : List Value} {o : Nat} (h : spliceA l o x = some r) (hl : AV.RL M l vs) (hx : AV.RL M x us) :
    AV.RL M r (vs.take o ++ us ++ vs.drop (o + us.length)) ∧ o + us.length ≤ vs.length := by
  obtain ⟨h1, h2⟩ := spliceA_eq h
  have e1 := RL_length hl
  have e2 := RL_length hx
  subst h1
  rw [e2]
  exact ⟨RL_append (RL_append (RL_take _ hl) hx) (RL_drop _ hl), by omega⟩
theorem splice_rest {vs us rest : List Value} {o : Nat} (h : o + us.length ≤ vs.length) :
    (vs ++ rest).take o ++ us ++ (vs ++ rest).drop (o + us.length) = (vs.take o ++ us ++ vs.drop (o + us.length)) ++ rest := by
  rw [List.take_append_of_le_length (by omega), List.drop_append_of_le_length h]; simp [List.append_assoc]
theorem splice_len {vs us : List Value} {o : Nat} (h : o + us.length ≤ vs.length) : (vs.take o ++ us ++ vs.drop (o + us.length)).length = vs.length := by
  simp; omega
theorem RL_map_o : ∀ (l : List Value), AV.RL M (l.map .o) l
  | [] => by simp [AV.RL]
  | v :: l => by simp only [List.map_cons, AV.RL]; exact ⟨v, l, rfl, RL_map_o l, rfl⟩
end lists

theorem ofV_R (M : Mp) : ∀ (n : Nat) (v : Value), (ofV n v).R M v := by
  have hl : ∀ (n : Nat), (∀ v, (ofV n v).R M v) → ∀ l : List Value, AV.RL M (l.map (ofV n)) l := by
    intro n h l
    induction l with
    | nil => simp [AV.RL]
    | cons v l ih => simp only [List.map_cons, AV.RL]; exact ⟨v, l, h v, ih, rfl⟩
  intro n
  induction n with
  | zero =>
    intro v
    unfold ofV
    split <;> first | rfl | simp_all
  | succ n ih =>
    intro v
    unfold ofV
    split <;> first | rfl | (simp_all [AV.R]; done) | skip
    · rename_i hh
      simp only [AV.R]
      simp only [Nat.succ.injEq] at hh
      subst hh
      exact ⟨_, hl _ ih _, by simp⟩

theorem cellsA_R {M : Mp} {a : AV} {v : Value} (h : a.R M v) : AV.RL M (cellsA a) v.cells.toList := by
  unfold cellsA
  split
  · simp only [AV.R] at h
    obtain ⟨vs, r, rfl⟩ := h
    simpa [Value.cells] using r
  · simp only [AV.R] at h; subst h
    simp only [Value.cells]
    exact RL_map_o _
  · rename_i h1 h2
    have : v.cells = #[v] := by
      cases a <;> simp only [AV.R] at h <;> first
        | (subst h; first | rfl | (cases v <;> first | rfl | (exfalso; exact h2 _ rfl)))
        | (exfalso; exact h1 _ rfl)
        | (rcases h with ⟨_, _, rfl⟩ | ⟨_, _, _, _, rfl, _⟩ | ⟨_, _, _, _, _, rfl, _⟩ <;> rfl)
        | (rcases h with ⟨_, _, rfl⟩ | ⟨_, _, _, _, rfl, _⟩ | ⟨_, _, _, _, _, _, rfl, _⟩ <;> rfl)
        | (rcases h with ⟨_, rfl⟩ | ⟨_, _, rfl⟩ <;> rfl)
        | (obtain ⟨_, _, _, rfl, _⟩ := h; rfl)
        | (obtain ⟨_, _, _, rfl⟩ := h; rfl)
        | (obtain ⟨_, _, rfl⟩ := h; rfl)
    rw [this]
    simp only [AV.RL]
    exact ⟨v, [], h, rfl, rfl⟩
theorem isCell_one {M : Mp} {a : AV} {v : Value} (h : a.R M v) (hc : isCell a = true) : v.oneCell' = true := by
  cases a <;> simp only [AV.R] at h <;> first
    | (subst h; first | rfl | (simp [isCell] at hc; done) | (cases v <;> first | rfl | (simp [isCell] at hc; done)))
    | (simp [isCell] at hc; done)
    | (rcases h with ⟨_, _, rfl⟩ | ⟨_, _, _, _, rfl, _⟩ | ⟨_, _, _, _, _, rfl, _⟩ <;> rfl)
    | (rcases h with ⟨_, _, rfl⟩ | ⟨_, _, _, _, rfl, _⟩ | ⟨_, _, _, _, _, _, rfl, _⟩ <;> rfl)
    | (rcases h with ⟨_, rfl⟩ | ⟨_, _, rfl⟩ <;> rfl)
    | (obtain ⟨_, _, _, rfl, _⟩ := h; rfl)
    | (obtain ⟨_, _, _, rfl⟩ := h; rfl)
    | (obtain ⟨_, _, rfl⟩ := h; rfl)
theorem allCell_one {M : Mp} : ∀ {l : List AV} {vs : List Value}, AV.RL M l vs → allCell l = true → ∀ v ∈ vs, v.oneCell' = true
  | [], vs, r, _ => by simp only [AV.RL] at r; subst r; simp
  | a :: l, vs, r, h => by
    simp only [AV.RL] at r; obtain ⟨v, vs', r1, r2, rfl⟩ := r
    simp only [allCell] at h
    have ha : isCell a = true := by cases hh : isCell a <;> simp_all
    rw [ha] at h
    intro u hu
    rcases List.mem_cons.1 hu with rfl | hu
    · exact isCell_one r1 ha
    · exact allCell_one r2 h u hu

/-! Memory. -/
def updM (M : Mp) (id : Nat) (p : Nat × Nat) : Mp := ⟨fun i => if i = id then some p else M i, M.z⟩
theorem Le_updM {M : Mp} {id : Nat} {p : Nat × Nat} (h : M id = none) : Le M (updM M id p) := ⟨fun i q e => by
  unfold updM
  simp only
  split
  · rename_i hi; subst hi; rw [h] at e; cases e
  · exact e, fun _ _ e => e⟩
theorem heap_lt0 {w : World} {b : Nat} {o : Obj} (h : w.heap[b]? = some o) : b < w.heap.size := (Array.getElem?_eq_some_iff.1 h).1
theorem Rel.fz_lt {M : Mp} {h : AH} {w : World} (r : Rel M h w) {b : Nat} {cs : Array Value} (e : M.z b = some cs) : b < w.heap.size := by
  obtain ⟨_, _, h1⟩ := r.fz b cs e
  exact heap_lt0 h1
theorem Rel.fz_none {M : Mp} {h : AH} {w : World} (r : Rel M h w) {b : Nat} (e : w.heap.size ≤ b) : M.z b = none := by
  cases hz : M.z b with
  | none => rfl
  | some cs => have := r.fz_lt hz; omega
/-- The frozen blocks stand as they stood. -/
theorem fz_kept {M : Mp} {h : AH} {w w' : World} (r : Rel M h w) (k : ∀ b, b < w.heap.size → M.z b ≠ none → w'.heap[b]? = w.heap[b]?) : ∀ b cs, M.z b = some cs → ∃ e fr, w'.heap[b]? = some (.cells cs e fr) := fun b cs e => by
  obtain ⟨t, fr, h1⟩ := r.fz b cs e
  exact ⟨t, fr, by rw [k b (heap_lt0 h1) (by rw [e]; simp)]; exact h1⟩

theorem heap_lt {w : World} {b : Nat} {o : Obj} (h : w.heap[b]? = some o) : b < w.heap.size := (Array.getElem?_eq_some_iff.1 h).1

theorem Rel.lt {M : Mp} {h : AH} {w : World} (r : Rel M h w) {id b κ : Nat} (hg : h.get id ≠ none) (hM : M id = some (b, κ)) : b < w.heap.size := by
  cases hh : h.get id with
  | none => exact absurd hh hg
  | some o =>
    rcases r.obj id o hh with ⟨_, hv⟩ | ⟨b', κ', ob, h1, h2, _⟩
    · rw [hM] at hv; cases hv
    rw [hM] at h1
    simp only [Option.some.injEq, Prod.mk.injEq] at h1
    rw [h1.1]
    exact heap_lt h2

theorem new_ok {M : Mp} {h h' : AH} {w : World} {ao : AO} {ob : Obj} {κ : Nat} (r : Rel M h w) (hn : h.new ao = some h') (hM : M h.nx = none) (ho : ObR M κ ao ob) :
    Rel (updM M h.nx (w.heap.size, κ)) h' (w.alloc ob) ∧ Fr h h' M (updM M h.nx (w.heap.size, κ)) w (w.alloc ob) ∧ Ab h h' := by
  have hle : Le M (updM M h.nx (w.heap.size, κ)) := Le_updM hM
  have hg := AH.get_new hn
  obtain ⟨hnx, hbs, hwl⟩ := AH.new_nx hn
  have hsame : ∀ b, b < w.heap.size → (w.alloc ob).heap[b]? = w.heap[b]? := fun b hb => by
    show (w.heap.push ob)[b]? = _
    simp [Array.getElem?_push]; omega
  have hother : ∀ id o, id ≠ h.nx → updM M h.nx (w.heap.size, κ) id = some o → M id = some o := fun id o hne e => by simpa [updM, hne] using e
  refine ⟨⟨fun id o e => ?_, fun i j b κ1 κ2 oi h0 hro h2 e1 e2 => ?_, fun x hx => ?_, fun g c hg => ?_, fun x b κ' o hx hro hM' => ?_, fz_kept (M := M) r (fun b hb _ => hsame b hb), fun i b κ' o e1 hro e2 => ?_⟩, ⟨rfl, rfl, rfl, by show _ ≤ (w.heap.push ob).size; simp, hle, fun id e => ?_, fun k hk _ => hsame k hk, fun id b κ' o' e1 e2 => ?_, fun _ _ e => .inl e⟩, ⟨by omega, hbs, fun x hx => by rw [hwl]; exact hx, fun x hx hy hn => ?_, fun x hx => ?_⟩⟩
  · rw [hg] at e
    split at e
    · rename_i hid
      simp only [Option.some.injEq] at e; subst e
      refine .inr ⟨w.heap.size, κ, ob, by simp [updM, hid], by show (w.heap.push ob)[w.heap.size]? = _; simp, ObR.mono hle _ _ ho⟩
    · rename_i hid
      rcases r.obj id o e with ⟨hv, h1⟩ | ⟨b, κ', ob', h1, h2, h3⟩
      · exact .inl ⟨hv, by simpa [updM, hid] using h1⟩
      · exact .inr ⟨b, κ', ob', hle _ _ h1, by rw [hsame b (heap_lt h2)]; exact h2, ObR.mono hle _ _ h3⟩
  · have h1 : h'.get i ≠ none := by simp [h0]
    rw [hg] at h0 h1 h2
    by_cases hi : i = h.nx <;> by_cases hj : j = h.nx
    · omega
    · have e2' := hother j _ hj e2
      have hjg : h.get j ≠ none := by simpa [hj] using h2
      have := r.lt hjg e2'
      simp [updM, hi] at e1; omega
    · have e1' := hother i _ hi e1
      have hig : h.get i ≠ none := by simpa [hi] using h1
      have := r.lt hig e1'
      simp [updM, hj] at e2; omega
    · exact r.inj i j b κ1 κ2 oi (by simpa [hi] using h0) hro (by simpa [hj] using h2) (hother i _ hi e1) (hother j _ hj e2)
  · rw [hg] at hx
    by_cases hid : x = h.nx
    · omega
    · have := r.wf x (by simpa [hid] using hx); omega
  · obtain ⟨vs, e, fr, h1, h2⟩ := r.gw g c hg
    exact ⟨vs, e, fr, by rw [hsame g (heap_lt h1)]; exact h1, h2⟩
  · rw [hg] at hx
    by_cases hid : x = h.nx
    · simp [updM, hid] at hM'
      cases hgl : GL b with
      | none => rfl
      | some c =>
        obtain ⟨vs, e, fr, h1, _⟩ := r.gw b c hgl
        have := heap_lt h1; omega
    · exact r.gf x b κ' o (by simpa [hid] using hx) hro (hother x _ hid hM')
  · by_cases hid : i = h.nx
    · simp [updM, hid] at e2
      exact r.fz_none (by omega)
    · exact r.fo i b κ' o (by rw [hg] at e1; simpa [hid] using e1) hro (hother i _ hid e2)
  · by_cases hid : id = h.nx
    · omega
    · exact absurd (by simp [updM, hid]) e
  · by_cases hid : id = h.nx
    · left; simp [updM, hid] at e2; omega
    · right; exact ⟨id, κ', o', by rw [hg] at e1; simpa [hid] using e1, hother id _ hid e2, fun e => e⟩
  · rw [hg]
    by_cases hid : x = h.nx
    · omega
    · simp [hid]
  · rw [hg] at hx
    by_cases hid : x = h.nx
    · right; omega
    · left; simpa [hid] using hx

/-- w' is w but for block b, which holds ob. -/
structure Upd (w w' : World) (b : Nat) (ob : Obj) : Prop where
  os : w'.os = w.os
  tape : w'.tape = w.tape
  output : w'.output = w.output
  size : w'.heap.size = w.heap.size
  other : ∀ k, k ≠ b → w'.heap[k]? = w.heap[k]?
  at_ : w'.heap[b]? = some ob

theorem put_ok {M : Mp} {h h' : AH} {w w' : World} {id b κ : Nat} {old ao : AO} {ob : Obj} (r : Rel M h w) (hg : h.get id = some old) (hp : h.put id (some ao) = some h')
    (hM : M id = some (b, κ)) (u : Upd w w' b ob) (ho : ObR M κ ao ob) (hro : old.ro = false := by rfl) : Rel M h' w' ∧ Fr h h' M M w w' ∧ Ab h h' := by
  have hgp := AH.get_put hp
  obtain ⟨hnx, hbs, hwl⟩ := AH.put_nx hp
  have hdom : ∀ x, h'.get x ≠ none ↔ h.get x ≠ none := fun x => by
    rw [hgp]; split
    · rename_i e; subst e; simp [hg]
    · exact Iff.rfl
  refine ⟨⟨fun x o e => ?_, fun i j c κ1 κ2 oi h1 hr h2 => by
      rw [hgp] at h1
      split at h1
      · rename_i hi; subst hi; exact r.inj i j c κ1 κ2 old hg hro ((hdom j).1 h2)
      · exact r.inj i j c κ1 κ2 oi h1 hr ((hdom j).1 h2), fun x hx => by rw [hnx]; exact r.wf x ((hdom x).1 hx), fun g c hgl => by
      obtain ⟨vs, e, fr, h1, h2⟩ := r.gw g c hgl
      have hgb : g ≠ b := fun e2 => by
        have := r.gf id b κ old hg hro hM
        rw [← e2, hgl] at this; cases this
      exact ⟨vs, e, fr, by rw [u.other g hgb]; exact h1, h2⟩, fun x c κ' o e1 hr e2 => by
      rw [hgp] at e1
      split at e1
      · rename_i hi; subst hi; exact r.gf x c κ' old hg hro e2
      · exact r.gf x c κ' o e1 hr e2, fz_kept r (fun c hc hz => u.other c (fun ec => hz (by rw [ec]; exact r.fo id b κ old hg hro hM))), fun x c κ' o e1 hr e2 => by
      rw [hgp] at e1
      split at e1
      · rename_i hi; subst hi; exact r.fo x c κ' old hg hro e2
      · exact r.fo x c κ' o e1 hr e2⟩, ⟨u.os, u.tape, u.output, Nat.le_of_eq u.size.symm, Le.refl M, fun _ e => absurd rfl e, fun k hk hn => u.other k (fun e => hn id κ old hg hro (by rw [e]; exact hM)), fun x c κ' o' e1 e2 => by
      rw [hgp] at e1
      split at e1
      · rename_i hi; subst hi; exact .inr ⟨x, κ', old, hg, e2, fun _ => hro⟩
      · exact .inr ⟨x, κ', o', e1, e2, fun e => e⟩, fun _ _ e => .inl e⟩, ⟨by omega, hbs, fun x hx => ?_, fun x hx _ hn => ?_, fun x hx => .inl ((hdom x).1 hx)⟩⟩
  · rw [hgp] at e
    split at e
    · rename_i hid
      simp only [Option.some.injEq] at e; subst e
      exact .inr ⟨b, κ, ob, by rw [hid]; exact hM, u.at_, ho⟩
    · rename_i hid
      rcases r.obj x o e with hv | ⟨c, κ', ob', h1, h2, h3⟩
      · exact .inl hv
      refine .inr ⟨c, κ', ob', h1, ?_, h3⟩
      rw [u.other c (fun ec => hid (r.inj id x b κ κ' old hg hro (by simp [e]) hM (by rw [← ec]; exact h1)).symm)]
      exact h2
  · rw [hwl]
    rw [nblt, Bool.cond_decide]
    split
    · cases hm : memN id h.wl <;> simp [hx]
    · exact hx
  · rw [hgp]
    split
    · rename_i e; subst e
      exfalso; apply hn
      rw [hwl, nblt, Bool.cond_decide, if_pos hx]
      cases hm : memN x h.wl
      · simp
      · simpa using memN_iff.1 hm
    · rfl

theorem del_ok {M : Mp} {h h' : AH} {w : World} {id : Nat} (r : Rel M h w) (hp : h.put id none = some h') : Rel M h' w ∧ Fr h h' M M w w ∧ Ab h h' := by
  have hgp := AH.get_put hp
  obtain ⟨hnx, hbs, hwl⟩ := AH.put_nx hp
  have hdom : ∀ x, h'.get x ≠ none → h.get x ≠ none := fun x => by
    rw [hgp]; split
    · intro e; exact absurd rfl e
    · exact fun e => e
  refine ⟨⟨fun x o e => ?_, fun i j c κ1 κ2 oi h1 hr h2 => by
      rw [hgp] at h1
      split at h1
      · cases h1
      · exact r.inj i j c κ1 κ2 oi h1 hr (hdom j h2), fun x hx => by rw [hnx]; exact r.wf x (hdom x hx), r.gw, fun x c κ' o e1 hr e2 => by
      rw [hgp] at e1
      split at e1
      · cases e1
      · exact r.gf x c κ' o e1 hr e2, r.fz, fun x c κ' o e1 hr e2 => by
      rw [hgp] at e1
      split at e1
      · cases e1
      · exact r.fo x c κ' o e1 hr e2⟩, ⟨rfl, rfl, rfl, Nat.le_refl _, Le.refl M, fun _ e => absurd rfl e, fun _ _ _ => rfl, fun x c κ' o' e1 e2 => by
      rw [hgp] at e1
      split at e1
      · cases e1
      · exact .inr ⟨x, κ', o', e1, e2, fun e => e⟩, fun _ _ e => .inl e⟩, ⟨by omega, hbs, fun x hx => ?_, fun x hx _ hn => ?_, fun x hx => .inl (hdom x hx)⟩⟩
  · rw [hgp] at e
    split at e
    · cases e
    · exact r.obj x o e
  · rw [hwl]
    rw [nblt, Bool.cond_decide]
    split
    · cases hm : memN id h.wl <;> simp [hx]
    · exact hx
  · rw [hgp]
    split
    · rename_i e; subst e
      exfalso; apply hn
      rw [hwl, nblt, Bool.cond_decide, if_pos hx]
      cases hm : memN x h.wl
      · simp
      · simpa using memN_iff.1 hm
    · rfl

theorem Rel.same {M : Mp} {h : AH} {w w' : World} (r : Rel M h w) (e : w'.heap = w.heap) : Rel M h w' :=
  ⟨fun id o g => by rw [e]; exact r.obj id o g, r.inj, r.wf, fun g c hg => by rw [e]; exact r.gw g c hg, r.gf, fun b cs hz => by rw [e]; exact r.fz b cs hz, r.fo⟩
theorem Fr.drew {h h' : AH} {M M' : Mp} {w w' : World} (f : Fr h h' M M' w.drew w') : Fr h h' M M' w w' :=
  ⟨f.os, f.tape, f.output, f.size, f.ext, f.only, f.keep, f.range, f.zx⟩

theorem upd_setRow {w : World} {g : Nat} {cur cs : Array Value} {t : TypeId} (hg : w.heap[g]? = some (.cells cur t (0, 0))) : Upd w (w.setRow g cs) g (.cells cs t (0, 0)) where
  os := rfl
  tape := rfl
  output := rfl
  size := by simp [World.setRow]
  other := fun k hk => by
    simp only [World.setRow, Array.getElem?_modify]
    rw [if_neg (fun e => hk e.symm)]
  at_ := setRow_heap w g cur cs t (0, 0) hg

/-- Reading cells. -/
def RowR (M : Mp) (c : List AV) (ob : Obj) : Prop := ∃ vs rest e fr, AV.RL M c vs ∧ ob = .cells (vs ++ rest).toArray e fr
theorem ObR.row {M : Mp} {κ : Nat} {c : List AV} {e : TypeId} {g : Option Nat} {ob : Obj} (h : ObR M κ (.cells c e g) ob) : RowR M c ob := by
  obtain ⟨vs, rest, r, rfl, _⟩ := h
  exact ⟨vs, rest, e, _, r, rfl⟩
theorem GW.row {M : Mp} {w : World} (h : GW w) {g : Nat} {c : List AV} (hg : GL g = some c) : ∃ ob, w.heap[g]? = some ob ∧ RowR M c ob := by
  obtain ⟨vs, e, fr, h1, h2⟩ := h g c hg
  exact ⟨_, h1, vs, [], e, fr, AV.RL.mono ⟨fun _ _ e => (by cases e), fun _ _ e => (by cases e)⟩ c vs h2, by simp⟩
theorem cell_ok {M : Mp} {w : World} {b off : Nat} {c : List AV} {ob : Obj} {a : AV} (hb : w.heap[b]? = some ob) (ho : RowR M c ob)
    (hn : nthA c off = some a) : ∃ v, w.cell? ⟨b, off, none⟩ = some v ∧ a.R M v := by
  obtain ⟨vs, rest, e, fr, r, rfl⟩ := ho
  obtain ⟨v, h1, h2⟩ := nthA_get hn r
  refine ⟨v, ?_, h2⟩
  have hlt : off < vs.length := (List.getElem?_eq_some_iff.1 h1).1
  simp [World.cell?, hb, List.getElem?_append_left hlt, h1]

theorem addr_add (b off n : Nat) : (⟨b, off, none⟩ : Addr).add n = ⟨b, off + n, none⟩ := by
  unfold Addr.add; split <;> simp_all

theorem cells_ok {P : Program} {M : Mp} {w : World} {b off n : Nat} {c : List AV} {ob : Obj} {l : List AV} (hb : w.heap[b]? = some ob) (ho : RowR M c ob)
    (hn : sliceA c off n = some l) : ∃ vs, (∀ w' : World, w'.heap = w.heap → (loadCells ⟨b, off, none⟩ n).run P w' = .ok vs.toArray w') ∧ AV.RL M l vs ∧ vs.length = n ∧ ∀ j v, vs[j]? = some v → w.cell? (⟨b, off + j, none⟩) = some v := by
  obtain ⟨vs, rest, e, fr, r, rfl⟩ := ho
  obtain ⟨h1, h2⟩ := sliceA_eq hn
  have hl := RL_length r
  subst h1
  have key : ∀ (w' : World), w'.heap = w.heap → ∀ j v, ((vs.drop off).take n)[j]? = some v → w'.cell? (⟨b, off + j, none⟩) = some v := fun w' hw j v hj => by
    rw [List.getElem?_take] at hj
    split at hj
    · rw [List.getElem?_drop] at hj
      have hlt : off + j < vs.length := (List.getElem?_eq_some_iff.1 hj).1
      simp [World.cell?, hw, hb, List.getElem?_append_left hlt, hj]
    · cases hj
  have hlen : ((vs.drop off).take n).length = n := by simp; omega
  refine ⟨(vs.drop off).take n, fun w' hw => ?_, RL_take n (RL_drop off r), hlen, key w rfl⟩
  have := run_loadCells_list (P := P) w' ⟨b, off, none⟩ ((vs.drop off).take n) (fun j v hj => by rw [addr_add]; exact key w' hw j v hj)
  rw [hlen] at this
  exact this

/-- Writing cells. -/
theorem splice_ok {P : Program} {M : Mp} {h h' : AH} {w : World} {id off : Nat} {c c' x : List AV} {us : List Value} {e : TypeId} {g : Option Nat} (r : Rel M h w) (hg : h.get id = some (.cells c e g))
    (hs : spliceA c off x = some c') (hp : h.put id (some (.cells c' e g)) = some h') (hx : AV.RL M x us) (h1 : ∀ v ∈ us, v.oneCell' = true) :
    ∃ b κ w', M id = some (b, κ) ∧ (storeCells ⟨b, off, none⟩ us).run P w = .ok () w' ∧ Rel M h' w' ∧ Fr h h' M M w w' ∧ Ab h h' := by
  rcases r.obj id _ hg with ⟨hv, _⟩ | ⟨b, κ, ob, hM, hb, vs, rest, rl, rfl, hgr⟩
  · exact absurd hv (by simp [AO.Vac])
  obtain ⟨r2, hle⟩ := RL_splice hs rl hx
  have hst := run_storeCells_at P b off e us 0 (vs ++ rest).toArray w hb (by simp; omega) h1
  refine ⟨b, κ, _, hM, by simpa using hst, ?_⟩
  refine put_ok r hg hp hM (upd_setRow hb) ⟨_, rest, r2, ?_, ?_⟩
  · have := splice_rest (rest := rest) hle
    rw [← this, List.append_assoc]
  · cases g with
    | none => exact hgr
    | some z =>
      simp only at hgr ⊢
      rw [← hgr]
      simp; omega
end Go.Proofs.YtlfehgagnelbhaaGreatDoor.Ex
