/- Walks by symbols: contracts of functions that hand back blocks of their own, and turn what is theirs. -/
import Derived.Test.YtlfehgagnelbhaaGreatDoorWm
namespace Go.Proofs.YtlfehgagnelbhaaGreatDoor.Ex
open Go

section
variable {N N' : Mp}
mutual
theorem canX_shift {L : Nat} {x1 x2 : Nat → Nat} (hN : ∀ j p, j < L → N (x1 j) = some p → N' (x2 j) = some p) : ∀ (s : Sx) (d : Dx) (b1 b2 : List AO), (ZLe N N' ∨ flatX s d = true) → (canX x1 s d b1).2.length ≤ L → SHL N N' b1 b2 → SHL N N' (canX x1 s d b1).2 (canX x2 s d b2).2 ∧ ∀ u, (canX x1 s d b1).1.R N u → (canX x2 s d b2).1.R N' u
  | .sc, d, b1, b2, hz, hL, hs => by
    simp only [canX] at hL ⊢
    cases d <;> simp only [] at hL ⊢
    case v a =>
      refine ⟨hs, fun u r => ?_⟩
      cases hb : scalB a with
      | true => rw [hb] at r; exact (scalB_R hb r).1
      | false => rw [hb] at r; exact r
    all_goals exact ⟨hs, fun u r => r⟩
  | .ro e ks, d, b1, b2, hz, hL, hs => by
    simp only [canX] at hL ⊢
    cases d <;> simp only [] at hL ⊢
    case rows nil n cols =>
      refine ⟨hs.snoc (SH_arr (hz.imp id (fun e => by simpa only [flatX] using e))), fun u r => ?_⟩
      simp only [List.length_append, List.length_singleton] at hL
      simp only [AV.R] at r ⊢
      rcases r with r | r | ⟨h1, b, κ, c, hM, r⟩
      · exact .inl r
      · exact .inr (.inl r)
      · exact .inr (.inr ⟨h1, b, κ, c, by rw [← hs.1]; exact hN _ _ (by omega) hM, r⟩)
    all_goals exact ⟨hs, fun u r => r⟩
  | .own e ks, d, b1, b2, hz, hL, hs => by
    simp only [canX] at hL ⊢
    cases d <;> simp only [] at hL ⊢
    case rows nil n cols =>
      refine ⟨hs.snoc (SH_arr (hz.imp id (fun e => by simpa only [flatX] using e))), fun u r => ?_⟩
      simp only [List.length_append, List.length_singleton] at hL
      simp only [AV.R] at r ⊢
      rcases r with r | r | ⟨h1, b, κ, c, hM, r⟩
      · exact .inl r
      · exact .inr (.inl r)
      · exact .inr (.inr ⟨h1, b, κ, c, by rw [← hs.1]; exact hN _ _ (by omega) hM, r⟩)
    all_goals exact ⟨hs, fun u r => r⟩
  | .ptr t l, d, b1, b2, hz, hL, hs => by
    simp only [canX] at hL ⊢
    cases d <;> simp only [] at hL ⊢
    case l ds =>
      simp only [List.length_append, List.length_singleton] at hL
      obtain ⟨h1, h2⟩ := canXs_shift hN l ds b1 b2 (hz.imp id (fun e => by simpa only [flatX] using e)) (by omega) hs
      refine ⟨h1.snoc ⟨rfl, fun h => h, fun κ ob h => ?_⟩, fun u r => ?_⟩
      · obtain ⟨vs, rest, r1, r2⟩ := h
        exact ⟨vs, rest, h2 _ r1, r2⟩
      · simp only [AV.R] at r ⊢
        obtain ⟨b, c, hM, r⟩ := r
        exact ⟨b, c, by rw [← h1.1]; exact hN _ _ (by omega) hM, r⟩
    all_goals exact ⟨hs, fun u r => r⟩
  | .agg l, d, b1, b2, hz, hL, hs => by
    simp only [canX] at hL ⊢
    cases d <;> simp only [] at hL ⊢
    case l ds =>
      obtain ⟨h1, h2⟩ := canXs_shift hN l ds b1 b2 (hz.imp id (fun e => by simpa only [flatX] using e)) hL hs
      refine ⟨h1, fun u r => ?_⟩
      simp only [AV.R] at r ⊢
      obtain ⟨vs, r1, r2⟩ := r
      exact ⟨vs, h2 _ r1, r2⟩
    all_goals exact ⟨hs, fun u r => r⟩
  | .tup l, d, b1, b2, hz, hL, hs => by
    simp only [canX] at hL ⊢
    cases d <;> simp only [] at hL ⊢
    case l ds =>
      obtain ⟨h1, h2⟩ := canXs_shift hN l ds b1 b2 (hz.imp id (fun e => by simpa only [flatX] using e)) hL hs
      refine ⟨h1, fun u r => ?_⟩
      simp only [AV.R] at r ⊢
      obtain ⟨vs, r1, r2⟩ := r
      exact ⟨vs, h2 _ r1, r2⟩
    all_goals exact ⟨hs, fun u r => r⟩
  | .fn f l, d, b1, b2, hz, hL, hs => by
    simp only [canX] at hL ⊢
    cases d <;> simp only [] at hL ⊢
    case l ds =>
      obtain ⟨h1, h2⟩ := canXs_shift hN l ds b1 b2 (hz.imp id (fun e => by simpa only [flatX] using e)) hL hs
      refine ⟨h1, fun u r => ?_⟩
      simp only [AV.R] at r ⊢
      obtain ⟨vs, r1, r2⟩ := r
      exact ⟨vs, h2 _ r1, r2⟩
    all_goals exact ⟨hs, fun u r => r⟩
  | .pl ks, d, b1, b2, hz, hL, hs => by
    simp only [canX] at hL ⊢
    cases d <;> simp only [] at hL ⊢
    case rows nil n cols =>
      refine ⟨hs, fun u r => ?_⟩
      rcases hz with hz | hz
      · exact (lst_can hz (fun _ _ _ _ _ r => cols_sc (.inl hz) r) r).1
      · simp [flatX] at hz
    all_goals exact ⟨hs, fun u r => r⟩
theorem canXs_shift {L : Nat} {x1 x2 : Nat → Nat} (hN : ∀ j p, j < L → N (x1 j) = some p → N' (x2 j) = some p) : ∀ (ss : List Sx) (ds : List Dx) (b1 b2 : List AO), (ZLe N N' ∨ flatXs ss ds = true) → (canXs x1 ss ds b1).2.length ≤ L → SHL N N' b1 b2 → SHL N N' (canXs x1 ss ds b1).2 (canXs x2 ss ds b2).2 ∧ ∀ us, AV.RL N (canXs x1 ss ds b1).1 us → AV.RL N' (canXs x2 ss ds b2).1 us
  | [], ds, b1, b2, hz, hL, hs => by simp only [canXs]; exact ⟨hs, fun us r => r⟩
  | s :: ss, ds, b1, b2, hz, hL, hs => by
    simp only [canXs] at hL ⊢
    cases ds with
    | nil => exact ⟨hs, fun us r => r⟩
    | cons d ds' =>
      simp only at hL ⊢
      obtain ⟨h1, h2⟩ := canX_shift hN s d b1 b2 (hz.imp id (fun e => by simp only [flatXs, Bool.and_eq_true] at e; exact e.1)) (Nat.le_trans (canXs_le x1 ss ds' _) hL) hs
      obtain ⟨h3, h4⟩ := canXs_shift hN ss ds' _ _ (hz.imp id (fun e => by simp only [flatXs, Bool.and_eq_true] at e; exact e.2)) hL h1
      refine ⟨h3, fun us r => ?_⟩
      simp only [AV.RL] at r ⊢
      obtain ⟨v, vs, r1, r2, r3⟩ := r
      exact ⟨v, vs, h2 _ r1, h4 _ r2, r3⟩
end
end

/-! What comes back. -/
def ptrSh : List Sx → List Dx → List (TypeId × List Sx)
  | [], _ => []
  | s :: ss, ds => match ds with
    | [] => []
    | d :: ds' => match s, d with
      | .ptr t l, .l _ => (t, l) :: ptrSh ss ds'
      | _, _ => ptrSh ss ds'
def ptrId : List AV → List Nat
  | [] => []
  | a :: l => match a with
    | .ptr id _ => id :: ptrId l
    | _ => ptrId l
def expP (x0 : Nat → Nat) : List (TypeId × List Sx) → List (List Dx) → List AO → List AO × List AO
  | [], _, bl => ([], bl)
  | (t, l) :: ps, dss, bl => match dss with
    | [] => ([], bl)
    | ds :: dss' => match canXs x0 l ds bl with | (vs, bl1) => match expP x0 ps dss' bl1 with | (cs, bl2) => (.cells vs t none :: cs, bl2)
def expR (x0 : Nat → Nat) (ps : List (TypeId × List Sx)) (rs : Sx) (r : Dx) (post : List (List Dx)) : AV × List AO × List AO :=
  match expP x0 ps post [] with
  | (cs, bl1) => match canX x0 rs r bl1 with | (v, bl2) => (v, cs, bl2)
def numR : Nat → List AO → List (Nat × AO) → List (Nat × AO)
  | _, [], acc => acc
  | k, a :: l, acc => numR (Nat.succ k) l ((k, a) :: acc)
def delX : Nat → List AO → List Nat → List Nat
  | _, [], _ => []
  | k, a :: l, ps => bif a.ro || memN k ps then delX (Nat.succ k) l ps else k :: delX (Nat.succ k) l ps
def remX : List AO → List (Option Nat) → List Nat → List Nat
  | a :: l, i :: is, ps => match i with
    | some id => bif a.ro || memN id ps then remX l is ps else id :: remX l is ps
    | none => remX l is ps
  | _, _, _ => []
def linkB (bl : List AO) (is : List (Option Nat)) (h : AH) : List Nat → List Nat → Bool
  | [], ps => match ps with | [] => true | _ => false
  | c :: cs, ps => match ps with
    | p :: ps' => (match is[c]? with | some (some q) => Nat.beq q p | _ => false) && (match bl[c]? with | some a => !a.ro | none => false) && (match h.get p with | some _ => true | none => false) && linkB bl is h cs ps'
    | [] => false
/-- What the function leaves, found in what it comes to. -/
def postX (k : Nat) (del pids : List Nat) (E : AV × List AO × List AO) (v : AV) (h : AH) : Prop :=
  match E with
  | (c, cs, bl) => cmpV k h c v [] fun ρ => cmpHs k h (pids.zip cs ++ numR k bl []) ρ fun ρ => (okR k (k + bl.length) del ρ && okFz h ρ) = true
def allOwn : List AO → Bool
  | [] => true
  | a :: l => !a.ro && allOwn l
def allCells : List AO → Bool
  | [] => true
  | a :: l => (match a with | .cells _ _ _ => true | _ => false) && allCells l
/-- The heap behind it. -/
def heapX (h : AH) (rem pids : List Nat) (cs nb : List AO) : AH :=
  ⟨setQs (setQs (setQs h.t (rem.map fun d => (d, none))) ((pids.zip cs).map fun p => (p.1, some p.2))) (numL h.nx nb), h.nx + nb.length, h.bs, filtLt h.bs (rem ++ pids) ++ h.wl⟩
def flatP : List (TypeId × List Sx) → List (List Dx) → Bool
  | [], _ => true
  | (_, l) :: ps, dss => match dss with | ds :: dss' => flatXs l ds && flatP ps dss' | [] => true
def ctX (ss : List Sx) (rs : Sx) (F : List Dx → Option (Bool × Dx × List (List Dx))) (args : List AV) (h : AH) : T (AV × AH) :=
  (rdXs h ss args).bind fun (ds, is) => match F ds with
    | some (pre, r, post) => match canXs nmI ss ds [] with
      | (cargs, bl) => match expR (fun j => h.nx + j) (ptrSh ss ds) rs r post with
        | (v, cs, nb) => match lendXs h ss args with
          | L => match (bif flatP (ptrSh ss ds) post && flatX rs r then ([] : List Nat) else L) with
            | LR => bif okIds bl is && linkB bl is h (ptrId cargs) (ptrId args) && Nat.beq cs.length (ptrId args).length && nodupB (ptrId args) && allLt h.nx (remX bl is (ptrId args) ++ LR) && allLt h.nx (ptrId args) && Nat.blt (h.nx + nb.length) 4294967296 && Nat.blt (bl.length + nb.length) 4294967296 && allOwn nb && allOwn cs && okLend bl is h L then
                .must pre (.ret (v, heapX h (remX bl is (ptrId args) ++ LR) (ptrId args) cs nb))
              else .no
    | none => .no

theorem zip_fst_full {α : Type} : ∀ {l : List Nat} {k : List α}, k.length = l.length → (l.zip k).map (·.1) = l
  | [], _, _ => rfl
  | x :: l, [], h => by simp at h
  | x :: l, y :: k, h => by simp only [List.zip_cons_cons, List.map_cons]; rw [zip_fst_full (by simpa using h)]
theorem heapX_get {h : AH} {rem pids : List Nat} {cs nb : List AO} (h1 : ∀ x ∈ rem, x < h.nx) (h2 : ∀ x ∈ pids, x < h.nx) (h3 : pids.Nodup) (h4 : cs.length = pids.length) (h5 : h.nx + nb.length < 4294967296) :
    (∀ (j : Nat) (c : AO), nb[j]? = some c → (heapX h rem pids cs nb).get (h.nx + j) = some c) ∧ (∀ q c, (q, c) ∈ pids.zip cs → (heapX h rem pids cs nb).get q = some c) ∧
      (∀ q, q ∈ rem → q ∉ pids → (heapX h rem pids cs nb).get q = none) ∧ (∀ q, ¬ (h.nx ≤ q ∧ q < h.nx + nb.length) → q ∉ pids → q ∉ rem → (heapX h rem pids cs nb).get q = h.get q) := by
  have e0 : ∀ q, (heapX h rem pids cs nb).get q = if h.nx ≤ q ∧ q < h.nx + nb.length then nb[q - h.nx]? else (setQs (setQs h.t (rem.map fun d => (d, none))) ((pids.zip cs).map fun p => (p.1, some p.2))).get (q + 1) := fun q => numL_get q (by omega) _
  have hmap : ((pids.zip cs).map fun p => (p.1, some p.2)).map (·.1) = pids := by
    rw [List.map_map]
    exact zip_fst_full h4
  have hlt : ∀ p ∈ (pids.zip cs).map fun p => (p.1, some p.2), p.1 < 4294967296 := fun p hp => by
    have : p.1 ∈ pids := by rw [← hmap]; exact List.mem_map_of_mem hp
    have := h2 _ this; omega
  refine ⟨fun j c hj => ?_, fun q c hq => ?_, fun q hq hn => ?_, fun q hn hp hr => ?_⟩
  · have := (List.getElem?_eq_some_iff.1 hj).1
    rw [e0, if_pos ⟨by omega, by omega⟩, Nat.add_sub_cancel_left]; exact hj
  · have hm : q ∈ pids := (List.of_mem_zip hq).1
    have := h2 _ hm
    rw [e0, if_neg (by omega)]
    exact setQs_eq hlt (by rw [hmap]; exact h3) q _ (List.mem_map.2 ⟨(q, c), hq, rfl⟩)
  · have := h1 _ hq
    rw [e0, if_neg (by omega), setQs_ne hlt q (by rw [hmap]; exact hn)]
    exact setQs_map (g := fun _ => none) (fun p hp => by have := h1 _ hp; omega) q hq
  · rw [e0, if_neg hn, setQs_ne hlt q (by rw [hmap]; exact hp), setQs_ne (fun p hp => by
      obtain ⟨x, hx, rfl⟩ := List.mem_map.1 hp
      have := h1 _ hx
      show x < _
      omega) q (by rw [List.map_map]; simpa using hr)]
    rfl
theorem numR_mem : ∀ {k : Nat} {l : List AO} {acc : List (Nat × AO)}, (∀ x ∈ acc, x ∈ numR k l acc) ∧ ∀ (j : Nat) (c : AO), l[j]? = some c → (k + j, c) ∈ numR k l acc
  | k, [], acc => ⟨fun x h => h, fun j c h => by simp at h⟩
  | k, a :: l, acc => by
    obtain ⟨h1, h2⟩ := numR_mem (k := Nat.succ k) (l := l) (acc := (k, a) :: acc)
    refine ⟨fun x hx => h1 x (by simp [hx]), fun j c hj => ?_⟩
    cases j with
    | zero => simp at hj; subst hj; exact h1 _ (by simp)
    | succ j => have := h2 j c (by simpa using hj); rwa [show Nat.succ k + j = k + (j + 1) by omega] at this
theorem remX_mem : ∀ {l : List AO} {is : List (Option Nat)} {ps : List Nat}, (∀ x ∈ remX l is ps, x ∉ ps ∧ ∃ (j : Nat) (a : AO), l[j]? = some a ∧ is[j]? = some (some x) ∧ a.ro = false) ∧ ∀ (j : Nat) (a : AO) (x : Nat), l[j]? = some a → is[j]? = some (some x) → a.ro = false → x ∉ ps → x ∈ remX l is ps
  | [], is, ps => ⟨fun x h => by simp [remX] at h, fun j a x h => by simp at h⟩
  | _ :: _, [], ps => ⟨fun x h => by simp [remX] at h, fun j a x _ h => by simp at h⟩
  | a :: l, i :: is, ps => by
    obtain ⟨h1, h2⟩ := remX_mem (l := l) (is := is) (ps := ps)
    have up : ∀ x, (x ∉ ps ∧ ∃ (j : Nat) (a : AO), l[j]? = some a ∧ is[j]? = some (some x) ∧ a.ro = false) → x ∉ ps ∧ ∃ (j : Nat) (b : AO), (a :: l)[j]? = some b ∧ (i :: is)[j]? = some (some x) ∧ b.ro = false := fun x ⟨q1, j, b, q2, q3, q4⟩ => ⟨q1, j + 1, b, by simpa using q2, by simpa using q3, q4⟩
    cases i with
    | none =>
      refine ⟨fun x hx => up x (h1 x hx), fun j b x hj hi hr hn => ?_⟩
      cases j with
      | zero => simp at hi
      | succ j => exact h2 j b x (by simpa using hj) (by simpa using hi) hr hn
    | some id =>
      simp only [remX, Bool.cond_eq_ite]
      split
      · rename_i hc
        refine ⟨fun x hx => up x (h1 x hx), fun j b x hj hi hr hn => ?_⟩
        cases j with
        | zero =>
          simp at hj hi; subst hj hi
          simp only [hr, Bool.false_or] at hc
          exact absurd (memN_iff.1 hc) hn
        | succ j => exact h2 j b x (by simpa using hj) (by simpa using hi) hr hn
      · rename_i hc
        simp only [Bool.or_eq_true, not_or, Bool.not_eq_true] at hc
        refine ⟨fun x hx => ?_, fun j b x hj hi hr hn => ?_⟩
        · rcases List.mem_cons.1 hx with rfl | hx
          · exact ⟨(fun hp => by rw [memN_iff.2 hp] at hc; cases hc.2), 0, a, rfl, rfl, hc.1⟩
          · exact up x (h1 x hx)
        · cases j with
          | zero => simp at hj hi; subst hi; simp
          | succ j => exact List.mem_cons_of_mem _ (h2 j b x (by simpa using hj) (by simpa using hi) hr hn)
theorem linkB_at {bl : List AO} {is : List (Option Nat)} {h : AH} : ∀ {cs ps : List Nat}, linkB bl is h cs ps = true → cs.length = ps.length ∧ ∀ (j c p : Nat), cs[j]? = some c → ps[j]? = some p → is[c]? = some (some p) ∧ (∃ a, bl[c]? = some a ∧ a.ro = false) ∧ ∃ o, h.get p = some o
  | [], [], _ => ⟨rfl, fun j c p h => by simp at h⟩
  | [], _ :: _, e => by simp [linkB] at e
  | c :: cs, [], e => by simp [linkB] at e
  | c :: cs, p :: ps, e => by
    simp only [linkB, Bool.and_eq_true] at e
    obtain ⟨⟨⟨e1, e2⟩, e3⟩, e4⟩ := e
    obtain ⟨q1, q2⟩ := linkB_at e4
    refine ⟨by simp [q1], fun j c' p' hc hp => ?_⟩
    cases j with
    | zero =>
      simp at hc hp; subst hc hp
      refine ⟨?_, ?_, ?_⟩
      · split at e1
        · rename_i q hq; rw [← beqN e1]; exact hq
        · cases e1
      · split at e2
        · rename_i a ha; exact ⟨a, ha, by simpa using e2⟩
        · cases e2
      · split at e3
        · rename_i o ho; exact ⟨o, ho⟩
        · cases e3
    | succ j => exact q2 j c' p' (by simpa using hc) (by simpa using hp)
theorem allOwn_at : ∀ {l : List AO} {j : Nat} {a : AO}, allOwn l = true → l[j]? = some a → a.ro = false
  | [], j, a, _, h => by simp at h
  | x :: l, 0, a, h, e => by simp at e; subst e; simp only [allOwn, Bool.and_eq_true, Bool.not_eq_true'] at h; exact h.1
  | x :: l, j + 1, a, h, e => by simp only [allOwn, Bool.and_eq_true] at h; exact allOwn_at h.2 (by simpa using e)
theorem allCells_at : ∀ {l : List AO} {j : Nat} {a : AO}, allCells l = true → l[j]? = some a → a.ro = false ∧ ¬ a.Vac
  | [], j, a, _, h => by simp at h
  | x :: l, 0, a, h, e => by
    simp at e; subst e
    simp only [allCells, Bool.and_eq_true] at h
    have h := h.1
    split at h
    · exact ⟨rfl, fun q => q⟩
    · cases h
  | x :: l, j + 1, a, h, e => by simp only [allCells, Bool.and_eq_true] at h; exact allCells_at h.2 (by simpa using e)
theorem delX_mem : ∀ {l : List AO} {k : Nat} {ps : List Nat}, ∀ x ∈ delX k l ps, x ∉ ps
  | [], k, ps, x, h => by simp [delX] at h
  | a :: l, k, ps, x, h => by
    simp only [delX, Bool.cond_eq_ite] at h
    split at h
    · exact delX_mem x h
    · rename_i hc
      simp only [Bool.or_eq_true, not_or, Bool.not_eq_true] at hc
      rcases List.mem_cons.1 h with rfl | h
      · exact fun hp => by rw [memN_iff.2 hp] at hc; cases hc.2
      · exact delX_mem x h
section
variable {N N' : Mp}
theorem expP_le (x : Nat → Nat) : ∀ (ps : List (TypeId × List Sx)) (dss : List (List Dx)) (bl : List AO), bl.length ≤ (expP x ps dss bl).2.length
  | [], _, _ => Nat.le_refl _
  | (_, _) :: _, [], _ => Nat.le_refl _
  | (t, l) :: ps, ds :: dss, bl => Nat.le_trans (canXs_le x l ds bl) (expP_le x ps dss _)
theorem SHL.cons {l l' : List AO} {a a' : AO} (k : SH N N' a a') (h : SHL N N' l l') : SHL N N' (a :: l) (a' :: l') := by
  refine ⟨by simp [h.1], fun j x hj => ?_⟩
  cases j with
  | zero => simp at hj; subst hj; exact ⟨a', rfl, k⟩
  | succ j => simpa using h.2 j x (by simpa using hj)
theorem SHL.nil : SHL N N' [] [] := ⟨rfl, fun j a h => by simp at h⟩
theorem expP_shift {L : Nat} {x1 x2 : Nat → Nat} (hN : ∀ j p, j < L → N (x1 j) = some p → N' (x2 j) = some p) : ∀ (ps : List (TypeId × List Sx)) (dss : List (List Dx)) (b1 b2 : List AO), (ZLe N N' ∨ flatP ps dss = true) → (expP x1 ps dss b1).2.length ≤ L → SHL N N' b1 b2 →
    SHL N N' (expP x1 ps dss b1).2 (expP x2 ps dss b2).2 ∧ SHL N N' (expP x1 ps dss b1).1 (expP x2 ps dss b2).1
  | [], dss, b1, b2, hz, hL, hs => ⟨hs, SHL.nil⟩
  | (t, l) :: ps, [], b1, b2, hz, hL, hs => ⟨hs, SHL.nil⟩
  | (t, l) :: ps, ds :: dss, b1, b2, hz, hL, hs => by
    have hL : (expP x1 ps dss (canXs x1 l ds b1).2).2.length ≤ L := hL
    obtain ⟨h1, h2⟩ := canXs_shift hN l ds b1 b2 (hz.imp id (fun e => by simp only [flatP, Bool.and_eq_true] at e; exact e.1)) (Nat.le_trans (expP_le x1 ps dss _) hL) hs
    obtain ⟨h3, h4⟩ := expP_shift hN ps dss _ _ (hz.imp id (fun e => by simp only [flatP, Bool.and_eq_true] at e; exact e.2)) hL h1
    refine ⟨h3, SHL.cons ⟨rfl, fun h => h, fun κ ob h => ?_⟩ h4⟩
    obtain ⟨vs, rest, r1, r2⟩ := h
    exact ⟨vs, rest, h2 _ r1, r2⟩
theorem expR_shift {L : Nat} {x1 x2 : Nat → Nat} {ps : List (TypeId × List Sx)} {rs : Sx} {r : Dx} {post : List (List Dx)} (hN : ∀ j p, j < L → N (x1 j) = some p → N' (x2 j) = some p) (hz : ZLe N N' ∨ (flatP ps post && flatX rs r) = true) (hL : (expR x1 ps rs r post).2.2.length ≤ L) :
    SHL N N' (expR x1 ps rs r post).2.2 (expR x2 ps rs r post).2.2 ∧ SHL N N' (expR x1 ps rs r post).2.1 (expR x2 ps rs r post).2.1 ∧ ∀ u, (expR x1 ps rs r post).1.R N u → (expR x2 ps rs r post).1.R N' u := by
  have hL : (canX x1 rs r (expP x1 ps post []).2).2.length ≤ L := hL
  obtain ⟨h1, h2⟩ := expP_shift hN ps post [] [] (hz.imp id (fun e => by simp only [Bool.and_eq_true] at e; exact e.1)) (Nat.le_trans (canX_le x1 rs r _) hL) SHL.nil
  obtain ⟨h3, h4⟩ := canX_shift hN rs r _ _ (hz.imp id (fun e => by simp only [Bool.and_eq_true] at e; exact e.2)) hL h1
  exact ⟨h3, h2, h4⟩
end
end Go.Proofs.YtlfehgagnelbhaaGreatDoor.Ex
