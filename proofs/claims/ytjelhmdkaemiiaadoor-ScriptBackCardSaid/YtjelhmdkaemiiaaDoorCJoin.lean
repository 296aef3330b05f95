/- Contract: strings.Join (the library's contract, of the shelf). -/
import Derived.Test.YtjelhmdkaemiiaaDoorShf
import Derived.Test.YtjelhmdkaemiiaaDoorSb
import Derived.Test.YtjelhmdkaemiiaaDoorSl
namespace Go.Proofs.YtjelhmdkaemiiaaDoor.Ex
open Go Go.RowKit

-- OPEN joinL joinB
def joinL (l : List (List UInt8)) (sep : List UInt8) : List UInt8 := Lib.join l sep
def joinB (l : List (List UInt8)) (sep : List UInt8) : Bool := decide (l.length ≤ 140737488355328 ∧ (joinL l sep).length ≤ 140737488355328)
def mapR (f : Nat → List UInt8) : Nat → Nat → List (List UInt8)
  | 0, _ => []
  | n + 1, i => f i :: mapR f n (Nat.succ i)
theorem mapR_eq (f : Nat → List UInt8) : ∀ n i, mapR f n i = (List.range n).map fun j => f (i + j)
  | 0, _ => rfl
  | n + 1, i => by
    rw [mapR, mapR_eq f n, List.range_succ_eq_map, List.map_cons, List.map_map]
    simp only [Nat.add_zero, List.cons.injEq, true_and]
    apply List.map_congr_left
    intro j _
    simp only [Function.comp_apply]; congr 1; omega
def joinY (n : Nat) (f : Nat → List UInt8) (sep : List UInt8) : List UInt8 := joinL (mapR f n 0) sep
def joinOk (n : Nat) (f : Nat → List UInt8) (sep : List UInt8) : Bool := joinB (mapR f n 0) sep
theorem joinY_eq (n : Nat) (f : Nat → List UInt8) (sep : List UInt8) : joinY n f sep = Lib.join ((List.range n).map f) sep := by
  unfold joinY joinL; rw [mapR_eq]; simp
theorem joinOk_t {n : Nat} {f : Nat → List UInt8} {sep : List UInt8} (h : joinOk n f sep = true) : n ≤ 140737488355328 ∧ (joinY n f sep).length ≤ 140737488355328 := by
  have h2 := of_decide_eq_true (show decide (_ ∧ _) = true from h)
  rw [mapR_eq] at h2
  refine ⟨by simpa using h2.1, ?_⟩
  have h3 := h2.2
  unfold joinY; rw [mapR_eq]; exact h3
abbrev cStr : Cs := some (9, [.str])
def fJoin (ds : List Da) : Option (Bool × AV) :=
  match ds with
  | [.cell (.rows _ n [.str f]), .cell (.v (.ys sep))] => some (joinOk n f sep, .ys (joinY n f sep))
  | _ => none
theorem smJoin : SmCall Tryd.prog 37 (fun args h => (ctS [.cell cStr, .cell none] fJoin args h).sel) :=
  ctS_hand Tryd.func37 (by kernel_rfl) (by kernel_rfl) (fun ds a us w hF hd hw => by
    unfold fJoin at hF
    split at hF
    case h_2 => cases hF
    rename_i nil n f sep
    simp only [Option.some.injEq, Prod.mk.injEq] at hF
    obtain ⟨h1, rfl⟩ := hF
    obtain ⟨hn, hlen⟩ := joinOk_t h1
    obtain ⟨d0, ds1, u0, us1, e1, rfl, hd1, hd⟩ := hd
    simp only [List.cons.injEq] at e1
    obtain ⟨rfl, rfl⟩ := e1
    obtain ⟨d0, ds1, u1, us1, e1, rfl, hd2, hd⟩ := hd
    simp only [List.cons.injEq] at e1
    obtain ⟨rfl, rfl⟩ := e1
    obtain ⟨_, rfl⟩ := hd
    obtain rfl : u1 = .string ⟨sep.toArray⟩ := hd2
    have fin : ∀ {u0 : Value}, (Calls Tryd.prog 37 #[u0, .string ⟨sep.toArray⟩] w fun e w' => e = .returned (.string ⟨(joinY n f sep).toArray⟩) ∧ Below w.heap.size w w') →
        Calls Tryd.prog 37 #[u0, .string ⟨sep.toArray⟩] w fun e w' => ∃ u, e = .returned u ∧ (∀ M, (AV.ys (joinY n f sep)).R M u) ∧ Below w.heap.size w w' := fun h =>
      h.mono fun e w' ⟨he, hb⟩ => ⟨_, he, fun M => rfl, hb⟩
    have emp : ∀ {u0 : Value}, n = 0 → (Calls Tryd.prog 37 #[u0, .string ⟨sep.toArray⟩] w fun e w' => e = .returned (.string ⟨#[]⟩) ∧ w' = w) →
        Calls Tryd.prog 37 #[u0, .string ⟨sep.toArray⟩] w fun e w' => e = .returned (.string ⟨(joinY n f sep).toArray⟩) ∧ Below w.heap.size w w' := fun h0 h => by
      subst h0
      exact h.mono fun e w' ⟨he, hb⟩ => ⟨he, hb ▸ Below.refl _ _⟩
    rcases hd1 with ⟨_, rfl, rfl⟩ | ⟨_, p, k, rfl, hnk, h⟩
    · exact fin (emp rfl (Any.strings_Join_none Tryd.lays156 Tryd.Builder_Extra_156 none 0 _ w))
    · rcases h with h0 | ⟨b, off, rfl, cs, e, fr, hb, hc⟩
      · subst h0
        exact fin (emp rfl (Any.strings_Join_none Tryd.lays156 Tryd.Builder_Extra_156 (some p) k _ w))
      · have hcell : ∀ (j : Nat) x, ((List.range n).map fun i => (⟨(f i).toArray⟩ : ByteArray))[j]? = some x → w.cell? ⟨b, off + j, none⟩ = some (.string x) := fun j x hx => by
          by_cases hj : j < n
          · rw [List.getElem?_map, List.getElem?_range hj, Option.map_some, Option.some.injEq] at hx
            subst hx
            obtain ⟨v, q1, q2, q3⟩ := hc j hj 0 (by show 0 < 1; omega)
            obtain rfl : v = .string ⟨(f j).toArray⟩ := q3
            simp only [World.cell?, hb]
            simpa using q1
          · rw [List.getElem?_eq_none (by simp; omega)] at hx; cases hx
        have hmap : (((List.range n).map fun i => (⟨(f i).toArray⟩ : ByteArray)).map (·.data.toList)) = (List.range n).map f := by
          rw [List.map_map]
          apply List.map_congr_left
          intro i _
          simp
        have hl : ((List.range n).map fun i => (⟨(f i).toArray⟩ : ByteArray)).length = n := by simp
        have key := Any.strings_Join Tryd.lays156 Tryd.Builder_Extra_156 b off k ((List.range n).map fun i => (⟨(f i).toArray⟩ : ByteArray)) ⟨sep.toArray⟩ w hcell (heap_lt hb) (by rw [hl]; exact hn) (by rw [hl]; exact hnk) (by rw [hmap]; rw [joinY_eq] at hlen; simpa using hlen)
        rw [hmap, hl] at key
        refine fin (key.mono fun e w' ⟨he, hb2⟩ => ⟨?_, hb2⟩)
        rw [he, joinY_eq])
end Go.Proofs.YtjelhmdkaemiiaaDoor.Ex
