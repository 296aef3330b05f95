/- Rows that came in, as the elder contracts want them. -/
import Derived.Test.YtofhaechpllaoaaWl
import Derived.Test.YtofhaechpllaoaaPkC
import Derived.Test.YtofhaechpllaoaaPl1
namespace Go.Proofs.Ytofhaechpllaoaa.LPar
open Go Go.RowKit Go.WideShapes Go.ChangeShapes Go.Proofs.Ytofhaechpllaoaa.Ex

theorem par_arr {H : Type} {enc : TypeId × Value → H} {P : Program} {w : World} {base : Nat} {spare : Nat → Bool} {held : Bool} (gl : ∀ b, GL b = none) {n : Nat} {t e : TypeId} {ks : List CK} {v : Value} {d : DataW H} {ps : List MemPlace}
    (hu : P.underlying t = some (.slice e)) (hc : ctsOf P n t = some [.rw e ks]) (hv : v.cells = #[v]) (h : DataW.Trod enc P w base spare held t v d ps) :
    ∃ (n : Nat) (V : Nat → Nat → Value), (∀ i, i < n → ∀ (j : Nat) (k : CK), ks[j]? = some k → kV k (V i j)) ∧ ∃ a cap, v = .slice a n cap ∧ n ≤ cap ∧ cap ≤ 9223372036854775807 ∧
      ∀ i, i < n → ∃ b o, a = some ⟨b, o, none⟩ ∧ b < w.heap.size ∧ ∀ (j : Nat) (k : CK), ks[j]? = some k → w.cell? ⟨b, o + i * ks.length + j, none⟩ = some (V i j) := by
  obtain ⟨d', q1, q2⟩ := par_cell gl hc hv h
  obtain ⟨fuel, h⟩ := h
  rw [hv] at h
  obtain ⟨nil, m, V, _, _, hk, rfl⟩ := q2
  refine ⟨m, V, hk, ?_⟩
  rcases q1 with ⟨_, rfl, rfl⟩ | ⟨_, p, k, rfl, hmk, q⟩
  · exact ⟨none, 0, rfl, Nat.le_refl _, by omega, fun i hi => by omega⟩
  · have hcap : k ≤ 9223372036854775807 := by
      rcases Go.Deep.open_slice hu h with ⟨e1, _⟩ | ⟨a, len, cap, m', n', D, Pl, e1, _, _, hcm, _⟩
      · simp at e1
      · simp at e1
        obtain ⟨rfl, rfl, rfl⟩ := e1
        have : maxLen = 9223372036854775807 := rfl
        omega
    refine ⟨some p, k, rfl, hmk, hcap, fun i hi => ?_⟩
    rcases q with q | ⟨b, off, rfl, _, cs, e', fr, hb, q⟩
    · omega
    · refine ⟨b, off, rfl, ?_, fun j kk hj => ?_⟩
      · rcases Nat.lt_or_ge b w.heap.size with hlt | hge
        · exact hlt
        · rw [Array.getElem?_eq_none hge] at hb; cases hb
      · obtain ⟨u, r1, _, r3⟩ := q i hi j (List.getElem?_eq_some_iff.1 hj).1
        have hc2 := colsV_at (V := V) (i := i) (j0 := 0) hj
        have hkv := hk i hi j kk hj
        rw [Nat.zero_add] at hc2
        rw [hc2] at r3
        have := kV_inj hkv r3
        subst this
        simp only [World.cell?, hb]
        exact r1

theorem par_pairs {H : Type} {enc : TypeId × Value → H} {w : World} {base : Nat} {spare : Nat → Bool} {held : Bool} (gl : ∀ b, GL b = none) {v : Value} {d : DataW H} {ps : List MemPlace} (hv : v.cells = #[v])
    (h : DataW.Trod enc Try.prog w base spare held 25 v d ps) : ∃ l : List PairD, Arr w 2 PairD.cells v l ∧ InU l := by
  obtain ⟨n, V, hk, a, cap, rfl, h1, h2, h3⟩ := par_arr (n := 10) (ks := [.int .u64, .int .u64]) (e := 47) gl Try.underlying25 (by kernel_rfl) hv h
  refine ⟨(List.range n).map fun i => ⟨Ex.intOf (V i 0), Ex.intOf (V i 1)⟩, ⟨a, cap, by simp, by simpa using h1, h2, fun i x hx => ?_⟩, fun q hq => ?_⟩
  · simp only [List.getElem?_map, Option.map_eq_some_iff] at hx
    obtain ⟨i', hi', rfl⟩ := hx
    obtain ⟨hlt, rfl⟩ := List.getElem?_eq_some_iff.1 hi'
    simp at hlt ⊢
    obtain ⟨b, o, e1, e2, e3⟩ := h3 i hlt
    refine ⟨b, o, e1, e2, fun j u hj => ?_⟩
    obtain ⟨x0, e0, _⟩ := hk i hlt 0 _ rfl
    obtain ⟨x1, e4, _⟩ := hk i hlt 1 _ rfl
    match j with
    | 0 => simp [PairD.cells] at hj; subst hj; have := e3 0 _ rfl; rw [e0] at this ⊢; exact this
    | 1 => simp [PairD.cells] at hj; subst hj; have := e3 1 _ rfl; rw [e4] at this ⊢; exact this
    | j + 2 => simp [PairD.cells] at hj
  · simp only [List.mem_map, List.mem_range] at hq
    obtain ⟨i, hi, rfl⟩ := hq
    obtain ⟨x0, e0, w0⟩ := hk i hi 0 _ rfl
    simp only [e0, Ex.intOf]
    simp [Lit.wf, IntKind.min, IntKind.max, IntKind.signed, IntKind.bits] at w0
    omega
theorem par_ops {H : Type} {enc : TypeId × Value → H} {w : World} {base : Nat} {spare : Nat → Bool} {held : Bool} (gl : ∀ b, GL b = none) {v : Value} {d : DataW H} {ps : List MemPlace} (hv : v.cells = #[v])
    (h : DataW.Trod enc Try.prog w base spare held 42 v d ps) : ∃ l : List OpD, Arr w 5 OpD.cells v l ∧ ∀ o ∈ l, OpU o := by
  obtain ⟨n, V, hk, a, cap, rfl, h1, h2, h3⟩ := par_arr (n := 10) (ks := [.int .i64, .int .u64, .int .u64, .int .u64, .int .i64]) (e := 24) gl Try.underlying42 (by kernel_rfl) hv h
  refine ⟨(List.range n).map fun i => ⟨Ex.intOf (V i 0), Ex.intOf (V i 1), Ex.intOf (V i 2), Ex.intOf (V i 3), Ex.intOf (V i 4)⟩, ⟨a, cap, by simp, by simpa using h1, h2, fun i x hx => ?_⟩, fun q hq => ?_⟩
  · simp only [List.getElem?_map, Option.map_eq_some_iff] at hx
    obtain ⟨i', hi', rfl⟩ := hx
    obtain ⟨hlt, rfl⟩ := List.getElem?_eq_some_iff.1 hi'
    simp at hlt ⊢
    obtain ⟨b, o, e1, e2, e3⟩ := h3 i hlt
    refine ⟨b, o, e1, e2, fun j u hj => ?_⟩
    obtain ⟨x0, y0, _⟩ := hk i hlt 0 _ rfl
    obtain ⟨x1, y1, _⟩ := hk i hlt 1 _ rfl
    obtain ⟨x2, y2, _⟩ := hk i hlt 2 _ rfl
    obtain ⟨x3, y3, _⟩ := hk i hlt 3 _ rfl
    obtain ⟨x4, y4, _⟩ := hk i hlt 4 _ rfl
    match j with
    | 0 => simp [OpD.cells] at hj; subst hj; have := e3 0 _ rfl; rw [y0] at this ⊢; exact this
    | 1 => simp [OpD.cells] at hj; subst hj; have := e3 1 _ rfl; rw [y1] at this ⊢; exact this
    | 2 => simp [OpD.cells] at hj; subst hj; have := e3 2 _ rfl; rw [y2] at this ⊢; exact this
    | 3 => simp [OpD.cells] at hj; subst hj; have := e3 3 _ rfl; rw [y3] at this ⊢; exact this
    | 4 => simp [OpD.cells] at hj; subst hj; have := e3 4 _ rfl; rw [y4] at this ⊢; exact this
    | j + 5 => simp [OpD.cells] at hj
  · simp only [List.mem_map, List.mem_range] at hq
    obtain ⟨i, hi, rfl⟩ := hq
    obtain ⟨x0, e0, w0⟩ := hk i hi 1 _ rfl
    unfold OpU
    simp only [e0, Ex.intOf]
    simp [Lit.wf, IntKind.min, IntKind.max, IntKind.signed, IntKind.bits] at w0
    omega
end Go.Proofs.Ytofhaechpllaoaa.LPar
