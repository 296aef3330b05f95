/- The abstract machine: what its operations compute by symbols is what the machine's compute (4): slices, append. -/
import Derived.Test.YtfpokmglhaenaaaDoorExU
namespace Go.Proofs.YtfpokmglhaenaaaDoor.Ex
open Go

section
variable {P : Program} {M : Mp}

theorem yBound_ok {α : Type} {d a n : Nat} {lo : Option AV} {lv : Option Value} {xa : Option Int} {t : T α} {x : α} (h : yBound d lo = some (xa, a)) (r : OR M lo lv) (hs : (mustLe xa n t).sel = some x) :
    ((lv = none ∧ a = d) ∨ ∃ k, lv = some (.int k a) ∧ a ≤ n) ∧ t.sel = some x := by
  unfold yBound at h
  split at h
  · simp only [Option.some.injEq, Prod.mk.injEq] at h
    obtain ⟨rfl, rfl⟩ := h
    simp only [OR] at r
    exact ⟨.inl ⟨r, rfl⟩, hs⟩
  · split at h
    · rename_i v z m hz
      simp only [Option.some.injEq, Prod.mk.injEq] at h
      obtain ⟨rfl, rfl⟩ := h
      simp only [OR] at r
      obtain ⟨u, ru, rfl⟩ := r
      obtain ⟨⟨k, rfl⟩, hn⟩ := yIx_ok hz ru
      obtain ⟨h1, h2⟩ := T.sel_must hs
      obtain ⟨h3, h4⟩ := yIn_ok h1
      have hm := hn h3
      refine ⟨.inr ⟨k, ?_, by omega⟩, h2⟩
      congr 2; omega
    · cases h
theorem bounds_leY {len a b : Nat} {lv hv : Option Value} (h1 : (lv = none ∧ a = 0) ∨ ∃ k, lv = some (.int k a) ∧ a ≤ b) (h2 : (hv = none ∧ b = len) ∨ ∃ k, hv = some (.int k b) ∧ b ≤ len) : a ≤ b ∧ b ≤ len :=
  ⟨by rcases h1 with ⟨_, rfl⟩ | ⟨_, _, h⟩ <;> omega, by rcases h2 with ⟨_, rfl⟩ | ⟨_, _, h⟩ <;> omega⟩
theorem bounds_runY {isS : Bool} {len cap a b : Nat} {lv hv : Option Value} (h1 : (lv = none ∧ a = 0) ∨ ∃ k, lv = some (.int k a) ∧ a ≤ b) (h2 : (hv = none ∧ b = len) ∨ ∃ k, hv = some (.int k b) ∧ b ≤ len) (hc : len ≤ cap) (w : World) :
    (Instr.sliceBounds isS len cap lv hv none).run P w = .ok (a, b, cap) w := by
  obtain ⟨ha, hb⟩ := bounds_leY h1 h2
  rcases h1 with ⟨rfl, rfl⟩ | ⟨k1, rfl, _⟩ <;> rcases h2 with ⟨rfl, rfl⟩ | ⟨k2, rfl, _⟩
  · simp [Instr.sliceBounds]
  · simp [Instr.sliceBounds, sliceBound_run (P := P) (show b ≤ cap by omega)]
  · simp [Instr.sliceBounds, sliceBound_run (P := P) ha]
  · simp [Instr.sliceBounds, sliceBound_run (P := P) ha, sliceBound_run (P := P) (show b ≤ cap by omega)]
theorem sliceY_ok {t : TypeId} {x v : AV} {y : Value} {lo hi mx : Option AV} {lv hv mv : Option Value} (hs : (sliceY P t x lo hi mx).sel = some v) (rx : x.R M y) (r1 : OR M lo lv) (r2 : OR M hi hv) (r3 : OR M mx mv) :
    ∃ u, (∀ m : World, (Instr.sliceAt t y lv hv mv).run P m = .ok u m) ∧ v.R M u := by
  unfold sliceY at hs
  split at hs
  · -- x[:0:0]
    rename_i k0
    simp only [OR, AV.R] at r3
    obtain ⟨_, rfl, rfl⟩ := r3
    have main : ∀ {e : TypeId} {ro nil : Bool} {id z o n : Nat} {k1 : IntKind}, P.underlying t = some (.slice e) → (AV.ysl ro nil id z o n).R M y → hv = some (.int k1 0) → (lv = none ∨ ∃ k2, lv = some (.int k2 0)) → (match sizeT P e with | some _ => T.ret (AV.ye nil) | none => T.no).sel = some v →
        ∃ u, (∀ m : World, (Instr.sliceAt t y lv hv (some (.int k0 0))).run P m = .ok u m) ∧ v.R M u := by
      intro e ro nil id z o n k1 hu rx hhv hlv hs
      split at hs
      case h_2 => cases hs
      rename_i z' hz
      obtain rfl := T.sel_ret hs
      subst hhv
      have hsl : ∃ p nn c, y = .slice p nn c ∧ ((nil = true ∧ p = none) ∨ (nil = false ∧ ∃ a, p = some a)) := by
        simp only [AV.R] at rx
        rcases rx with ⟨h, _, rfl⟩ | ⟨h, _, a, c, rfl, _⟩ | ⟨h, b, κ, c, _, rfl, _⟩
        · exact ⟨_, _, _, rfl, .inl ⟨h, rfl⟩⟩
        · exact ⟨_, _, _, rfl, .inr ⟨h, _, rfl⟩⟩
        · exact ⟨_, _, _, rfl, .inr ⟨h, _, rfl⟩⟩
      obtain ⟨p, nn, c, rfl, hp⟩ := hsl
      refine ⟨.slice p 0 0, fun m => ?_, by simp only [AV.R]; rcases hp with ⟨h, rfl⟩ | ⟨h, a, rfl⟩; exact .inl ⟨h, rfl⟩; exact .inr ⟨h, a, rfl⟩⟩
      have h0 : ∀ (k : IntKind) (y : Nat) (code : BoundsCode), (Instr.sliceBound (.int k 0) y code).run P m = .ok 0 m := fun k y code => by simpa using sliceBound_run (P := P) (k := k) (code := code) (Nat.zero_le y) m
      rcases hlv with rfl | ⟨k2, rfl⟩ <;> simp [Instr.sliceAt, run_underlying hu, Instr.slice, Instr.sliceBounds, h0, sizeT_ok hz]
    split at hs
    · rename_i e ro nil id z o n k1 hu; exact main (by assumption) rx (by simp only [OR, AV.R] at r2; obtain ⟨_, rfl, rfl⟩ := r2; rfl) (.inl (by simpa [OR] using r1)) hs
    · rename_i e ro nil id z o n k1 k2 hu; exact main (by assumption) rx (by simp only [OR, AV.R] at r2; obtain ⟨_, rfl, rfl⟩ := r2; rfl) (.inr (by simp only [OR, AV.R] at r1; obtain ⟨_, rfl, rfl⟩ := r1; exact ⟨_, rfl⟩)) hs
    · cases hs
  · cases hs
  · simp only [OR] at r3; subst r3
    split at hs
    · rename_i e nil id z o n hu
      split at hs
      · rename_i z' xa a xb b hz hl hh
        simp only [nbeq, Bool.cond_decide] at hs
        split at hs
        · rename_i hzz; subst hzz
          obtain ⟨q2, hs⟩ := yBound_ok hh r2 hs
          obtain ⟨q1, hs⟩ := yBound_ok hl r1 hs
          obtain rfl := T.sel_ret hs
          simp only [AV.R] at rx
          rcases rx with ⟨rfl, rfl, rfl⟩ | ⟨rfl, rfl, p, c, rfl, _⟩ | ⟨rfl, bb, κ, c, hM, rfl, hnc, _⟩
          · have hb := fun m : World => bounds_runY (P := P) (isS := true) (cap := 0) q1 q2 (Nat.le_refl _) m
            obtain ⟨l1, l2⟩ := bounds_leY q1 q2
            obtain rfl : b = 0 := by omega
            obtain rfl : a = 0 := by omega
            exact ⟨.slice none 0 0, fun m => by simp [Instr.sliceAt, run_underlying hu, Instr.slice, hb m, sizeT_ok hz], .inl ⟨rfl, rfl, rfl⟩⟩
          · have hb := fun m : World => bounds_runY (P := P) (isS := true) (cap := c) q1 q2 (Nat.zero_le _) m
            obtain ⟨l1, l2⟩ := bounds_leY q1 q2
            obtain rfl : b = 0 := by omega
            obtain rfl : a = 0 := by omega
            refine ⟨.slice (if c = 0 then some p else some (p.add (0 * z))) 0 c, fun m => by simp [Instr.sliceAt, run_underlying hu, Instr.slice, hb m, sizeT_ok hz], .inr (.inl ⟨rfl, rfl, ?_⟩)⟩
            split
            · exact ⟨_, _, rfl, fun e => by cases e⟩
            · exact ⟨_, _, rfl, fun e => by cases e⟩
          · have hb := fun m : World => bounds_runY (P := P) (isS := true) (cap := c) q1 q2 hnc m
            obtain ⟨l1, l2⟩ := bounds_leY q1 q2
            by_cases hba : b = a
            · subst hba
              refine ⟨.slice (if c = b then some ⟨bb, (if true = true then κ else 0) + o * z, none⟩ else some ⟨bb, (if true = true then κ else 0) + o * z + b * z, none⟩) (b - b) (c - b), fun m => by simp [Instr.sliceAt, run_underlying hu, Instr.slice, hb m, sizeT_ok hz, addr_add], .inr (.inl ⟨rfl, by simp [yNsub], ?_⟩)⟩
              rw [Nat.sub_self]
              split
              · exact ⟨_, _, rfl, fun e => by cases e⟩
              · exact ⟨_, _, rfl, fun e => by cases e⟩
            by_cases hca : c = a
            · subst hca
              refine ⟨.slice (some ⟨bb, (if true = true then κ else 0) + o * z, none⟩) (b - c) (c - c), fun m => by simp [Instr.sliceAt, run_underlying hu, Instr.slice, hb m, sizeT_ok hz], .inr (.inl ⟨rfl, ?_, _, _, by rw [show b - c = 0 by omega], fun e => by cases e⟩)⟩
              simp only [yNsub]; omega
            · refine ⟨.slice (some ⟨bb, (if true = true then κ else 0) + o * z + a * z, none⟩) (b - a) (c - a), fun m => by simp [Instr.sliceAt, run_underlying hu, Instr.slice, hb m, sizeT_ok hz, hca, addr_add], .inr (.inr ⟨rfl, bb, κ, c - a, hM, ?_, ?_, ?_, fun e => by cases e⟩)⟩
              · simp only [yNsub, yNadd, Nat.add_mul, Nat.add_assoc]
              · simp only [yNsub]; omega
              · simp only [yNsub]; omega
        · cases hs
      · cases hs
    · rename_i hu
      split at hs
      · rename_i l hlS
        obtain rfl := yS_ok hlS rx
        split at hs
        · rename_i xa a xb b hl hh
          obtain ⟨q2, hs⟩ := yBound_ok hh r2 hs
          obtain ⟨q1, hs⟩ := yBound_ok hl r1 hs
          obtain rfl := T.sel_ret hs
          have hsz : (⟨l.toArray⟩ : ByteArray).size = l.length := by simp [ByteArray.size]
          have hb := fun m : World => bounds_runY (P := P) (isS := false) (cap := l.length) (len := l.length) q1 q2 (Nat.le_refl _) m
          refine ⟨.string ((⟨l.toArray⟩ : ByteArray).extract a b), fun m => ?_, ?_⟩
          · simp [Instr.sliceAt, run_underlying hu, Instr.slice, hsz, hb m]
          · simp only [AV.R, ySlice]
            congr 1
            apply ByteArray.ext
            simp [ByteArray.data_extract]
            try (rw [List.take_drop]; congr 1; omega)
        · cases hs
      · cases hs
    · cases hs
end
end Go.Proofs.YtfpokmglhaenaaaDoor.Ex
