/- The abstract machine: what its operations compute is what the machine's compute (3). -/
import Derived.Test.YtlfehgagnelbhaaGreatDoorExF
namespace Go.Proofs.YtlfehgagnelbhaaGreatDoor.Ex
open Go

section
variable {P : Program} {M : Mp}

def OR (M : Mp) : Option AV → Option Value → Prop
  | none, v => v = none
  | some a, v => ∃ u, a.R M u ∧ v = some u
theorem boundA_ok {d a : Nat} {lo : Option AV} {lv : Option Value} (h : boundA d lo = some a) (r : OR M lo lv) : (lv = none ∧ a = d) ∨ ∃ k, lv = some (.int k a) := by
  unfold boundA at h
  split at h
  · simp only [OR] at r
    simp only [Option.some.injEq] at h
    exact .inl ⟨r, h.symm⟩
  · rename_i k n
    simp only [OR, AV.R] at r
    obtain ⟨u, rfl, rfl⟩ := r
    simp only [Option.some.injEq] at h; subst h
    exact .inr ⟨k, rfl⟩
  · cases h
theorem sliceBound_run {k : IntKind} {n y : Nat} {code : BoundsCode} (h : n ≤ y) (w : World) : (Instr.sliceBound (.int k n) y code).run P w = .ok n w := by
  simp [Instr.sliceBound, asIntOf, h]
theorem bounds_run {isS : Bool} {len cap a b m : Nat} {lo hi mx : Option AV} {lv hv mv : Option Value} (h1 : boundA 0 lo = some a) (h2 : boundA len hi = some b) (h3 : boundA cap mx = some m)
    (r1 : OR M lo lv) (r2 : OR M hi hv) (r3 : OR M mx mv) (hab : a ≤ b) (hbm : b ≤ m) (hmc : m ≤ cap) (hmx : mx.isSome = true → hi.isSome = true) (w : World) :
    (Instr.sliceBounds isS len cap lv hv mv).run P w = .ok (a, b, m) w := by
  have hmv : hv = none → mv = none := fun e => by
    cases mx with
    | none => simpa [OR] using r3
    | some x =>
      have := hmx rfl
      cases hi with
      | none => cases this
      | some y => simp only [OR] at r2; obtain ⟨_, _, h⟩ := r2; rw [e] at h; cases h
  rcases boundA_ok h1 r1 with ⟨rfl, rfl⟩ | ⟨k1, rfl⟩ <;> rcases boundA_ok h2 r2 with ⟨rfl, rfl⟩ | ⟨k2, rfl⟩ <;> rcases boundA_ok h3 r3 with ⟨rfl, rfl⟩ | ⟨k3, rfl⟩
  all_goals first
    | (cases hmv rfl; done)
    | (simp [Instr.sliceBounds, sliceBound_run hab, sliceBound_run hbm, sliceBound_run hmc]; done)

theorem slice_ok {h : AH} {w : World} {t : TypeId} {x v : AV} {y : Value} {lo hi mx : Option AV} {lv hv mv : Option Value} (hs : sliceOpA P h t x lo hi mx = some v) (rx : x.R M y) (r1 : OR M lo lv) (r2 : OR M hi hv) (r3 : OR M mx mv) (r : Rel M h w) :
    ∃ u, (∀ m : World, (Instr.sliceAt t y lv hv mv).run P m = .ok u m) ∧ v.R M u := by
  unfold sliceOpA at hs
  split at hs
  · cases hs
  rename_i hmh
  have hmx : mx.isSome = true → hi.isSome = true := fun e => by
    cases mx with
    | none => cases e
    | some z => cases hi with
      | none => exact absurd rfl (hmh z rfl)
      | some _ => rfl
  clear hmh
  split at hs
  · -- a string
    rename_i l hu
    split at hs
    · rename_i a b h1 h2
      simp only [nble, Bool.cond_decide, ← Bool.decide_and] at hs
      split at hs
      · rename_i hle
        simp only [Option.some.injEq] at hs; subst hs
        simp only [AV.R] at rx; subst rx
        have hsz : (⟨l.toArray⟩ : ByteArray).size = l.length := by simp [ByteArray.size]
        have hb := fun m : World => bounds_run (P := P) (isS := false) (cap := l.length) (mx := none) h1 h2 (by rfl) r1 r2 r3 hle.1 hle.2 (Nat.le_refl _) (fun e => by cases e) m
        simp only [OR] at r3; subst r3
        refine ⟨.string ((⟨l.toArray⟩ : ByteArray).extract a b), fun m => ?_, ?_⟩
        · simp [Instr.sliceAt, run_underlying hu, Instr.slice, hsz, hb]
        · simp only [AV.R]
          congr 1
          apply ByteArray.ext
          simp [ByteArray.data_extract]
          try (rw [List.take_drop]; congr 1; omega)
      · cases hs
    · cases hs
  · -- nil
    rename_i e hu
    split at hs
    · rename_i z hz h1 h2 h3
      simp only [Option.some.injEq] at hs; subst hs
      simp only [AV.R] at rx; subst rx
      have hb := fun m : World => bounds_run (P := P) (isS := true) h1 h2 h3 r1 r2 r3 (Nat.le_refl _) (Nat.le_refl _) (Nat.le_refl _) hmx m
      exact ⟨.slice none 0 0, fun w => by simp [Instr.sliceAt, run_underlying hu, Instr.slice, hb, sizeT_ok hz], rfl⟩
    · cases hs
  · -- a slice whose capacity is known
    rename_i e id off len cap hu
    split at hs
    · rename_i z a b m hz h1 h2 h3
      simp only [nble, nbeq, Bool.cond_decide, ← Bool.decide_and] at hs
      split at hs
      · rename_i hle
        simp only [AV.R] at rx
        obtain ⟨bb, κ, hM, rfl⟩ := rx
        have hb := fun w : World => bounds_run (P := P) (isS := true) h1 h2 h3 r1 r2 r3 hle.1.1 hle.1.2 hle.2 hmx w
        split at hs
        · rename_i hma
          simp only [Option.some.injEq] at hs; subst hs
          refine ⟨.slice (some ⟨bb, off, none⟩) (b - a) 0, fun w => ?_, by simp only [AV.R]; exact ⟨bb, κ, hM, rfl⟩⟩
          simp [Instr.sliceAt, run_underlying hu, Instr.slice, hb, sizeT_ok hz, hma]
        · rename_i hma
          simp only [Option.some.injEq] at hs; subst hs
          refine ⟨.slice (some ⟨bb, off + a * z, none⟩) (b - a) (m - a), fun w => ?_, by simp only [AV.R]; exact ⟨bb, κ, hM, rfl⟩⟩
          simp [Instr.sliceAt, run_underlying hu, Instr.slice, hb, sizeT_ok hz, hma, addr_add]
      · cases hs
    · cases hs
  · -- a slice whose capacity is not
    rename_i e id off len cap hu
    simp only [AV.R] at rx
    obtain ⟨bb, κ, hM, rfl⟩ := rx
    split at hs
    · rename_i z a b hz h1 h2
      split at hs
      · split at hs
        · rename_i c e' z' hg
          obtain ⟨ob, hob, vs, rest, rl, rfl, hlen⟩ := Ob_of r hg hM
          simp only at hlen
          simp only [nble, nbeq, nblt, Bool.cond_decide, ← Bool.decide_and] at hs
          split at hs
          · rename_i hle
            obtain ⟨⟨⟨hz0, rfl⟩, hab⟩, hcb⟩ := hle
            have hcl := RL_length rl
            have hκ : c.length ≤ κ * z := by rw [← hlen, ← hcl]; simp
            have hbκ : cap + b ≤ κ := Nat.le_of_mul_le_mul_right (Nat.le_trans hcb hκ) hz0
            have hb := fun w : World => bounds_run (P := P) (isS := true) (cap := κ - cap) (mx := none) h1 h2 (by rfl) r1 r2 r3 hab (by omega) (Nat.le_refl _) hmx w
            split at hs
            · rename_i hlt
              have hak : cap + a < κ := Nat.lt_of_mul_lt_mul_right (Nat.lt_of_lt_of_le hlt hκ)
              simp only [Option.some.injEq] at hs; subst hs
              refine ⟨.slice (some ⟨bb, off + a * z, none⟩) (b - a) (κ - cap - a), fun w => ?_, by simp only [AV.R]; exact ⟨bb, κ, hM, by simp; omega⟩⟩
              have hne : ¬ (κ - cap = a) := by omega
              simp [Instr.sliceAt, run_underlying hu, Instr.slice, hb, sizeT_ok hz, hne, addr_add]
            · rename_i hlt
              have hba : b = a := by
                have h3 : (cap + b) * z ≤ (cap + a) * z := by omega
                have := Nat.le_of_mul_le_mul_right h3 hz0
                omega
              simp only [Option.some.injEq] at hs; subst hs
              by_cases hne : κ - cap = a
              · refine ⟨.slice (some ⟨bb, off, none⟩) (b - a) (κ - cap - a), fun w => ?_, by simp only [AV.R]; exact ⟨⟨bb, off, none⟩, κ - cap - a, by rw [hba]; simp⟩⟩
                rw [hne] at hb
                simp [Instr.sliceAt, run_underlying hu, Instr.slice, hb, sizeT_ok hz, hne]
              · refine ⟨.slice (some ⟨bb, off + a * z, none⟩) (b - a) (κ - cap - a), fun w => ?_, by simp only [AV.R]; exact ⟨⟨bb, off + a * z, none⟩, κ - cap - a, by rw [hba]; simp⟩⟩
                simp [Instr.sliceAt, run_underlying hu, Instr.slice, hb, sizeT_ok hz, hne, addr_add]
          · cases hs
        · cases hs
      · rename_i mk m
        split at hs
        · rename_i c e' z' hg
          obtain ⟨ob, hob, vs, rest, rl, rfl, hlen⟩ := Ob_of r hg hM
          simp only at hlen
          simp only [nble, nbeq, nblt, Bool.cond_decide, ← Bool.decide_and] at hs
          split at hs
          · rename_i hle
            obtain ⟨⟨⟨⟨hz0, rfl⟩, hab⟩, hbm⟩, hcb⟩ := hle
            have hcl := RL_length rl
            have hκ : c.length ≤ κ * z := by rw [← hlen, ← hcl]; simp
            have hbκ : cap + m ≤ κ := Nat.le_of_mul_le_mul_right (Nat.le_trans hcb hκ) hz0
            have hb := fun w : World => bounds_run (P := P) (isS := true) (cap := κ - cap) h1 h2 (by rfl) r1 r2 r3 hab hbm (by omega) hmx w
            split at hs
            · rename_i hma
              simp only [Option.some.injEq] at hs; subst hs
              refine ⟨.slice (some ⟨bb, off, none⟩) (b - a) 0, fun w => ?_, by simp only [AV.R]; exact ⟨bb, κ, hM, rfl⟩⟩
              simp [Instr.sliceAt, run_underlying hu, Instr.slice, hb, sizeT_ok hz, hma]
            · rename_i hma
              simp only [Option.some.injEq] at hs; subst hs
              refine ⟨.slice (some ⟨bb, off + a * z, none⟩) (b - a) (m - a), fun w => ?_, by simp only [AV.R]; exact ⟨bb, κ, hM, rfl⟩⟩
              simp [Instr.sliceAt, run_underlying hu, Instr.slice, hb, sizeT_ok hz, hma, addr_add]
          · cases hs
        · cases hs
      · cases hs
    · cases hs
  · -- an array behind its address
    rename_i n e id off hu
    split at hs
    · rename_i z a b m hz h1 h2 h3
      simp only [nble, nbeq, Bool.cond_decide, ← Bool.decide_and] at hs
      split at hs
      · rename_i hle
        simp only [AV.R] at rx
        obtain ⟨bb, κ, hM, rfl⟩ := rx
        have hb := fun w : World => bounds_run (P := P) (isS := false) h1 h2 h3 r1 r2 r3 hle.1.1 hle.1.2 hle.2 hmx w
        split at hs
        · rename_i hma
          simp only [Option.some.injEq] at hs; subst hs
          refine ⟨.slice (some ⟨bb, off, none⟩) (b - a) 0, fun w => ?_, by simp only [AV.R]; exact ⟨bb, κ, hM, rfl⟩⟩
          simp [Instr.sliceAt, run_underlying hu, Instr.sureAddr, hb, sizeT_ok hz, hma]
        · rename_i hma
          simp only [Option.some.injEq] at hs; subst hs
          refine ⟨.slice (some ⟨bb, off + a * z, none⟩) (b - a) (m - a), fun w => ?_, by simp only [AV.R]; exact ⟨bb, κ, hM, rfl⟩⟩
          simp [Instr.sliceAt, run_underlying hu, Instr.sureAddr, hb, sizeT_ok hz, hma, addr_add]
      · cases hs
    · cases hs
  · cases hs
end
end Go.Proofs.YtlfehgagnelbhaaGreatDoor.Ex
