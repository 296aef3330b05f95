/- The abstract machine: what its operations compute by symbols is what the machine's compute (4): slices, append. -/
import Derived.Test.YtiikiphkhfmlcaaGreatDoorExU
noncomputable section
namespace Go.Proofs.YtiikiphkhfmlcaaGreatDoor.Ex
open Go

section
variable {P : Program} {M : Mp}

theorem yBound_ok {α : Type} {d a n : Nat} {lo : Option AV} {lv : Option Value} {xa : Option Int} {t : T α} {x : α} (h : yBound d lo = some (xa, a)) (r : OR M lo lv) (hs : (mustLe xa n t).sel = some x) :
    ((lv = none ∧ a = d) ∨ ∃ k, lv = some (.int k a) ∧ a ≤ n) ∧ t.sel = some x := by
  unfold yBound at h
  split at h
  · simp only [Option.some.injEq, Prod.mk.injEq] at h
    obtain ⟨rfl, rfl⟩ := h
    simp only [OR] at r
    exact ⟨.inl ⟨r, rfl⟩, hs⟩
  · split at h
    · rename_i v z m hz
      simp only [Option.some.injEq, Prod.mk.injEq] at h
      obtain ⟨rfl, rfl⟩ := h
      simp only [OR] at r
      obtain ⟨u, ru, rfl⟩ := r
      obtain ⟨⟨k, rfl⟩, hn⟩ := yIx_ok hz ru
      obtain ⟨h1, h2⟩ := T.sel_must hs
      obtain ⟨h3, h4⟩ := yIn_ok h1
      have hm := hn h3
      refine ⟨.inr ⟨k, ?_, by omega⟩, h2⟩
      congr 2; omega
    · cases h
theorem bounds_leY {len a b : Nat} {lv hv : Option Value} (h1 : (lv = none ∧ a = 0) ∨ ∃ k, lv = some (.int k a) ∧ a ≤ b) (h2 : (hv = none ∧ b = len) ∨ ∃ k, hv = some (.int k b) ∧ b ≤ len) : a ≤ b ∧ b ≤ len :=
  ⟨by rcases h1 with ⟨_, rfl⟩ | ⟨_, _, h⟩ <;> omega, by rcases h2 with ⟨_, rfl⟩ | ⟨_, _, h⟩ <;> omega⟩
theorem bounds_runY {isS : Bool} {len cap a b : Nat} {lv hv : Option Value} (h1 : (lv = none ∧ a = 0) ∨ ∃ k, lv = some (.int k a) ∧ a ≤ b) (h2 : (hv = none ∧ b = len) ∨ ∃ k, hv = some (.int k b) ∧ b ≤ len) (hc : len ≤ cap) (w : World) :
    (Instr.sliceBounds isS len cap lv hv none).run P w = .ok (a, b, cap) w := by
  obtain ⟨ha, hb⟩ := bounds_leY h1 h2
  rcases h1 with ⟨rfl, rfl⟩ | ⟨k1, rfl, _⟩ <;> rcases h2 with ⟨rfl, rfl⟩ | ⟨k2, rfl, _⟩
  · simp [Instr.sliceBounds]
  · simp [Instr.sliceBounds, sliceBound_run (P := P) (show b ≤ cap by omega)]
  · simp [Instr.sliceBounds, sliceBound_run (P := P) ha]
  · simp [Instr.sliceBounds, sliceBound_run (P := P) ha, sliceBound_run (P := P) (show b ≤ cap by omega)]
theorem cutN_eq {lo : Option AV} {xa : Option Int} {a b : Nat} (h : yBound 0 lo = some (xa, a)) : cutN lo a b = b - a := by
  cases lo with
  | none => simp only [yBound, Option.some.injEq, Prod.mk.injEq] at h; obtain ⟨_, rfl⟩ := h; rfl
  | some v => rfl
theorem shY_eq {lo : Option AV} {xa : Option Int} {a : Nat} (f : Nat → Nat → AV) (i j : Nat) (h : yBound 0 lo = some (xa, a)) : shY lo a f i j = f (a + i) j := by
  cases lo with
  | none => simp only [yBound, Option.some.injEq, Prod.mk.injEq] at h; obtain ⟨_, rfl⟩ := h; simp [shY]
  | some v => rfl
theorem lst_cut {w0 : Bool} {x nil : Bool} {z n a b m : Nat} {f g : Nat → Nat → AV} {p : Option Addr} {c : Nat} (hx : w0 = true → m = b) (hg : ∀ i j, g i j = f (a + i) j) (hab : a ≤ b) (hbn : b ≤ n) (hbm : b ≤ m) (hmc : m ≤ c)
    (r : (AV.lst x nil z n f).R M (.slice p n c)) : (AV.lst w0 nil z (b - a) g).R M (.slice (if m = a then p else p.map fun q => q.add (a * z)) (b - a) (m - a)) := by
  simp only [AV.R, Value.slice.injEq] at r ⊢
  rcases r with ⟨rfl, rfl, rfl, _, rfl⟩ | ⟨rfl, rfl, q, c', ⟨rfl, _, rfl⟩, _⟩ | ⟨rfl, h0, bb, off, c', cs, ⟨rfl, _, rfl⟩, hnc, _, hz, hc⟩
  · refine .inl ⟨rfl, by omega, ?_, by omega, by omega⟩
    split <;> rfl
  · have hb0 : b - a = 0 := by omega
    rw [hb0]
    refine .inr (.inl ⟨rfl, rfl, if m = a then q else q.add (a * z), m - a, ⟨?_, rfl, rfl⟩, fun e => by have := hx e; omega⟩)
    split <;> simp
  · by_cases hba : b - a = 0
    · rw [hba]
      refine .inr (.inl ⟨rfl, rfl, if m = a then ⟨bb, off, none⟩ else Addr.add ⟨bb, off, none⟩ (a * z), m - a, ⟨?_, rfl, rfl⟩, fun e => by have := hx e; omega⟩)
      split <;> simp
    · refine .inr (.inr ⟨rfl, by omega, bb, off + a * z, m - a, cs, ⟨?_, trivial, rfl⟩, by omega, fun e => by have := hx e; omega, hz, fun i hi j hj => ?_⟩)
      · rw [if_neg (by omega)]; simp [addr_add]
      · obtain ⟨u, q1, q2, q3⟩ := hc (a + i) (by omega) j hj
        refine ⟨u, ?_, q2, by rw [hg]; exact q3⟩
        rw [← q1]; congr 1; rw [Nat.add_mul]; omega
theorem sliceL_ok {t : TypeId} {x v : AV} {y : Value} {lo hi mx : Option AV} {lv hv mv : Option Value} (hs : (sliceL P t x lo hi mx).sel = some v) (rx : x.R M y) (r1 : OR M lo lv) (r2 : OR M hi hv) (r3 : OR M mx mv) :
    ∃ u, (∀ m : World, (Instr.sliceAt t y lv hv mv).run P m = .ok u m) ∧ v.R M u := by
  unfold sliceL at hs
  split at hs
  case h_2 => cases hs
  rename_i e x nil z n f hu
  split at hs
  case h_2 => cases hs
  rename_i z' xa a xb b hz hl hh
  simp only [nbeq, Bool.cond_decide] at hs
  split at hs
  case isFalse => cases hs
  rename_i hzz; subst hzz
  obtain ⟨p, c, rfl, hnc, hxc⟩ : ∃ p c, y = .slice p n c ∧ n ≤ c ∧ (x = true → c = n) := by
    simp only [AV.R] at rx
    rcases rx with ⟨_, rfl, rfl⟩ | ⟨_, rfl, a, c, rfl, hx⟩ | ⟨_, _, bb, off, c, cs, rfl, h1, h2, _⟩
    · exact ⟨_, _, rfl, Nat.le_refl _, fun _ => rfl⟩
    · exact ⟨_, _, rfl, Nat.zero_le _, hx⟩
    · exact ⟨_, _, rfl, h1, h2⟩
  split at hs
  · simp only [OR] at r3; subst r3
    obtain ⟨q2, hs⟩ := yBound_ok hh r2 hs
    obtain ⟨q1, hs⟩ := yBound_ok hl r1 hs
    obtain rfl := T.sel_ret hs
    have hb := fun m : World => bounds_runY (P := P) (isS := true) (cap := c) q1 q2 hnc m
    obtain ⟨l1, l2⟩ := bounds_leY q1 q2
    refine ⟨_, fun m => by simp [Instr.sliceAt, run_underlying hu, Instr.slice, hb m, sizeT_ok hz]; rfl, ?_⟩
    rw [cutN_eq hl]
    refine lst_cut (x := x) (fun e => ?_) (fun i j => shY_eq f i j hl) l1 l2 (by omega) (Nat.le_refl _) rx
    cases hhi : hi with
    | none =>
      rw [hhi] at e hh
      simp only [yBound, Option.some.injEq, Prod.mk.injEq] at hh
      rw [← hh.2]; exact hxc e
    | some _ => rw [hhi] at e; cases e
  · rename_i mm
    split at hs
    case h_2 => cases hs
    rename_i _ _ xm m vv hix
    simp only [OR] at r3
    obtain ⟨um, rm, rfl⟩ := r3
    obtain ⟨⟨km, rfl⟩, hnat⟩ := yIx_ok hix rm
    obtain ⟨h1, hs⟩ := T.sel_must hs
    obtain ⟨h2, hs⟩ := T.sel_must hs
    obtain ⟨h3, h4⟩ := yIn_ok h1
    have hmn := hnat h3
    have hbm : b = m := of_decide_eq_true h2
    obtain ⟨q2, hs⟩ := yBound_ok hh r2 hs
    obtain ⟨q1, hs⟩ := yBound_ok hl r1 hs
    obtain rfl := T.sel_ret hs
    obtain ⟨l1, l2⟩ := bounds_leY q1 q2
    simp only [OR] at r2
    obtain ⟨uh, _, rfl⟩ := r2
    obtain ⟨kh, hkh⟩ : ∃ k, uh = .int k b := by
      rcases q2 with ⟨h, _⟩ | ⟨k, h, _⟩
      · cases h
      · simp only [Option.some.injEq] at h; exact ⟨k, h⟩
    subst hkh
    have hxm : xm = (b : Int) := by omega
    subst hxm
    have hb : ∀ w : World, (Instr.sliceBounds true n c lv (some (.int kh b)) (some (.int km b))).run P w = .ok (a, b, b) w := fun w => by
      rcases q1 with ⟨rfl, rfl⟩ | ⟨k1, rfl, _⟩
      · simp [Instr.sliceBounds, sliceBound_run (P := P) (show b ≤ c by omega), sliceBound_run (P := P) (Nat.le_refl b)]
      · simp [Instr.sliceBounds, sliceBound_run (P := P) (show b ≤ c by omega), sliceBound_run (P := P) (Nat.le_refl b), sliceBound_run (P := P) l1]
    refine ⟨_, fun m => by simp [Instr.sliceAt, run_underlying hu, Instr.slice, hb m, sizeT_ok hz]; rfl, ?_⟩
    rw [cutN_eq hl]
    exact lst_cut (x := x) (fun _ => rfl) (fun i j => shY_eq f i j hl) l1 l2 (Nat.le_refl _) (by omega) rx
theorem sliceY_ok {t : TypeId} {x v : AV} {y : Value} {lo hi mx : Option AV} {lv hv mv : Option Value} (hs : (sliceY P t x lo hi mx).sel = some v) (rx : x.R M y) (r1 : OR M lo lv) (r2 : OR M hi hv) (r3 : OR M mx mv) :
    ∃ u, (∀ m : World, (Instr.sliceAt t y lv hv mv).run P m = .ok u m) ∧ v.R M u := by
  unfold sliceY at hs
  split at hs
  · exact sliceL_ok hs rx r1 r2 r3
  rename_i hnl
  clear hnl
  split at hs
  · -- x[:0:0]
    rename_i k0
    simp only [OR, AV.R] at r3
    obtain ⟨_, rfl, rfl⟩ := r3
    have main : ∀ {e : TypeId} {ro nil : Bool} {id z o n : Nat} {k1 : IntKind}, P.underlying t = some (.slice e) → (AV.ysl ro nil id z o n).R M y → hv = some (.int k1 0) → (lv = none ∨ ∃ k2, lv = some (.int k2 0)) → (match sizeT P e with | some _ => T.ret (AV.ye nil) | none => T.no).sel = some v →
        ∃ u, (∀ m : World, (Instr.sliceAt t y lv hv (some (.int k0 0))).run P m = .ok u m) ∧ v.R M u := by
      intro e ro nil id z o n k1 hu rx hhv hlv hs
      split at hs
      case h_2 => cases hs
      rename_i z' hz
      obtain rfl := T.sel_ret hs
      subst hhv
      have hsl : ∃ p nn c, y = .slice p nn c ∧ ((nil = true ∧ p = none) ∨ (nil = false ∧ ∃ a, p = some a)) := by
        simp only [AV.R] at rx
        rcases rx with ⟨h, _, rfl⟩ | ⟨h, _, a, c, rfl, _⟩ | ⟨h, b, κ, c, _, rfl, _⟩
        · exact ⟨_, _, _, rfl, .inl ⟨h, rfl⟩⟩
        · exact ⟨_, _, _, rfl, .inr ⟨h, _, rfl⟩⟩
        · exact ⟨_, _, _, rfl, .inr ⟨h, _, rfl⟩⟩
      obtain ⟨p, nn, c, rfl, hp⟩ := hsl
      refine ⟨.slice p 0 0, fun m => ?_, by simp only [AV.R]; rcases hp with ⟨h, rfl⟩ | ⟨h, a, rfl⟩; exact .inl ⟨h, rfl⟩; exact .inr ⟨h, a, rfl⟩⟩
      have h0 : ∀ (k : IntKind) (y : Nat) (code : BoundsCode), (Instr.sliceBound (.int k 0) y code).run P m = .ok 0 m := fun k y code => by simpa using sliceBound_run (P := P) (k := k) (code := code) (Nat.zero_le y) m
      rcases hlv with rfl | ⟨k2, rfl⟩ <;> simp [Instr.sliceAt, run_underlying hu, Instr.slice, Instr.sliceBounds, h0, sizeT_ok hz]
    split at hs
    · rename_i e ro nil id z o n k1 hu; exact main (by assumption) rx (by simp only [OR, AV.R] at r2; obtain ⟨_, rfl, rfl⟩ := r2; rfl) (.inl (by simpa [OR] using r1)) hs
    · rename_i e ro nil id z o n k1 k2 hu; exact main (by assumption) rx (by simp only [OR, AV.R] at r2; obtain ⟨_, rfl, rfl⟩ := r2; rfl) (.inr (by simp only [OR, AV.R] at r1; obtain ⟨_, rfl, rfl⟩ := r1; exact ⟨_, rfl⟩)) hs
    · cases hs
  · cases hs
  · simp only [OR] at r3; subst r3
    split at hs
    · rename_i e nil id z o n hu
      split at hs
      · rename_i z' xa a xb b hz hl hh
        simp only [nbeq, Bool.cond_decide] at hs
        split at hs
        · rename_i hzz; subst hzz
          obtain ⟨q2, hs⟩ := yBound_ok hh r2 hs
          obtain ⟨q1, hs⟩ := yBound_ok hl r1 hs
          obtain rfl := T.sel_ret hs
          simp only [AV.R] at rx
          rcases rx with ⟨rfl, rfl, rfl⟩ | ⟨rfl, rfl, p, c, rfl, _⟩ | ⟨rfl, bb, κ, c, hM, rfl, hnc, _⟩
          · have hb := fun m : World => bounds_runY (P := P) (isS := true) (cap := 0) q1 q2 (Nat.le_refl _) m
            obtain ⟨l1, l2⟩ := bounds_leY q1 q2
            obtain rfl : b = 0 := by omega
            obtain rfl : a = 0 := by omega
            exact ⟨.slice none 0 0, fun m => by simp [Instr.sliceAt, run_underlying hu, Instr.slice, hb m, sizeT_ok hz], .inl ⟨rfl, rfl, rfl⟩⟩
          · have hb := fun m : World => bounds_runY (P := P) (isS := true) (cap := c) q1 q2 (Nat.zero_le _) m
            obtain ⟨l1, l2⟩ := bounds_leY q1 q2
            obtain rfl : b = 0 := by omega
            obtain rfl : a = 0 := by omega
            refine ⟨.slice (if c = 0 then some p else some (p.add (0 * z))) 0 c, fun m => by simp [Instr.sliceAt, run_underlying hu, Instr.slice, hb m, sizeT_ok hz], .inr (.inl ⟨rfl, rfl, ?_⟩)⟩
            split
            · exact ⟨_, _, rfl, fun e => by cases e⟩
            · exact ⟨_, _, rfl, fun e => by cases e⟩
          · have hb := fun m : World => bounds_runY (P := P) (isS := true) (cap := c) q1 q2 hnc m
            obtain ⟨l1, l2⟩ := bounds_leY q1 q2
            by_cases hba : b = a
            · subst hba
              refine ⟨.slice (if c = b then some ⟨bb, (if true = true then κ else 0) + o * z, none⟩ else some ⟨bb, (if true = true then κ else 0) + o * z + b * z, none⟩) (b - b) (c - b), fun m => by simp [Instr.sliceAt, run_underlying hu, Instr.slice, hb m, sizeT_ok hz, addr_add], .inr (.inl ⟨rfl, by simp [yNsub], ?_⟩)⟩
              rw [Nat.sub_self]
              split
              · exact ⟨_, _, rfl, fun e => by cases e⟩
              · exact ⟨_, _, rfl, fun e => by cases e⟩
            by_cases hca : c = a
            · subst hca
              refine ⟨.slice (some ⟨bb, (if true = true then κ else 0) + o * z, none⟩) (b - c) (c - c), fun m => by simp [Instr.sliceAt, run_underlying hu, Instr.slice, hb m, sizeT_ok hz], .inr (.inl ⟨rfl, ?_, _, _, by rw [show b - c = 0 by omega], fun e => by cases e⟩)⟩
              simp only [yNsub]; omega
            · refine ⟨.slice (some ⟨bb, (if true = true then κ else 0) + o * z + a * z, none⟩) (b - a) (c - a), fun m => by simp [Instr.sliceAt, run_underlying hu, Instr.slice, hb m, sizeT_ok hz, hca, addr_add], .inr (.inr ⟨rfl, bb, κ, c - a, hM, ?_, ?_, ?_, fun e => by cases e⟩)⟩
              · simp only [yNsub, yNadd, Nat.add_mul, Nat.add_assoc]
              · simp only [yNsub]; omega
              · simp only [yNsub]; omega
        · cases hs
      · cases hs
    · rename_i hu
      split at hs
      · rename_i l hlS
        obtain rfl := yS_ok hlS rx
        split at hs
        · rename_i xa a xb b hl hh
          obtain ⟨q2, hs⟩ := yBound_ok hh r2 hs
          obtain ⟨q1, hs⟩ := yBound_ok hl r1 hs
          obtain rfl := T.sel_ret hs
          have hsz : (⟨l.toArray⟩ : ByteArray).size = l.length := by simp [ByteArray.size]
          have hb := fun m : World => bounds_runY (P := P) (isS := false) (cap := l.length) (len := l.length) q1 q2 (Nat.le_refl _) m
          refine ⟨.string ((⟨l.toArray⟩ : ByteArray).extract a b), fun m => ?_, ?_⟩
          · simp [Instr.sliceAt, run_underlying hu, Instr.slice, hsz, hb m]
          · simp only [AV.R, ySlice]
            congr 1
            apply ByteArray.ext
            simp [ByteArray.data_extract]
            try (rw [List.take_drop]; congr 1; omega)
        · cases hs
      · cases hs
    · cases hs
end
end Go.Proofs.YtiikiphkhfmlcaaGreatDoor.Ex
