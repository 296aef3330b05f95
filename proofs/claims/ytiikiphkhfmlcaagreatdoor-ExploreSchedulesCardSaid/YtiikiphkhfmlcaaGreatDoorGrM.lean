/- slices.Grow of no list of structs: an empty row with room behind it. -/
import Derived.Test.YtiikiphkhfmlcaaGreatDoorAr
import Derived.Test.YtiikiphkhfmlcaaGreatDoorSb
import Derived.Test.YtiikiphkhfmlcaaGreatDoorWl
import Derived.Lib.AppendZerosOnto
noncomputable section
namespace Go.Proofs.YtiikiphkhfmlcaaGreatDoor.Ex
open Go Go.RowKit

theorem append_runM {P : Program} (w : World) {ops : Array Oper} {rest : List Oper} {o : Oper} {a : Act} {Q : Exit → Act → World → Prop} (hgd : o.guard = none) (d s : Operand) (t t' : TypeId)
    (ho : o.op = .call { callee := .builtin .append, args := #[d, s], argTypes := #[t, t'] }) (v u : Value) (hd : a.eval d = v) (hs : a.eval s = u) {v' : Value} {w' : World}
    (hr : (Builtin.append_ #[t, t'] o.type #[v, u]).run P w = .ok v' w') (h : wpList P ops Q rest (a.put o.dst v') w') : wpList P ops Q (o :: rest) a w :=
  wpList_plain hgd fun K hK => by
    unfold Oper.wp execOp
    simp only [ho, resolve, invoke, builtin, Sem.run_bind, Sem.run_pure, Result.andThen_ok, List.map_toArray, List.map_cons, List.map_nil, hd, hs, hr]
    exact hK _ _ h
theorem u64_infoM' : (Tryz.prog.info? 90).map (fun i => (i.zero, i.size, i.bytes)) = some (some (.agg #[.int .i64 0, .int .u64 0, .int .u64 0]), 3, 24) := by kernel_rfl
theorem u64_infoM : ∃ i0, Tryz.prog.info? 90 = some i0 ∧ i0.zero = some (.agg #[.int .i64 0, .int .u64 0, .int .u64 0]) ∧ i0.size = 3 ∧ i0.bytes = 24 := by
  have h := u64_infoM'
  cases hi : Tryz.prog.info? 90 with
  | none => rw [hi] at h; cases h
  | some i =>
    rw [hi] at h
    simp only [Option.map_some, Option.some.injEq, Prod.mk.injEq] at h
    exact ⟨i, rfl, h.1, h.2.1, h.2.2⟩
set_option maxRecDepth 100000 in
theorem grow_walkM (k : Nat) (h0 : 0 < k) (h1 : 4 * k * 24 ≤ 140737488355328) (w : World) :
    Calls Tryz.prog 261 #[.slice none 0 0, .int .i64 (k : Int)] w fun e w' => ∃ (row : List Value) (G : Nat), e = .returned (.slice (some ⟨w.heap.size, 0, none⟩) 0 G) ∧ row.length = G * 3 ∧ w' = w.drew.alloc (.cells row.toArray 90) := by
  obtain ⟨i0, hi0, hz0, hzs, hzb⟩ := u64_infoM
  have hold : (Builtin.firstCells i0.size 0 (.slice none 0 0)).run Tryz.prog w.drew = .ok ([] : List Value).toArray w.drew := run_firstCells_none w.drew i0.size 0 0 0
  obtain ⟨G, hG⟩ : ∃ G, G = grownCap w k 0 90 := ⟨_, rfl⟩
  obtain ⟨row, hrow⟩ : ∃ row : List Value, row = (([] : List Value).toArray ++ Builtin.zeroCells ((.agg #[.int .i64 0, .int .u64 0, .int .u64 0]) : Value).cells k ++ Builtin.zeroCells ((.agg #[.int .i64 0, .int .u64 0, .int .u64 0]) : Value).cells (G - k)).toList := ⟨_, rfl⟩
  have hfit : Builtin.nextslicecap (0 + k) 0 * i0.bytes ≤ 281474976710656 := by
    have h2 := nextslicecap_le (need := 0 + k) (old := 0) (by omega)
    have h3 := Nat.mul_le_mul_right i0.bytes h2
    rw [hzb] at h3 ⊢
    omega
  have hrz : ∀ ty, (Builtin.append_ #[80, 3] ty #[.slice none 0 0, .int .i64 (k : Int)]).run Tryz.prog w = .ok (.slice (some ⟨w.heap.size, 0, none⟩) k G) (w.drew.alloc (.cells row.toArray 90)) := fun ty => by
    have h := Lib.run_append_grow_zeros w 80 3 ty 90 i0 _ .i64 .i64 Tryz.underlying80 Tryz.underlying3 hi0 hz0 none 0 0 [] hold k h0 (by omega) (by omega) (by omega) (by rw [hzb]; omega) hfit
    rw [Nat.zero_add] at h
    rw [h, hrow, hG]
  have hGn : k ≤ G := by rw [hG]; exact grownCap_ge w _ _ _
  have hrl : row.length = G * 3 := by
    rw [hrow]
    simp [Builtin.zeroCells, Value.cells]
    omega
  clear hrow hold hfit hG hGn
  have hk1 : ¬ ((k : Int) < 0) := by omega
  have hk2 : (0 : Int) < (k : Int) := by omega
  have hk3 : IntKind.i64.wrap (k : Int) = k := by rw [IntKind.wrap_i64]; omega
  go_enter Tryz.func261, Tryz.ntmps261
  go_wp2_with (at_builtin; refine append_runM _ rfl (.tmp 20) (.tmp 21) 80 3 rfl _ _ rfl rfl (hrz _) ?_)
  go_ret
  exact ⟨row, G, rfl, hrl, rfl⟩
theorem grow_walk0M (w : World) : Calls Tryz.prog 261 #[.slice none 0 0, .int .i64 0] w fun e w' => e = .returned (.slice none 0 0) ∧ w' = w := by
  have hk3 : IntKind.i64.wrap (0 : Int) = 0 := by decide
  go_enter Tryz.func261, Tryz.ntmps261
  go_wp2
  go_ret
  exact ⟨rfl, rfl⟩
def grwAM (args : List AV) (h : AH) : T (AV × AH) :=
  match args with
  | [.ns, .i .i64 0] => .ret (.ns, h)
  | [.ns, .y .i64 n] => .must (yLt 0 n) (.must (yGrow (yNat n) 24) (match h.new (.cells [] 90 (some 3)) with
    | some h' => .ret (.sl h.nx 0 0 0 true, h')
    | none => .no))
  | [.ns, .i .i64 n] => .must (yLt 0 n) (.must (yGrow (yNat n) 24) (match h.new (.cells [] 90 (some 3)) with
    | some h' => .ret (.sl h.nx 0 0 0 true, h')
    | none => .no))
  | _ => .no
theorem smGrowM : SmCall Tryz.prog 261 (fun args h => (grwAM args h).sel) := by
  intro args h v h' hg
  simp only [grwAM] at hg
  split at hg
  case h_4 => cases hg
  case h_1 =>
    have e := T.sel_ret hg
    simp only [Prod.mk.injEq] at e
    obtain ⟨rfl, rfl⟩ := e
    refine ⟨⟨Nat.le_refl _, Ab.refl _⟩, fun M us w r R ra rr fr k' => ⟨?_, ?_⟩⟩
    · have hf : Tryz.prog.funcs[261]? = some Tryz.f261 := Tryz.func261
      have hnn : ¬ (Tryz.f261.name = "runtime.NumGoroutine") := by
        have : okFn Tryz.f261 = true := by kernel_rfl
        simpa [okFn] using this
      have hb : (Tryz.f261.body).isSome = true := by kernel_rfl
      cases hbb : Tryz.f261.body with
      | none => rw [hbb] at hb; cases hb
      | some c => simp [callFunc, hf, hnn, hbb]
    · simp only [AV.RL, AV.R] at ra
      obtain ⟨_, _, rfl, ⟨_, _, rfl, rfl, rfl⟩, rfl⟩ := ra
      exact (callsIn_wide (n := 0)).2 ((grow_walk0M w).mono fun e w' ⟨he, hw⟩ => by
        subst he
        subst hw
        exact k' M _ _ rfl rr (Fr.same _ _ _) (Ab.refl _))
  all_goals
    first
      | (rename_i n hne; have hn0 : Int := n; clear hn0 hne)
      | (rename_i n; have hn0 : Int := n; clear hn0)
    obtain ⟨hp, hg⟩ := T.sel_must hg
    obtain ⟨hgr, hg⟩ := T.sel_must hg
    split at hg
    case h_2 => cases hg
    rename_i h2 hn
    have e := T.sel_ret hg
    simp only [Prod.mk.injEq] at e
    obtain ⟨rfl, rfl⟩ := e
    have hp : 0 < n := by simpa [yLt_t] using hp
    obtain ⟨k, rfl⟩ : ∃ k : Nat, n = (k : Int) := ⟨n.toNat, by omega⟩
    have hk0 : 0 < k := by omega
    have hgr : 4 * k * 24 ≤ 140737488355328 := by
      rw [yGrow_t] at hgr
      simpa [yNat] using hgr
    obtain ⟨hnx, hbs, hwl⟩ := AH.new_nx hn
    have hgt := AH.get_new hn
    refine ⟨⟨by omega, ⟨by omega, hbs, fun x hx => by rw [hwl]; exact hx, fun x hx hy hn2 => ?_, fun x hx => ?_⟩⟩, fun M us w r R ra rr fr k' => ⟨?_, ?_⟩⟩
    · rw [hgt, if_neg (by omega)]
    · rw [hgt] at hx
      by_cases hid : x = h.nx
      · right; omega
      · left; simpa [hid] using hx
    · have hf : Tryz.prog.funcs[261]? = some Tryz.f261 := Tryz.func261
      have hnn : ¬ (Tryz.f261.name = "runtime.NumGoroutine") := by
        have : okFn Tryz.f261 = true := by kernel_rfl
        simpa [okFn] using this
      have hb : (Tryz.f261.body).isSome = true := by kernel_rfl
      cases hbb : Tryz.f261.body with
      | none => rw [hbb] at hb; cases hb
      | some c => simp [callFunc, hf, hnn, hbb]
    · simp only [AV.RL, AV.R] at ra
      obtain ⟨_, _, rfl, ⟨_, _, rfl, rfl, rfl⟩, rfl⟩ := ra
      exact (callsIn_wide (n := 0)).2 ((grow_walkM k hk0 hgr w).mono fun e w' ⟨row, G, he, hl, hw⟩ => by
        subst he
        subst hw
        have ho2 : ObR M G (.cells [] 90 (some 3)) (.cells row.toArray 90) := ⟨[], row, rfl, rfl, by simpa using hl⟩
        have rd : Rel M h w.drew := rr.same rfl
        obtain ⟨q1, q2, q3⟩ := new_ok rd hn (fr h.nx (Nat.le_refl _) (by omega)) ho2
        exact k' _ _ _ (by simp only [AV.R]; exact ⟨w.heap.size, G, by simp [updM], by simp⟩) q1 q2.drew q3)
end Go.Proofs.YtiikiphkhfmlcaaGreatDoor.Ex
