/- The abstract machine: what its operations compute is what the machine's compute (6): append, copy, clear, len. -/
import Derived.Test.YtiikiphkhfmlcaaGreatDoorExI
import Derived.Deep.Upon
import Derived.Laws.BytesString
noncomputable section
namespace Go.Proofs.YtiikiphkhfmlcaaGreatDoor.Ex
open Go

section
variable {P : Program} {M : Mp}

theorem srcA_ok {h : AH} {w : World} {z n : Nat} {x : AV} {X : Value} {new : List AV} {tx : TypeId} (hs : srcA h z x = some (n, new)) (rx : x.R M X) (r : Rel M h w) (hc : allCell new = true) :
    ∃ us, AV.RL M new us ∧ us.length = n * z ∧ (∀ w' : World, (Builtin.lenOf X).run P w' = .ok n w') ∧ (srcOk (P.underlying tx) = true → Src P z tx X n us w) ∧
      (∀ k, k ≤ n → (Builtin.firstCells z k X).run P w = .ok (us.take (k * z)).toArray w) := by
  unfold srcA at hs
  have kind : srcOk (P.underlying tx) = true → (∃ e', P.underlying tx = some (.slice e')) ∨ P.underlying tx = some .string := fun hk => by
    unfold srcOk at hk
    split at hk
    · rename_i e hu; exact .inl ⟨e, hu⟩
    · rename_i hu; exact .inr hu
    · cases hk
  split at hs
  · simp only [Option.some.injEq, Prod.mk.injEq] at hs
    obtain ⟨rfl, rfl⟩ := hs
    simp only [AV.R] at rx; subst rx
    exact ⟨[], rfl, by simp, fun _ => rfl, fun hk => ⟨kind hk, fun _ => rfl, run_firstCells_none w z 0 0 0, run_firstCells_none w.drew z 0 0 0, by simp, fun _ hh => by cases hh⟩, fun k hk => by simp [Builtin.firstCells]⟩
  · simp only [Option.some.injEq, Prod.mk.injEq] at hs
    obtain ⟨rfl, rfl⟩ := hs
    simp only [AV.R] at rx
    obtain ⟨a, c, rfl⟩ := rx
    refine ⟨[], rfl, by simp, fun _ => rfl, fun hk => ⟨kind hk, fun _ => rfl, ?_, ?_, by simp, fun _ hh => by cases hh⟩, fun k hk => ?_⟩
    · exact run_firstCells_some w z 0 a 0 c [] (by simp) (by simp)
    · exact run_firstCells_some w.drew z 0 a 0 c [] (by simp) (by simp)
    · obtain rfl : k = 0 := by omega
      simpa using run_firstCells_some (P := P) w z 0 a 0 c [] (by simp) (by simp)
  · rename_i id off n' cap u
    simp only [AV.R] at rx
    obtain ⟨b, κ, hM, rfl⟩ := rx
    split at hs
    · rename_i c e g hg
      split at hs
      · rename_i l hl
        simp only [Option.some.injEq, Prod.mk.injEq] at hs
        obtain ⟨rfl, rfl⟩ := hs
        obtain ⟨ob, hb, ho⟩ := Ob_of r hg hM
        obtain ⟨us, h1, h2, h3, h4⟩ := cells_ok (P := P) hb ho.row hl
        have h5 : ∀ j v, us[j]? = some v → w.cell? ((⟨b, off, none⟩ : Addr).add j) = some v := fun j v hj => by rw [addr_add]; exact h4 j v hj
        refine ⟨us, h2, h3, fun _ => rfl, fun hk => ⟨kind hk, fun _ => rfl, run_firstCells_some w z n' ⟨b, off, none⟩ n' _ us h3 h5, run_firstCells_some w.drew z n' ⟨b, off, none⟩ n' _ us h3 (by simpa using h5), h3, allCell_one h2 hc⟩, fun k hk => ?_⟩
        refine run_firstCells_some w z k ⟨b, off, none⟩ n' _ (us.take (k * z)) ?_ (fun j v hj => h5 j v ?_)
        · have : k * z ≤ n' * z := Nat.mul_le_mul_right z hk
          simp; omega
        · rw [List.getElem?_take] at hj
          split at hj
          · exact hj
          · cases hj
      · cases hs
    · cases hs
  · rename_i l
    simp only [nbeq, Bool.cond_decide] at hs
    split at hs
    · rename_i hz1
      subst hz1
      simp only [Option.some.injEq, Prod.mk.injEq] at hs
      obtain ⟨rfl, rfl⟩ := hs
      simp only [AV.R] at rx; subst rx
      have hsz : (⟨l.toArray⟩ : ByteArray).size = l.length := by simp [ByteArray.size]
      have hbc : byteCells ⟨l.toArray⟩ = l.map fun c => Value.int .u8 c.toNat := by simp [byteCells]
      have hrl : AV.RL M (l.map fun c => AV.i .u8 (.ofNat c.toNat)) (l.map fun c => Value.int .u8 c.toNat) := by
        clear hc hsz hbc kind
        induction l with
        | nil => rfl
        | cons c l ih => simp only [List.map_cons, AV.RL]; exact ⟨_, _, rfl, ih, rfl⟩
      refine ⟨l.map fun c => Value.int .u8 c.toNat, hrl, by simp, fun _ => by simp [Builtin.lenOf, hsz], fun hk => ⟨kind hk, fun _ => by simp [Builtin.lenOf, hsz], ?_, ?_, by simp, allCell_one hrl hc⟩, fun k hk => ?_⟩
      · rw [← hbc, ← hsz]; exact firstCells_string _ w
      · rw [← hbc, ← hsz]; exact firstCells_string _ w.drew
      · simp only [Builtin.firstCells, Sem.run_pure, Nat.mul_one]
        congr 1
        apply Array.ext'
        simp [ByteArray.data_extract]
    · cases hs
  · cases hs

theorem need_le_grown (w : World) (need old : Nat) (e : TypeId) : need ≤ grownCap w need old e := by
  unfold grownCap Question.cut
  simp

theorem grow_len {olds : List Value} {z : Array Value} {need gc size : Nat} (h1 : olds.length = need * size) (h2 : z.size = size) (h3 : need ≤ gc) : (olds ++ (Builtin.zeroCells z (gc - need)).toList).length = gc * size := by
  have := size_zeroCells z (gc - need)
  have e : (Builtin.zeroCells z (gc - need)).toList.length = (gc - need) * size := by simp [this, h2]
  rw [List.length_append, e, h1, ← Nat.add_mul]
  congr 1; omega

/-- Where a row is made anew in its own place. -/
theorem re_ok {h h1 h' : AH} {w w' : World} {id b κ : Nat} {old ao : AO} {ob : Obj} (r : Rel M h w) (hg : h.get id = some old) (hM : M id = some (b, κ)) (hd : h.put id none = some h1) (hn : h1.new ao = some h')
    (hF : M h.nx = none) (u : Upd w w' b ob) (ho : ObR M κ ao ob) (hro : old.ro = false := by rfl) : Rel (updM M h.nx (b, κ)) h' w' ∧ Fr h h' M (updM M h.nx (b, κ)) w w' ∧ Ab h h' := by
  have hgp := AH.get_put hd
  obtain ⟨hnx1, hbs1, hwl1⟩ := AH.put_nx hd
  have hgn := AH.get_new hn
  obtain ⟨hnx2, hbs2, hwl2⟩ := AH.new_nx hn
  have hab := (del_ok r hd).2.2
  have hle : Le M (updM M h.nx (b, κ)) := Le_updM hF
  rw [hnx1] at hgn hnx2
  have hidn : id ≠ h.nx := fun e => by rw [e, hF] at hM; cases hM
  have hget : ∀ x, h'.get x = if x = h.nx then some ao else if x = id then none else h.get x := fun x => by rw [hgn]; split; rfl; rw [hgp]
  have hother : ∀ x o, x ≠ h.nx → updM M h.nx (b, κ) x = some o → M x = some o := fun x o hne e => by simpa [updM, hne] using e
  have hgid : h.get id ≠ none := by simp [hg]
  refine ⟨⟨fun x o e => ?_, fun i j c κ1 κ2 oi h1 hr h2 e1 e2 => ?_, fun x hx => ?_, fun g c hgl => ?_, fun x c κ' o e1 hr e2 => ?_, fz_kept (M := M) r (fun c hc hz => u.other c (fun ec => hz (by rw [ec]; exact r.fo id b κ old hg hro hM))), fun x c κ' o e1 hr e2 => ?_⟩, ⟨u.os, u.tape, u.output, Nat.le_of_eq u.size.symm, hle, fun x e => ?_, fun k hk hn => u.other k (fun e => hn id κ old hg hro (by rw [e]; exact hM)), fun x c κ' o' e1 e2 => ?_, fun _ _ e => .inl e⟩, ?_⟩
  · rw [hget] at e
    split at e
    · rename_i hx
      simp only [Option.some.injEq] at e; subst e
      exact .inr ⟨b, κ, ob, by simp [updM, hx], u.at_, ObR.mono hle _ _ ho⟩
    · split at e
      · cases e
      · rename_i hx hxi
        rcases r.obj x o e with ⟨hv, q1⟩ | ⟨c, κ', ob', q1, q2, q3⟩
        · exact .inl ⟨hv, by simpa [updM, hx] using q1⟩
        refine .inr ⟨c, κ', ob', hle _ _ q1, ?_, ObR.mono hle _ _ q3⟩
        rw [u.other c (fun ec => hxi (r.inj id x b κ κ' old hg hro (by simp [e]) hM (by rw [← ec]; exact q1)).symm)]
        exact q2
  · rw [hget] at h1 h2
    by_cases hi : i = h.nx <;> by_cases hj : j = h.nx
    · omega
    · simp only [hj, if_false] at h2
      by_cases hji : j = id
      · simp [hji] at h2
      · simp only [hji, if_false] at h2
        have e2' := hother j _ hj e2
        simp [updM, hi] at e1
        obtain ⟨rfl, rfl⟩ := e1
        exact absurd (r.inj id j b κ κ2 old hg hro h2 hM e2').symm hji
    · simp only [hi, if_false] at h1
      by_cases hii : i = id
      · simp [hii] at h1
      · simp only [hii, if_false] at h1
        have e1' := hother i _ hi e1
        simp [updM, hj] at e2
        obtain ⟨rfl, rfl⟩ := e2
        exact absurd (r.inj id i b κ κ1 old hg hro (by simp [h1]) hM e1').symm hii
    · simp only [hi, if_false] at h1
      simp only [hj, if_false] at h2
      by_cases hii : i = id
      · simp [hii] at h1
      · by_cases hji : j = id
        · simp [hji] at h2
        · simp only [hii, if_false] at h1
          simp only [hji, if_false] at h2
          exact r.inj i j c κ1 κ2 oi h1 hr h2 (hother i _ hi e1) (hother j _ hj e2)
  · rw [hget] at hx
    by_cases hxn : x = h.nx
    · omega
    · simp only [hxn, if_false] at hx
      split at hx
      · exact absurd rfl hx
      · have := r.wf x hx; omega
  · obtain ⟨vs, e, fr, q1, q2⟩ := r.gw g c hgl
    have hgb : g ≠ b := fun e2 => by
      have := r.gf id b κ old hg hro hM
      rw [← e2, hgl] at this; cases this
    exact ⟨vs, e, fr, by rw [u.other g hgb]; exact q1, q2⟩
  · rw [hget] at e1
    by_cases hxn : x = h.nx
    · simp [updM, hxn] at e2
      rw [← e2.1]
      exact r.gf id b κ old hg hro hM
    · simp only [hxn, if_false] at e1
      split at e1
      · cases e1
      · exact r.gf x c κ' o e1 hr (hother x _ hxn e2)
  · rw [hget] at e1
    by_cases hxn : x = h.nx
    · simp [updM, hxn] at e2
      rw [← e2.1]
      exact r.fo id b κ old hg hro hM
    · simp only [hxn, if_false] at e1
      split at e1
      · cases e1
      · exact r.fo x c κ' o e1 hr (hother x _ hxn e2)
  · by_cases hx : x = h.nx
    · omega
    · exact absurd (by simp [updM, hx]) e
  · right
    by_cases hx : x = h.nx
    · simp [updM, hx] at e2
      obtain ⟨rfl, rfl⟩ := e2
      exact ⟨id, κ, old, hg, hM, fun _ => hro⟩
    · refine ⟨x, κ', o', ?_, hother x _ hx e2, fun e => e⟩
      rw [hget] at e1
      simp only [hx, if_false] at e1
      split at e1
      · cases e1
      · exact e1
  · refine hab.trans ⟨by omega, hbs2, fun x hx => by rw [hwl2]; exact hx, fun x hx hy hn => ?_, fun x hx => ?_⟩
    · rw [hgn]
      have : x ≠ h.nx := by omega
      simp [this]
    · rw [hgn] at hx
      by_cases hxn : x = h.nx
      · right; omega
      · left; simpa [hxn] using hx

theorem grow_ok {h h' : AH} {w : World} {t tx ty e : TypeId} {i : TypeInfo} {z : Value} {base : Option Addr} {len cap n : Nat} {old new : List AV} {olds us : List Value} {X : Value}
    (hu : P.underlying t = some (.slice e)) (hi : P.info? e = some i) (hz : i.zero = some z) (hzs : z.cells.size = i.size) (ro : AV.RL M old olds) (rn : AV.RL M new us)
    (hol : olds.length = len * i.size) (hold : (Builtin.firstCells i.size len (.slice base len cap)).run P w.drew = .ok olds.toArray w.drew) (hs : Src P i.size tx X n us w) (hcap : cap < len + n)
    (hg : growOk (len + n) i.bytes = true) (hb : 0 < i.bytes) (r : Rel M h w) (fr : M h.nx = none) (hn : h.new (.cells (old ++ new) e (some i.size)) = some h') :
    Got P h h' M w (.sl h.nx 0 (len + n) 0 true) (Builtin.append_ #[t, tx] ty #[.slice base len cap, X]) := by
  have hbd : 4 * (len + n) * i.bytes ≤ 140737488355328 := by simpa [growOk, nble] using hg
  have hbd2 : 4 * (len + n) * 1 ≤ 4 * (len + n) * i.bytes := Nat.mul_le_mul_left _ hb
  have hns := nextslicecap_le hcap
  have hfit : Builtin.nextslicecap (len + n) cap * i.bytes ≤ 281474976710656 := by
    have h1 := Nat.mul_le_mul_right i.bytes hns
    have h2 : 4 * (len + n) * i.bytes = 2 * (2 * (len + n) * i.bytes) := by rw [← Nat.mul_assoc]; congr 1; omega
    omega
  have hrun := run_append_grow_src (P := P) w t tx ty e i z hu hi hz base len cap olds hold X n us hs hcap (by omega) hfit
  have hgc := need_le_grown w (len + n) cap e
  have hnl := hs.newsLen
  have ho : ObR M (grownCap w (len + n) cap e) (.cells (old ++ new) e (some i.size)) (.cells ((olds ++ us).toArray ++ Builtin.zeroCells z.cells (grownCap w (len + n) cap e - (len + n))) e (0, 0)) := by
    refine ⟨olds ++ us, (Builtin.zeroCells z.cells (grownCap w (len + n) cap e - (len + n))).toList, RL_append ro rn, ?_, ?_⟩
    · congr 1; apply Array.ext'; simp
    · exact grow_len (by rw [List.length_append, hol, hnl, Nat.add_mul]) hzs hgc
  have rd : Rel M h w.drew := r.same rfl
  obtain ⟨q1, q2, q3⟩ := new_ok rd hn fr ho
  refine ⟨_, _, _, hrun, ?_, q1, q2.drew, q3⟩
  simp only [AV.R]
  exact ⟨_, _, by simp [updM]; exact ⟨rfl, rfl⟩, by simp⟩

theorem Got.after {h h1 h' : AH} {w : World} {v : AV} {s : Sem Value} (k : Fr h h1 M M w w) (ka : Ab h h1) (g : Got P h1 h' M w v s) : Got P h h' M w v s := by
  obtain ⟨M', u, w', e, rv, r, f, a⟩ := g
  exact ⟨M', u, w', e, rv, r, k.trans ka.nx a.nx f, ka.trans a⟩

theorem append_ok {h h' : AH} {w : World} {t tx ty : TypeId} {s x v : AV} {S X : Value} (ha : appendA P h t (some tx) s x = some (v, h')) (rs : s.R M S) (rx : x.R M X) (r : Rel M h w) (fr : Fresh M h h') :
    Got P h h' M w v (Builtin.append_ #[t, tx] ty #[S, X]) := by
  unfold appendA at ha
  split at ha
  · rename_i e hu
    split at ha
    · rename_i i za hi hza
      obtain ⟨z, hzr, rz, i', hi', hzz⟩ := zeroT_ok (M := M) hza
      rw [hi] at hi'
      simp only [Option.some.injEq] at hi'; subst hi'
      cases hcond : (srcOk ((some tx).bind P.underlying) && Nat.beq (cellsA za).length i.size && Nat.blt 0 i.bytes && Nat.blt 0 i.size) with
      | false => rw [hcond] at ha; cases ha
      | true =>
        rw [hcond, cond_true] at ha
        simp only [Option.bind_some, Bool.and_eq_true, nbeq, nblt, decide_eq_true_eq] at hcond
        obtain ⟨⟨⟨hk, hzl⟩, hby⟩, hsz⟩ := hcond
        have hzs : z.cells.size = i.size := by have := RL_length (cellsA_R rz); simp at this; omega
        split at ha
        · rename_i n new hsrc
          cases hc : allCell new with
          | false => rw [hc] at ha; cases ha
          | true =>
            rw [hc, cond_true] at ha
            obtain ⟨us, rn, hul, hlen, hS, _⟩ := srcA_ok (P := P) (tx := tx) hsrc rx r hc
            have hS := hS hk
            split at ha
            · -- nil
              simp only [AV.R] at rs; subst rs
              simp only [nbeq, Bool.cond_decide] at ha
              split at ha
              · rename_i h0; subst h0
                simp only [Option.some.injEq, Prod.mk.injEq] at ha
                obtain ⟨rfl, rfl⟩ := ha
                have : us = [] := List.length_eq_zero_iff.1 (by rw [hul]; simp)
                subst this
                exact Got.pure r (run_append_nothing w t tx ty e i hu hi none 0 0 (Nat.le_refl _) X hS) rfl
              · rename_i h0
                cases hg : growOk n i.bytes with
                | false => rw [hg] at ha; cases ha
                | true =>
                  rw [hg, cond_true] at ha
                  unfold newA at ha
                  split at ha
                  · rename_i h2 hn
                    simp only [Option.some.injEq, Prod.mk.injEq] at ha
                    obtain ⟨rfl, rfl⟩ := ha
                    have := grow_ok (P := P) (w := w) (ty := ty) (len := 0) (cap := 0) (base := none) (old := []) (olds := []) hu hi hzz hzs rfl rn (by simp) (run_firstCells_none w.drew i.size 0 0 0) hS (by omega) (by simpa using hg) hby r (fr h.nx (Nat.le_refl _) (by have := (AH.new_nx hn).1; omega)) (by simpa using hn)
                    simpa using this
                  · cases ha
            · -- a slice
              rename_i id off len cap u
              have rs0 := rs
              simp only [AV.R] at rs
              obtain ⟨b, κ, hM, rfl⟩ := rs
              cases hc0 : (Nat.beq n 0 && Nat.ble len cap && !u) with
              | true =>
                rw [hc0, cond_true] at ha
                simp only [Bool.and_eq_true, nbeq, nble, decide_eq_true_eq, Bool.not_eq_true'] at hc0
                obtain ⟨⟨rfl, hlc⟩, rfl⟩ := hc0
                simp only [Option.some.injEq, Prod.mk.injEq] at ha
                obtain ⟨rfl, rfl⟩ := ha
                have : us = [] := List.length_eq_zero_iff.1 (by rw [hul]; simp)
                subst this
                exact Got.pure r (run_append_nothing w t tx ty e i hu hi _ len cap hlc X hS) rs0
              | false =>
                rw [hc0, cond_false] at ha
                clear hc0
                split at ha
                · rename_i c e' g hg
                  split at ha
                  · -- the capacity is known
                    simp only [nble, Bool.cond_decide] at ha
                    split at ha
                    · rename_i hroom
                      split at ha
                      · rename_i c' hsp
                        split at ha
                        · rename_i h2 hp
                          simp only [Option.some.injEq, Prod.mk.injEq] at ha
                          obtain ⟨rfl, rfl⟩ := ha
                          obtain ⟨b', κ', w', hM', hst, q1, q2, q3⟩ := splice_ok (P := P) r hg hsp hp rn hS.one
                          rw [hM] at hM'
                          simp only [Option.some.injEq, Prod.mk.injEq] at hM'
                          obtain ⟨rfl, rfl⟩ := hM'
                          refine ⟨M, .slice (some ⟨b, off, none⟩) (len + n) cap, w', ?_, by simp only [AV.R]; exact ⟨b, κ, hM, rfl⟩, q1, q2, q3⟩
                          rcases hS.kind with ⟨e2, hk2⟩ | hk2 <;> simp [Builtin.append_, run_underlying hu, run_underlying hk2, sizeOf, typeInfo, hi, hlen, hroom, hS.cells, addr_add, hst]
                        · cases ha
                      · cases ha
                    · rename_i hroom
                      cases hgo : growOk (len + n) i.bytes with
                      | false => rw [hgo] at ha; cases ha
                      | true =>
                        rw [hgo, cond_true] at ha
                        split at ha
                        · rename_i old hso
                          unfold newA at ha
                          split at ha
                          · rename_i h2 hn
                            simp only [Option.some.injEq, Prod.mk.injEq] at ha
                            obtain ⟨rfl, rfl⟩ := ha
                            obtain ⟨ob, hb, ho⟩ := Ob_of r hg hM
                            obtain ⟨olds, h1, h2', h3, _⟩ := cells_ok (P := P) hb ho.row hso
                            exact grow_ok (P := P) (w := w) (ty := ty) hu hi hzz hzs h2' rn h3 (by simpa [Builtin.firstCells] using h1 w.drew rfl) hS (by simp; omega) hgo hby r (fr h.nx (Nat.le_refl _) (by have := (AH.new_nx hn).1; omega)) hn
                          · cases ha
                        · cases ha
                  · -- it is not
                    split at ha
                    · cases ha
                    · rename_i z'
                      simp only [nbeq, nble, Bool.cond_decide, ← Bool.decide_and] at ha
                      split at ha
                      · rename_i hzz'; subst hzz'
                        obtain ⟨ob, hb, vs, rest, rl, rfl, hκ⟩ := Ob_of r hg hM
                        simp only at hκ
                        have hcl := RL_length rl
                        have hcκ : c.length ≤ κ * i.size := by rw [← hκ, ← hcl]; simp
                        split at ha
                        · rename_i hroom
                          have hrk : cap + len + n ≤ κ := Nat.le_of_mul_le_mul_right (Nat.le_trans hroom hcκ) hsz
                          split at ha
                          · rename_i c' hsp
                            split at ha
                            · rename_i h2 hp
                              simp only [Option.some.injEq, Prod.mk.injEq] at ha
                              obtain ⟨rfl, rfl⟩ := ha
                              obtain ⟨b', κ', w', hM', hst, q1, q2, q3⟩ := splice_ok (P := P) r hg hsp hp rn hS.one
                              rw [hM] at hM'
                              simp only [Option.some.injEq, Prod.mk.injEq] at hM'
                              obtain ⟨rfl, rfl⟩ := hM'
                              refine ⟨M, .slice (some ⟨b, off, none⟩) (len + n) (κ - cap), w', ?_, by simp only [AV.R]; exact ⟨b, κ, hM, rfl⟩, q1, q2, q3⟩
                              have hroom' : len + n ≤ κ - cap := by omega
                              rcases hS.kind with ⟨e2, hk2⟩ | hk2 <;> simp [Builtin.append_, run_underlying hu, run_underlying hk2, sizeOf, typeInfo, hi, hlen, hroom', hS.cells, addr_add, hst]
                            · cases ha
                          · cases ha
                        · cases hcd : (decide (off = 0 ∧ cap = 0) && decide (c.length = len * i.size) && decide (e = e') && growOk (len + n) i.bytes) with
                          | false =>
                            have : (decide (((off = 0 ∧ cap = 0) ∧ c.length = len * i.size) ∧ e = e') && growOk (len + n) i.bytes) = false := by simpa [Bool.decide_and] using hcd
                            rw [this] at ha; cases ha
                          | true =>
                            have : (decide (((off = 0 ∧ cap = 0) ∧ c.length = len * i.size) ∧ e = e') && growOk (len + n) i.bytes) = true := by simpa [Bool.decide_and] using hcd
                            rw [this, cond_true] at ha
                            simp only [Bool.and_eq_true, decide_eq_true_eq] at hcd
                            obtain ⟨⟨⟨⟨rfl, rfl⟩, hcn⟩, rfl⟩, hgo⟩ := hcd
                            split at ha
                            · rename_i h2 hd
                              obtain ⟨rd1, rd2, rd3⟩ := del_ok r hd
                              have hnx2 := (AH.put_nx hd).1
                              unfold newA at ha
                              split at ha
                              · rename_i h3 hn
                                simp only [Option.some.injEq, Prod.mk.injEq] at ha
                                obtain ⟨rfl, rfl⟩ := ha
                                have hfr : M h2.nx = none := fr h2.nx (by omega) (by have := (AH.new_nx hn).1; omega)
                                by_cases hin : len + n ≤ κ
                                · -- in its own place
                                  have hst := run_storeCells_at P b (len * i.size) e us 0 (vs ++ rest).toArray w hb (by
                                    have : (len + n) * i.size ≤ κ * i.size := Nat.mul_le_mul_right _ hin
                                    rw [Nat.add_mul] at this
                                    simp only [List.size_toArray, hκ, hul]; omega) hS.one
                                  have hvl : vs.length = len * i.size := by rw [hcl, hcn]
                                  have hul2 : us.length ≤ rest.length := by
                                    have h5 : vs.length + rest.length = κ * i.size := by rw [← hκ]; simp
                                    have : (len + n) * i.size ≤ κ * i.size := Nat.mul_le_mul_right _ hin
                                    rw [Nat.add_mul] at this; omega
                                  have hrow : (vs ++ rest).toArray.toList.take (len * i.size + 0) ++ us ++ (vs ++ rest).toArray.toList.drop (len * i.size + 0 + us.length) = (vs ++ us) ++ rest.drop us.length := by
                                    simp only [Nat.add_zero, ← hvl]
                                    rw [List.take_left', List.drop_append]
                                    · simp
                                    · rfl
                                  rw [hrow] at hst
                                  have hq := re_ok (κ := κ) (w' := w.setRow b ((vs ++ us) ++ rest.drop us.length).toArray) r hg hM hd hn (by rw [← hnx2]; exact hfr) (upd_setRow hb) ⟨vs ++ us, rest.drop us.length, RL_append rl rn, rfl, by
                                    have h5 : vs.length + rest.length = κ * i.size := by rw [← hκ]; simp
                                    simp only [List.length_append, List.length_drop]; omega⟩
                                  obtain ⟨q1, q2, q3⟩ := hq
                                  refine ⟨_, .slice (some ⟨b, 0, none⟩) (len + n) (κ - 0), _, ?_, ?_, q1, q2, q3⟩
                                  · rcases hS.kind with ⟨e2, hk2⟩ | hk2 <;> simp [Builtin.append_, run_underlying hu, run_underlying hk2, sizeOf, typeInfo, hi, hlen, hin, hS.cells, addr_add, hst]
                                  · simp only [AV.R]
                                    exact ⟨b, κ, by simp [updM, hnx2], by simp⟩
                                · -- in a new one
                                  refine Got.after rd2 rd3 ?_
                                  have h1 : (loadCells ⟨b, 0, none⟩ (len * i.size)).run P w.drew = .ok vs.toArray w.drew := by
                                    have := run_loadCells_list (P := P) w.drew ⟨b, 0, none⟩ vs (fun j v hj => by
                                      rw [addr_add]
                                      have hlt : j < vs.length := (List.getElem?_eq_some_iff.1 hj).1
                                      show w.cell? _ = _
                                      simp [World.cell?, hb, List.getElem?_append_left hlt, hj])
                                    rw [hcl, hcn] at this; exact this
                                  exact grow_ok (P := P) (w := w) (ty := ty) hu hi hzz hzs rl rn (by rw [hcl, hcn]) (by simpa [Builtin.firstCells] using h1) hS (by simp; omega) hgo hby rd1 hfr hn
                              · cases ha
                            · cases ha
                      · cases ha
                · cases ha
            · cases ha
        · cases ha
    · cases ha
  · cases ha

theorem copy_ok {h h' : AH} {w : World} {t tx ty : TypeId} {d x v : AV} {D X : Value} (ha : copyA P h t d x = some (v, h')) (rd : d.R M D) (rx : x.R M X) (r : Rel M h w) :
    Got P h h' M w v (Builtin.copy_ #[t, tx] ty #[D, X]) := by
  unfold copyA at ha
  split at ha
  · rename_i e hu
    split at ha
    · rename_i z hz
      split at ha
      · simp only [AV.R] at rd; subst rd
        split at ha
        · rename_i n new hsrc
          cases hc : allCell new with
          | false => rw [hc] at ha; cases ha
          | true =>
            rw [hc, cond_true, Option.some.injEq, Prod.mk.injEq] at ha
            obtain ⟨rfl, rfl⟩ := ha
            obtain ⟨us, rn, hul, hlen, _, hfc⟩ := srcA_ok (P := P) (tx := tx) hsrc rx r hc
            have := hfc 0 (Nat.zero_le _)
            refine Got.pure (u := .int .i64 0) r ?_ rfl
            have hmm : Nat.min n 0 = 0 := Nat.min_zero n
            simp [Builtin.copy_, run_underlying hu, hlen, sizeT_ok hz, this, goInt]
        · cases ha
      · rename_i id off len cap u
        simp only [AV.R] at rd
        obtain ⟨b, κ, hM, rfl⟩ := rd
        split at ha
        · rename_i n new hsrc
          split at ha
          · rename_i c e' g hg
            cases hc : allCell new with
            | false => simp [hc] at ha
            | true =>
              simp only [hc, Bool.not_true, cond_false] at ha
              obtain ⟨us, rn, hul, hlen, _, hfc⟩ := srcA_ok (P := P) (tx := tx) hsrc rx r hc
              split at ha
              · rename_i vs hvs
                split at ha
                · rename_i c' hsp
                  split at ha
                  · rename_i h2 hp
                    simp only [Option.some.injEq, Prod.mk.injEq] at ha
                    obtain ⟨rfl, rfl⟩ := ha
                    obtain ⟨e1, e2⟩ := takeA_eq hvs
                    subst e1
                    have ho := allCell_one rn hc
                    obtain ⟨b', κ', w', hM', hst, q1, q2, q3⟩ := splice_ok (P := P) r hg hsp hp (RL_take _ rn) (fun v hv => ho v (List.mem_of_mem_take hv))
                    rw [hM] at hM'
                    simp only [Option.some.injEq, Prod.mk.injEq] at hM'
                    obtain ⟨rfl, rfl⟩ := hM'
                    refine ⟨M, .int .i64 (min n len : Nat), w', ?_, rfl, q1, q2, q3⟩
                    have := hfc (min n len) (Nat.min_le_left _ _)
                    have hmm : Nat.min n len = min n len := rfl
                    simp [Builtin.copy_, run_underlying hu, hlen, sizeT_ok hz, hmm, this, hst, goInt]
                  · cases ha
                · cases ha
              · cases ha
          · cases ha
        · cases ha
      · cases ha
    · cases ha
  · cases ha

theorem clear_ok {h h' : AH} {w : World} {t ty : TypeId} {x : AV} {X : Value} (ha : clearA P h t x = some h') (rx : x.R M X) (r : Rel M h w) :
    ∃ w', (Builtin.clear_ #[t] ty #[X]).run P w = .ok (.tuple #[]) w' ∧ Rel M h' w' ∧ Fr h h' M M w w' ∧ Ab h h' := by
  unfold clearA at ha
  split at ha
  · rename_i e hu
    simp only [Option.some.injEq] at ha; subst ha
    simp only [AV.R] at rx; subst rx
    exact ⟨w, by simp [Builtin.clear_, run_underlying hu], r, Fr.same h M w, Ab.refl h⟩
  · rename_i e hu
    simp only [Option.some.injEq] at ha; subst ha
    simp only [AV.R] at rx
    obtain ⟨a, c, rfl⟩ := rx
    exact ⟨w, by simp [Builtin.clear_, run_underlying hu], r, Fr.same h M w, Ab.refl h⟩
  · rename_i e id off n cap u hu
    simp only [AV.R] at rx
    obtain ⟨b, κ, hM, rfl⟩ := rx
    simp only [nbeq, Bool.cond_decide] at ha
    split at ha
    · rename_i h0; subst h0
      simp only [Option.some.injEq] at ha; subst ha
      exact ⟨w, by simp [Builtin.clear_, run_underlying hu], r, Fr.same h M w, Ab.refl h⟩
    · rename_i h0
      split at ha
      · rename_i z v c e' g hz hv hg
        cases hcd : (decide ((cellsA v).length = z) && Nat.blt 0 z && allCell (cellsA v)) with
        | false => rw [hcd] at ha; cases ha
        | true =>
          rw [hcd, cond_true] at ha
          simp only [Bool.and_eq_true, decide_eq_true_eq, nblt] at hcd
          obtain ⟨⟨hcl, hz0⟩, hac⟩ := hcd
          split at ha
          · rename_i c' hsp
            obtain ⟨y, hy, ry, _⟩ := zeroT_ok (M := M) hv
            have rl := cellsA_R ry
            have h1 := allCell_one rl hac
            have hrep : ∀ v ∈ repV n y.cells.toList, v.oneCell' = true := by
              clear hsp ha h0 rl hu
              induction n with
              | zero => simp [repV]
              | succ n ih => intro v hv; simp only [repV, List.mem_append] at hv; rcases hv with hv | hv; exact h1 v hv; exact ih v hv
            obtain ⟨b', κ', w', hM', hst, q1, q2, q3⟩ := splice_ok (P := P) r hg hsp ha (RL_rep rl n) hrep
            rw [hM] at hM'
            simp only [Option.some.injEq, Prod.mk.injEq] at hM'
            obtain ⟨rfl, rfl⟩ := hM'
            refine ⟨w', ?_, q1, q2, q3⟩
            have hzc : Builtin.zeroCells y.cells n = (repV n y.cells.toList).toArray := rep_zero rfl
            obtain ⟨n, rfl⟩ : ∃ m, n = m + 1 := ⟨n - 1, by omega⟩
            simp [Builtin.clear_, run_underlying hu, hy, hzc, hst]
          · cases ha
      · cases ha
  · cases ha

theorem len_ok {h : AH} {w : World} {t ty : TypeId} {x v : AV} {X : Value} (ha : lenA P h t x = some v) (rx : x.R M X) (r : Rel M h w) : ∃ u, (Builtin.len_ #[t] ty #[X]).run P w = .ok u w ∧ v.R M u := by
  unfold lenA at ha
  split at ha
  · rename_i l hu
    simp only [Option.some.injEq] at ha; subst ha
    simp only [AV.R] at rx; subst rx
    have hsz : (⟨l.toArray⟩ : ByteArray).size = l.length := by simp [ByteArray.size]
    exact ⟨.int .i64 l.length, by simp [Builtin.len_, run_underlying hu, hsz, goInt], rfl⟩
  · rename_i e hu
    simp only [Option.some.injEq] at ha; subst ha
    simp only [AV.R] at rx; subst rx
    exact ⟨.int .i64 0, by simp [Builtin.len_, run_underlying hu, goInt], rfl⟩
  · rename_i e hu
    simp only [Option.some.injEq] at ha; subst ha
    simp only [AV.R] at rx
    obtain ⟨a, c, rfl⟩ := rx
    exact ⟨.int .i64 0, by simp [Builtin.len_, run_underlying hu, goInt], rfl⟩
  · rename_i e id off n cap u hu
    simp only [Option.some.injEq] at ha; subst ha
    simp only [AV.R] at rx
    obtain ⟨b, κ, hM, rfl⟩ := rx
    exact ⟨.int .i64 n, by simp [Builtin.len_, run_underlying hu, goInt], rfl⟩
  · rename_i n e hu
    simp only [Option.some.injEq] at ha; subst ha
    exact ⟨.int .i64 n, by simp [Builtin.len_, run_underlying hu, goInt], rfl⟩
  · rename_i k e hu
    simp only [Option.some.injEq] at ha; subst ha
    simp only [AV.R] at rx; subst rx
    exact ⟨.int .i64 0, by simp [Builtin.len_, run_underlying hu, goInt], rfl⟩
  · rename_i k e id hu
    split at ha
    · rename_i es ck hg
      simp only [Option.some.injEq] at ha; subst ha
      simp only [AV.R] at rx
      obtain ⟨b, κ, hM, rfl⟩ := rx
      obtain ⟨ob, hb, l, rl, rfl⟩ := Ob_of r hg hM
      have hgo := run_getObj' (P := P) hb (by simp)
      have hll : l.length = es.length := by
        clear hg hb hgo
        induction es generalizing l with
        | nil => simp only [EL] at rl; subst rl; rfl
        | cons e es ih => simp only [EL] at rl; obtain ⟨_, _, l', _, _, r3, rfl⟩ := rl; simp [ih l' r3]
      exact ⟨.int .i64 es.length, by simp [Builtin.len_, run_underlying hu, hgo, goInt, hll], rfl⟩
    · cases ha
  · cases ha
theorem cap_ok {t ty : TypeId} {x v : AV} {X : Value} (ha : capA P t x = some v) (rx : x.R M X) : ∃ u, (∀ w, (Builtin.cap_ #[t] ty #[X]).run P w = .ok u w) ∧ v.R M u := by
  unfold capA at ha
  split at ha
  · rename_i e hu
    simp only [Option.some.injEq] at ha; subst ha
    simp only [AV.R] at rx; subst rx
    exact ⟨.int .i64 0, fun w => by simp [Builtin.cap_, run_underlying hu, goInt], rfl⟩
  · rename_i e id off n c hu
    simp only [Option.some.injEq] at ha; subst ha
    simp only [AV.R] at rx
    obtain ⟨b, κ, hM, rfl⟩ := rx
    exact ⟨.int .i64 c, fun w => by simp [Builtin.cap_, run_underlying hu, goInt], rfl⟩
  · rename_i n e hu
    simp only [Option.some.injEq] at ha; subst ha
    exact ⟨.int .i64 n, fun w => by simp [Builtin.cap_, run_underlying hu, goInt], rfl⟩
  · cases ha
theorem min_ok {ty : TypeId} {tys : Array TypeId} {x y v : AV} {X Y : Value} (ha : minA x y = some v) (rx : x.R M X) (ry : y.R M Y) : ∃ u, (∀ w, (Builtin.min_ tys ty #[X, Y]).run P w = .ok u w) ∧ v.R M u := by
  unfold minA at ha
  split at ha
  · rename_i k a k' b
    simp only [Option.some.injEq] at ha; subst ha
    simp only [AV.R] at rx ry; subst rx ry
    refine ⟨.int k (if b < a then b else a), fun w => by simp [Builtin.min_, Builtin.min2], ?_⟩
    simp only [AV.R, ltI_eq, Bool.cond_decide]
  · cases ha
theorem max_ok {ty : TypeId} {tys : Array TypeId} {x y v : AV} {X Y : Value} (ha : maxA x y = some v) (rx : x.R M X) (ry : y.R M Y) : ∃ u, (∀ w, (Builtin.max_ tys ty #[X, Y]).run P w = .ok u w) ∧ v.R M u := by
  unfold maxA at ha
  split at ha
  · rename_i k a k' b
    simp only [Option.some.injEq] at ha; subst ha
    simp only [AV.R] at rx ry; subst rx ry
    refine ⟨.int k (if a < b then b else a), fun w => by simp [Builtin.max_, Builtin.max2], ?_⟩
    simp only [AV.R, ltI_eq, Bool.cond_decide]
  · cases ha
/-! Bytes to a text. -/
theorem foldl_push (ns : List Int) : ∀ (r : ByteArray), ns.foldl (fun r n => r.push (UInt8.ofNat n.toNat)) r = ⟨(r.data.toList ++ ns.map fun n => UInt8.ofNat n.toNat).toArray⟩ := by
  induction ns with
  | nil => intro r; simp
  | cons n ns ih =>
    intro r
    rw [List.foldl_cons, ih]
    congr 1
    simp [ByteArray.push]
theorem byteSl_ok {src dst : TypeId} (h : byteSl P src dst = true) : ∃ e, P.underlying src = some (.slice e) ∧ P.underlying e = some (.int .u8) ∧ P.underlying dst = some .string := by
  unfold byteSl at h
  split at h
  · rename_i e h1 h2
    split at h
    · rename_i k h3
      obtain rfl := eqK_eq h
      exact ⟨e, h1, h3, h2⟩
    · cases h
  · cases h
/-- The conversion of a slice whose cells hold these bytes. -/
theorem convBytes {src dst : TypeId} (h : byteSl P src dst = true) {X : Value} {n : Nat} {ns : List Int} {w : World} (hX : ∃ a c, X = .slice a n c) (hn : ns.length = n)
    (hc : (Builtin.firstCells 1 n X).run P w = .ok (ns.map (Value.int .u8)).toArray w) :
    (convert src dst X).run P w = .ok (.string ⟨(ns.map fun n => UInt8.ofNat n.toNat).toArray⟩) w := by
  obtain ⟨e, h1, h2, h3⟩ := byteSl_ok h
  obtain ⟨a, c, rfl⟩ := hX
  rw [run_convert_bytes_string w src dst e a n c h1 h2 h3]
  cases a with
  | none =>
    have : ns = [] := by
      have hc2 : Result.ok (#[] : Array Value) w = .ok (ns.map (Value.int .u8)).toArray w := hc
      simp only [Result.ok.injEq, and_true] at hc2
      have h4 := congrArg Array.toList hc2
      simpa using h4.symm
    subst this
    rfl
  | some a =>
    have hc2 : (loadCells a n).run P w = .ok (ns.map (Value.int .u8)).toArray w := by
      have := hc
      simp only [Builtin.firstCells, Nat.mul_one] at this
      exact this
    rw [run_bytesToString w a n c ns hc2, foldl_push]
    rfl
theorem strL_ok : ∀ {new : List AV} {us : List Value} {l : List UInt8}, strL new = some l → AV.RL M new us → ∃ ns : List Int, us = ns.map (Value.int .u8) ∧ l = ns.map fun n => UInt8.ofNat n.toNat
  | [], us, l, h, r => by
    simp only [strL, Option.some.injEq] at h
    obtain rfl : us = [] := r
    exact ⟨[], rfl, h.symm⟩
  | a :: new, us, l, h, r => by
    obtain ⟨u, us', r1, r2, rfl⟩ := r
    cases a <;> simp only [strL, reduceCtorEq] at h
    rename_i k n
    simp only [Bool.cond_eq_ite] at h
    split at h
    · rename_i hk
      obtain rfl := eqK_eq hk
      split at h
      · rename_i r hr
        simp only [Option.some.injEq] at h
        subst h
        obtain ⟨ns, rfl, rfl⟩ := strL_ok hr r2
        obtain rfl : u = .int .u8 n := r1
        exact ⟨n :: ns, rfl, rfl⟩
      · cases h
    · cases h
theorem convHA_ok {h : AH} {w : World} {src dst : TypeId} {x v : AV} {y : Value} (e : convHA P h src dst x = some v) (rx : x.R M y) (r : Rel M h w) : ∃ u, (convert src dst y).run P w = .ok u w ∧ v.R M u := by
  unfold convHA at e
  simp only [Bool.cond_eq_ite] at e
  split at e
  · rename_i hx
    split at e
    case isFalse => cases e
    rename_i hb
    split at e
    case h_2 => cases e
    rename_i n new hs
    split at e
    case isFalse => cases e
    rename_i hc
    split at e
    case h_2 => cases e
    rename_i l hl
    simp only [Option.some.injEq] at e
    subst e
    obtain ⟨us, rn, hul, _, _, hfc⟩ := srcA_ok (P := P) (tx := src) hs rx r hc
    obtain ⟨ns, rfl, rfl⟩ := strL_ok hl rn
    simp only [List.length_map, Nat.mul_one] at hul
    have hc2 := hfc n (Nat.le_refl _)
    rw [Nat.mul_one, List.take_of_length_le (by simp [hul])] at hc2
    refine ⟨_, convBytes hb ?_ hul hc2, rfl⟩
    cases x <;> simp only [slV, Bool.false_eq_true] at hx <;> simp only [srcA, reduceCtorEq, Option.some.injEq, Prod.mk.injEq] at hs <;> simp only [AV.R] at rx
    · obtain ⟨b, c, hM, rfl⟩ := rx
      split at hs
      · split at hs
        · simp only [Option.some.injEq, Prod.mk.injEq] at hs
          obtain ⟨rfl, _⟩ := hs
          exact ⟨_, _, rfl⟩
        · cases hs
      · cases hs
    · obtain ⟨rfl, _⟩ := hs
      exact ⟨_, _, rx⟩
    · obtain ⟨rfl, _⟩ := hs
      obtain ⟨a, c, rfl⟩ := rx
      exact ⟨_, _, rfl⟩
  · obtain ⟨u, h1, h2⟩ := conv_ok (P := P) e rx
    exact ⟨u, h1 w, h2⟩
end
end Go.Proofs.YtiikiphkhfmlcaaGreatDoor.Ex
