/- What CHcOk proved, as contracts. -/
import Derived.Test.YtalifabdjolkhaaCHcOk
namespace Go.Proofs.Ytalifabdjolkhaa.Ex
open Go

def fCl (ds : List Dx) : Option (Bool × Dx × List (List Dx)) :=
  match ds with
  | [.rows _ n [.int .i64 kd, .int .i64 th, .int .i64 id, .int .i64 at_, .int .i64 ok, .int .u64 key, .int .u64 val, .int .u64 hi, .int .i64 most, .int .i64 rk, .int .u64 rv, .ls nl pn [.int .u64 pk, .int .u64 pv]]] => some (yAnd (preE ⟨kd, th, id, at_, ok, key, val, hi, most, rk, rv, nl, pn, pk, pv⟩ n) (wfE ⟨kd, th, id, at_, ok, key, val, hi, most, rk, rv, nl, pn, pk, pv⟩ n), dCl ⟨kd, th, id, at_, ok, key, val, hi, most, rk, rv, nl, pn, pk, pv⟩ n, [])
  | _ => none
abbrev dKp (E : EvS) (n : Nat) (a : Int) : Dx := .rows (yNeq (cntU E a n) 0) (cntU E a n) (colsF E (selU E a n))
def fKp (ds : List Dx) : Option (Bool × Dx × List (List Dx)) :=
  match ds with
  | [.rows _ n [.int .i64 kd, .int .i64 th, .int .i64 id, .int .i64 at_, .int .i64 ok, .int .u64 key, .int .u64 val, .int .u64 hi, .int .i64 most, .int .i64 rk, .int .u64 rv, .ls nl pn [.int .u64 pk, .int .u64 pv]], .l [.l [.v (.y .i64 a)]]] => some (preE ⟨kd, th, id, at_, ok, key, val, hi, most, rk, rv, nl, pn, pk, pv⟩ n, dKp ⟨kd, th, id, at_, ok, key, val, hi, most, rk, rv, nl, pn, pk, pv⟩ n a, [[.v (.y .i64 a)]])
  | _ => none
def fSe (ds : List Dx) : Option (Bool × Dx × List (List Dx)) :=
  match ds with
  | [.rows _ n [.int .i64 kd, .int .i64 th, .int .i64 id, .int .i64 at_, .int .i64 ok, .int .u64 key, .int .u64 val, .int .u64 hi, .int .i64 most, .int .i64 rk, .int .u64 rv, .ls nl pn [.int .u64 pk, .int .u64 pv]], .rows _ m [.int .i64 kd2, .int .i64 th2, .int .i64 id2, .int .i64 at2, .int .i64 ok2, .int .u64 key2, .int .u64 val2, .int .u64 hi2, .int .i64 most2, .int .i64 rk2, .int .u64 rv2, .ls nl2 pn2 [.int .u64 pk2, .int .u64 pv2]]] => some (preE ⟨kd, th, id, at_, ok, key, val, hi, most, rk, rv, nl, pn, pk, pv⟩ n, .v (.yb (sameE ⟨kd, th, id, at_, ok, key, val, hi, most, rk, rv, nl, pn, pk, pv⟩ n ⟨kd2, th2, id2, at2, ok2, key2, val2, hi2, most2, rk2, rv2, nl2, pn2, pk2, pv2⟩ m)), [])
  | _ => none
def fSl (ds : List Dx) : Option (Bool × Dx × List (List Dx)) :=
  match ds with
  | [.rows _ n [.int .i64 kd, .int .i64 th, .int .i64 id, .int .i64 at_, .int .i64 ok, .int .u64 key, .int .u64 val, .int .u64 hi, .int .i64 most, .int .i64 rk, .int .u64 rv, .ls nl pn [.int .u64 pk, .int .u64 pv]]] => some (yNle n 9223372036854775807, .v (.yb (preE ⟨kd, th, id, at_, ok, key, val, hi, most, rk, rv, nl, pn, pk, pv⟩ n)), [])
  | _ => none
set_option maxRecDepth 100000 in
theorem smCln (hm : Try.prog.follows .mixedOrders = true) : SmCall Try.prog 16 (fun args h => (ctX [sP] sP fCln args h).sel) :=
  ctX_ok hm noSm_ok (fun ds r post h => by
    unfold fCln at h
    split at h
    · rename_i nil n a b
      simp only [Option.some.injEq, Prod.mk.injEq] at h
      obtain ⟨h1, rfl, rfl⟩ := h
      obtain ⟨h1, h3⟩ := yAnd_t.mp h1
      refine ⟨fun _ => none, 1000, ?_⟩
      have h2 := @goalCln_ok
      unfold goalCln at h2
      exact @h2 nil n a b h1 h3
    · cases h)
set_option maxRecDepth 100000 in
theorem smCl (hm : Try.prog.follows .mixedOrders = true) (hs : SmOK Try.prog (smL lCl)) : SmCall Try.prog 9 (fun args h => (ctX [sEv] rCl fCl args h).sel) :=
  ctX_ok hm hs (fun ds r post h => by
    unfold fCl at h
    split at h
    · rename_i nil n kd th id at_ ok key val hi most rk rv nl pn pk pv
      simp only [Option.some.injEq, Prod.mk.injEq] at h
      obtain ⟨h1, rfl, rfl⟩ := h
      obtain ⟨h1, h3⟩ := yAnd_t.mp h1
      refine ⟨annCl ⟨kd, th, id, at_, ok, key, val, hi, most, rk, rv, nl, pn, pk, pv⟩ n, 1000, ?_⟩
      have h2 := @goalCl_ok
      unfold goalCl at h2
      revert h1 h3
      exact @h2 ⟨kd, th, id, at_, ok, key, val, hi, most, rk, rv, nl, pn, pk, pv⟩ nil n
    · cases h)
set_option maxRecDepth 100000 in
theorem smKp (hm : Try.prog.follows .mixedOrders = true) : SmCall Try.prog 12 (fun args h => (ctX sKp rKp fKp args h).sel) :=
  ctX_ok hm noSm_ok (fun ds r post h => by
    unfold fKp at h
    split at h
    · rename_i nil n kd th id at_ ok key val hi most rk rv nl pn pk pv a
      simp only [Option.some.injEq, Prod.mk.injEq] at h
      obtain ⟨h1, rfl, rfl⟩ := h
      refine ⟨annKp ⟨kd, th, id, at_, ok, key, val, hi, most, rk, rv, nl, pn, pk, pv⟩ a n, 1000, ?_⟩
      have h2 := @goalKp_ok
      unfold goalKp at h2
      exact @h2 ⟨kd, th, id, at_, ok, key, val, hi, most, rk, rv, nl, pn, pk, pv⟩ nil n a h1
    · cases h)
set_option maxRecDepth 100000 in
theorem smSe (hm : Try.prog.follows .mixedOrders = true) (hs : SmOK Try.prog (smL lSe)) : SmCall Try.prog 7 (fun args h => (ctX [sEv, sEv] .sc fSe args h).sel) :=
  ctX_ok hm hs (fun ds r post h => by
    unfold fSe at h
    split at h
    · rename_i nil n kd th id at_ ok key val hi most rk rv nl pn pk pv nil2 m kd2 th2 id2 at2 ok2 key2 val2 hi2 most2 rk2 rv2 nl2 pn2 pk2 pv2
      simp only [Option.some.injEq, Prod.mk.injEq] at h
      obtain ⟨h1, rfl, rfl⟩ := h
      refine ⟨annSe ⟨kd, th, id, at_, ok, key, val, hi, most, rk, rv, nl, pn, pk, pv⟩ n ⟨kd2, th2, id2, at2, ok2, key2, val2, hi2, most2, rk2, rv2, nl2, pn2, pk2, pv2⟩ m, 1000, ?_⟩
      have h2 := @goalSe_ok
      unfold goalSe at h2
      exact @h2 ⟨kd, th, id, at_, ok, key, val, hi, most, rk, rv, nl, pn, pk, pv⟩ nil n ⟨kd2, th2, id2, at2, ok2, key2, val2, hi2, most2, rk2, rv2, nl2, pn2, pk2, pv2⟩ nil2 m h1
    · cases h)
set_option maxRecDepth 100000 in
theorem smSl (hm : Try.prog.follows .mixedOrders = true) : SmCall Try.prog 4 (fun args h => (ctX [sEv] .sc fSl args h).sel) :=
  ctX_ok hm noSm_ok (fun ds r post h => by
    unfold fSl at h
    split at h
    · rename_i nil n kd th id at_ ok key val hi most rk rv nl pn pk pv
      simp only [Option.some.injEq, Prod.mk.injEq] at h
      obtain ⟨h1, rfl, rfl⟩ := h
      refine ⟨annSl ⟨kd, th, id, at_, ok, key, val, hi, most, rk, rv, nl, pn, pk, pv⟩ n, 1000, ?_⟩
      have h2 := @goalSm_ok
      unfold goalSm at h2
      exact @h2 ⟨kd, th, id, at_, ok, key, val, hi, most, rk, rv, nl, pn, pk, pv⟩ nil n h1
    · cases h)
end Go.Proofs.Ytalifabdjolkhaa.Ex
