/- The texts Nb, Nc, Nd, Ne, Nf, Ng, Nh, Ni, Nj, Nk, Nl, Lst, No: A walk to a leaf: the conditions of its contracts are true. A walk to a leaf: its accesses, its beginning; the contracts as calls. A walk to a leaf: its contracts as calls. A walk to a leaf: the .. -/
import Derived.Test.YtinijejfhmcmdaaDoorU4
set_option linter.all false
set_option maxRecDepth 100000
section
namespace Go.Proofs.YtinijejfhmcmdaaDoor.Ex
open Go
theorem gen24 {h : Nat} (hh : h < 18446744073709551616) : yBits .and .u64 (yShr .u64 (h : Int) 16) 16777215 = ((h / 65536 % 16777216 : Nat) : Int) := field_get (at_ := 16) (n := 24) hh (by omega) (by omega) rfl
theorem gen40 {h : Nat} (hh : h < 18446744073709551616) : yBits .and .u64 (yShr .u64 (h : Int) 40) 16777215 = ((h / 1099511627776 : Nat) : Int) := by
 have e : yBits .and .u64 (yShr .u64 (h : Int) 40) 16777215 = ((h / 2 ^ 40 % 2 ^ 24 : Nat) : Int) := field_get (at_ := 40) (n := 24) hh (by omega) (by omega) rfl
 rw [e]; omega
theorem bit0 {h : Nat} (hh : h < 18446744073709551616) : yBits .and .u64 (yShr .u64 (h : Int) 0) 1 = ((h % 2 : Nat) : Int) := by
 have e : yBits .and .u64 (yShr .u64 (h : Int) 0) 1 = ((h / 2 ^ 0 % 2 ^ 1 : Nat) : Int) := field_get (at_ := 0) (n := 1) hh (by omega) (by omega) rfl
 rw [e]; omega
theorem bit1 {h : Nat} (hh : h < 18446744073709551616) : yBits .and .u64 (yShr .u64 (h : Int) 1) 1 = ((h / 2 % 2 : Nat) : Int) := field_get (at_ := 1) (n := 1) hh (by omega) (by omega) rfl
theorem byte1 {h : Nat} (hh : h < 18446744073709551616) : yBits .and .u64 (yShr .u64 (h : Int) 1) 255 = ((h / 2 % 256 : Nat) : Int) := field_get (at_ := 1) (n := 8) hh (by omega) (by omega) rfl
def goalBePV : Prop := (∀ (h w : Int), yAnd (yAnd (yLe 0 h) (yLt h 18446744073709551616)) (yAnd (yLe 0 w) (yLt w 18446744073709551616)) = true → (yLe 0 (40 : Int) = true → (yLe 0 (16 : Int) = true → (yNot (yEq (yBits BinOp.and IntKind.u64 (yShr IntKind.u64 w 40) 16777215) (yBits BinOp.and IntKind.u64 (yShr IntKind.u64 h 16) 16777215)) = true → beginC h w = (1 : Int)) ∧ (yNot (yEq (yBits BinOp.and IntKind.u64 (yShr IntKind.u64 w 40) 16777215) (yBits BinOp.and IntKind.u64 (yShr IntKind.u64 h 16) 16777215)) = false → (yLe 0 (1 : Int) = true → (yEq (yBits BinOp.and IntKind.u64 (yShr IntKind.u64 w 1) 1) (1 : Int) = true → beginC h w = (1 : Int)) ∧ (yEq (yBits BinOp.and IntKind.u64 (yShr IntKind.u64 w 1) 1) (1 : Int) = false → (yLe 0 (0 : Int) = true → (yEq (yBits BinOp.and IntKind.u64 (yShr IntKind.u64 w 0) 1) (1 : Int) = true → beginC h w = (2 : Int)) ∧ (yEq (yBits BinOp.and IntKind.u64 (yShr IntKind.u64 w 0) 1) (1 : Int) = false → beginC h w = (3 : Int))) ∧ (yLe 0 (0 : Int) = false → False))) ∧ (yLe 0 (1 : Int) = false → False))) ∧ (yLe 0 (16 : Int) = false → False)) ∧ (yLe 0 (40 : Int) = false → False))
theorem goalBeP_eq : goalBeP = goalBePV := by kernel_rfl
set_option maxHeartbeats 8000000 in
theorem goalBeP_vc : goalBePV := by
 unfold goalBePV
 intro h w hh
 rw [yAnd_t] at hh
 obtain ⟨n, rfl, hn⟩ := inU_nat (w := h) hh.1
 obtain ⟨m, rfl, hm⟩ := inU_nat (w := w) hh.2
 simp only [gen24 hn, gen40 hm, bit0 hm, bit1 hm, vS, forall_const]
 unfold beginC genhC
 repeat' (first | apply And.intro | intro _)
 all_goals first
   | (exfalso; omega)
   | (rw [if_pos (by omega)]; done)
   | (rw [if_neg (by omega), if_pos (by omega)]; done)
   | (rw [if_neg (by omega), if_neg (by omega)]; done)
   | (trace_state; fail)
theorem goalBeP_tt : (goalBeP) = True := goalBeP_eq.trans (eq_true goalBeP_vc)
theorem goalBeP_ok : goalBeP := @ft' goalBeP goalBeP_tt
def goalBeRV : Prop := (∀ (h w : Int), yAnd (yAnd (yLe 0 h) (yLt h 18446744073709551616)) (yAnd (yLe 0 w) (yLt w 18446744073709551616)) = true → (yEq 2 (0 : Int) = true → False) ∧ (yEq 2 (0 : Int) = false → (yEq 2 (0 : Int) = true → False) ∧ (yEq 2 (0 : Int) = false → (yEq 2 (0 : Int) = true → False) ∧ (yEq 2 (0 : Int) = false → (yEq 4 (0 : Int) = true → False) ∧ (yEq 4 (0 : Int) = false → (yEq 274877906944 (0 : Int) = true → False) ∧ (yEq 274877906944 (0 : Int) = false → (yEq 1099511627776 (0 : Int) = true → False) ∧ (yEq 1099511627776 (0 : Int) = false → (yEq 65536 (0 : Int) = true → False) ∧ (yEq 65536 (0 : Int) = false → (yEq 16777216 (0 : Int) = true → False) ∧ (yEq 16777216 (0 : Int) = false → (yNot (yEq (yQuo IntKind.u64 w 1099511627776) (yRem (yQuo IntKind.u64 h 65536) 16777216)) = true → beginC h w = (1 : Int)) ∧ (yNot (yEq (yQuo IntKind.u64 w 1099511627776) (yRem (yQuo IntKind.u64 h 65536) 16777216)) = false → (yEq (yRem (yQuo IntKind.u64 w 2) 2) (1 : Int) = true → beginC h w = (1 : Int)) ∧ (yEq (yRem (yQuo IntKind.u64 w 2) 2) (1 : Int) = false → (yEq (yRem w 2) (1 : Int) = true → beginC h w = (2 : Int)) ∧ (yEq (yRem w 2) (1 : Int) = false → beginC h w = (3 : Int)))))))))))))
theorem goalBeR_eq : goalBeR = goalBeRV := by kernel_rfl
set_option maxHeartbeats 8000000 in
theorem goalBeR_vc : goalBeRV := by
 unfold goalBeRV
 intro h w hh
 rw [yAnd_t] at hh
 obtain ⟨n, rfl, hn⟩ := inU_nat (w := h) hh.1
 obtain ⟨m, rfl, hm⟩ := inU_nat (w := w) hh.2
 have a1 : yQuo .u64 (m : Int) 2 = ((m / 2 : Nat) : Int) := quo_u (c := 2) hm
 have a3 : yQuo .u64 (m : Int) 1099511627776 = ((m / 1099511627776 : Nat) : Int) := quo_u (c := 1099511627776) hm
 have a4 : yRem ((m / 2 : Nat) : Int) 2 = ((m / 2 % 2 : Nat) : Int) := rem_u (c := 2)
 have a5 : yRem (m : Int) 2 = ((m % 2 : Nat) : Int) := rem_u (c := 2)
 have a6 : yQuo .u64 (n : Int) 65536 = ((n / 65536 : Nat) : Int) := quo_u (c := 65536) hn
 have a7 : yRem ((n / 65536 : Nat) : Int) 16777216 = ((n / 65536 % 16777216 : Nat) : Int) := rem_u (c := 16777216)
 simp only [a1, a3, a4, a5, a6, a7, vS, forall_const]
 unfold beginC genhC
 repeat' (first | apply And.intro | intro _)
 all_goals first
   | (exfalso; omega)
   | (rw [if_pos (by omega)]; done)
   | (rw [if_neg (by omega), if_pos (by omega)]; done)
   | (rw [if_neg (by omega), if_neg (by omega)]; done)
   | (trace_state; fail)
theorem goalBeR_tt : (goalBeR) = True := goalBeR_eq.trans (eq_true goalBeR_vc)
theorem goalBeR_ok : goalBeR := @ft' goalBeR goalBeR_tt
def goalEnPV : Prop := (∀ (w f' : Int), yAnd (yLe 0 w) (yLt w 18446744073709551616) = true → (yLe 0 (1 : Int) = true → entC w f' = ySel (yLt 0 (ySel (yLt f' (yWrap IntKind.i64 (yBits BinOp.and IntKind.u64 (yShr IntKind.u64 w 1) 255))) f' (yWrap IntKind.i64 (yBits BinOp.and IntKind.u64 (yShr IntKind.u64 w 1) 255)))) (ySel (yLt f' (yWrap IntKind.i64 (yBits BinOp.and IntKind.u64 (yShr IntKind.u64 w 1) 255))) f' (yWrap IntKind.i64 (yBits BinOp.and IntKind.u64 (yShr IntKind.u64 w 1) 255))) 0) ∧ (yLe 0 (1 : Int) = false → False))
theorem goalEnP_eq : goalEnP = goalEnPV := by kernel_rfl
set_option maxHeartbeats 8000000 in
theorem goalEnP_vc : goalEnPV := by
 unfold goalEnPV
 intro w f h
 obtain ⟨n, rfl, hn⟩ := inU_nat h
 rw [byte1 hn]
 rw [wrap64 (n := ((n / 2 % 256 : Nat) : Int)) (by omega) (by omega)]
 simp only [vS, forall_const]
 refine ⟨fun _ => ?_, fun e => by omega⟩
 simp only [ySel, yLt, Bool.cond_decide]
 unfold entC
 (repeat' split) <;> omega
theorem goalEnP_tt : (goalEnP) = True := goalEnP_eq.trans (eq_true goalEnP_vc)
theorem goalEnP_ok : goalEnP := @ft' goalEnP goalEnP_tt
def goalInPV : Prop := (∀ (w : Int), yAnd (yLe 0 w) (yLt w 18446744073709551616) = true → (yLe 0 (0 : Int) = true → innC w = yEq (yBits BinOp.and IntKind.u64 (yShr IntKind.u64 w 0) 1) 1) ∧ (yLe 0 (0 : Int) = false → False))
theorem goalInP_eq : goalInP = goalInPV := by kernel_rfl
set_option maxHeartbeats 8000000 in
theorem goalInP_vc : goalInPV := by
 unfold goalInPV
 intro w h
 obtain ⟨n, rfl, hn⟩ := inU_nat h
 rw [bit0 hn]
 simp only [vS, forall_const]
 refine ⟨fun _ => ?_, fun e => by omega⟩
 unfold innC yEq
 rw [decide_eq_decide]; omega
theorem goalInP_tt : (goalInP) = True := goalInP_eq.trans (eq_true goalInP_vc)
theorem goalInP_ok : goalInP := @ft' goalInP goalInP_tt
def goalLkPV : Prop := (∀ (w : Int), yAnd (yLe 0 w) (yLt w 18446744073709551616) = true → (yLe 0 (0 : Int) = true → innC w = yEq (yBits BinOp.and IntKind.u64 (yShr IntKind.u64 w 0) 1) 1) ∧ (yLe 0 (0 : Int) = false → False))
theorem goalLkP_eq : goalLkP = goalLkPV := by kernel_rfl
set_option maxHeartbeats 8000000 in
theorem goalLkP_vc : goalLkPV := by
 unfold goalLkPV
 intro w h
 obtain ⟨n, rfl, hn⟩ := inU_nat h
 rw [bit0 hn]
 simp only [vS, forall_const]
 refine ⟨fun _ => ?_, fun e => by omega⟩
 unfold innC yEq
 rw [decide_eq_decide]; omega
theorem goalLkP_tt : (goalLkP) = True := goalLkP_eq.trans (eq_true goalLkP_vc)
theorem goalLkP_ok : goalLkP := @ft' goalLkP goalLkP_tt
def goalHzV : Prop := (∀ (s t f l p th i : Int), rightC s t f l p = true → (yAnd (yEq s 0) (yAnd (yEq t 0) (yAnd (yEq f 0) (yAnd (yEq l 0) (yAnd (yEq p 0) true)))) = true → hazC t th i = (-1 : Int)) ∧ (yAnd (yEq s 0) (yAnd (yEq t 0) (yAnd (yEq f 0) (yAnd (yEq l 0) (yAnd (yEq p 0) true)))) = false → (yLe 0 i = true → (yLt i (2 : Int) = true → (yLe 0 th = true → (yLt th t = true → hazC t th i = yWrap IntKind.i64 (yAdd (yWrap IntKind.i64 (yAdd (yWrap IntKind.i64 (yAdd 3 t)) (yWrap IntKind.i64 (yMul 2 th)))) i)) ∧ (yLt th t = false → hazC t th i = (-1 : Int))) ∧ (yLe 0 th = false → hazC t th i = (-1 : Int))) ∧ (yLt i (2 : Int) = false → hazC t th i = (-1 : Int))) ∧ (yLe 0 i = false → hazC t th i = (-1 : Int))))
theorem goalHz_eq : goalHz = goalHzV := by kernel_rfl
set_option maxHeartbeats 8000000 in
theorem goalHz_vc : goalHzV := by
 unfold goalHzV
 intro s t f l p th i hr
 have h := rightC_iff.1 hr
 simp only [vS, forall_const]
 unfold hazC
 repeat' (first | apply And.intro | intro _)
 all_goals first
   | (exfalso; omega)
   | (rw [if_neg (by omega)]; done)
   | (rw [if_pos (by omega)]; simp (disch := omega) only [wrap64]; done)
   | (rw [if_pos (by omega)]; simp (disch := omega) only [wrap64]; omega)
   | (trace_state; fail)
theorem goalHz_tt : (goalHz) = True := goalHz_eq.trans (eq_true goalHz_vc)
theorem goalHz_ok : goalHz := @ft' goalHz goalHz_tt
theorem invX_iff {cs ct cf cl cp th : Int} {W : WkS} : invX cs ct cf cl cp th W = true ↔ (rightC cs ct cf cl cp = true ∧ inU W.h = true ∧ inU W.p = true ∧ inU W.ch = true ∧ (0 ≤ W.sl ∧ W.sl ≤ 64 ∧ -1 ≤ W.sh ∧ W.sh ≤ 64) ∧ (0 ≤ W.dp ∧ W.dp ≤ 1000000) ∧ (0 ≤ W.st ∧ W.st ≤ 9) ∧ (0 ≤ th ∧ th < ct) ∧ (-1 ≤ W.n ∧ W.n ≤ 64)) := decide_eq_true_iff
theorem entX {w f : Int} (hw : 0 ≤ w) (hf : 0 ≤ f) : 0 ≤ entC w f ∧ entC w f ≤ f := by unfold entC; (repeat' split) <;> omega
theorem max1 {e : Int} : ySel (yLt 1 e) e 1 = if e < 1 then 1 else e := by
 unfold ySel yLt
 by_cases h : 1 < e
 · rw [if_neg (by omega)]; simp [h]
 · by_cases h2 : e < 1
   · rw [if_pos h2]; simp [h]
   · rw [if_neg h2]; simp [h]; omega
theorem quo2 {a : Int} (h : 0 ≤ a) (h2 : a < 1000000) : yQuo .i64 a 2 = a / 2 := by
 unfold yQuo
 rw [Int.tdiv_eq_ediv_of_nonneg h]
 exact wrap64 (n := a / 2) (by omega) (by omega)
def goalXt0V : Prop := (∀ (cs ct cf cl cp th : Int) (W : WkS) (got : Int), invX cs ct cf cl cp th W = true → yAnd (yLe 0 got) (yLt got 18446744073709551616) = true → zSt W = (0 : Int) → zP (tkX cs cf W got) = zP W ∧ zPv (tkX cs cf W got) = zPv W ∧ zPn (tkX cs cf W got) = zPn W ∧ zI (tkX cs cf W got) = zI W ∧ zH (tkX cs cf W got) = zH W ∧ zV (tkX cs cf W got) = zV W ∧ zN (tkX cs cf W got) = zN W ∧ zInr (tkX cs cf W got) = zInr W ∧ zDp (tkX cs cf W got) = zDp W ∧ cs = cs ∧ ct = ct ∧ cf = cf ∧ cl = cl ∧ cp = cp ∧ th = th ∧ (1 : Int) = (1 : Int) ∧ zKey (tkX cs cf W got) = zKey W ∧ zSlow (tkX cs cf W got) = zSlow W ∧ zChain (tkX cs cf W got) = zChain W ∧ zSt (tkX cs cf W got) = (0 : Int) ∧ zOut (tkX cs cf W got) = zOut W ∧ zSk (tkX cs cf W got) = zSk W ∧ zSl (tkX cs cf W got) = zSl W ∧ zSh (tkX cs cf W got) = zSh W ∧ zSkey (tkX cs cf W got) = zSkey W ∧ zAt (tkX cs cf W got) = zAt W ∧ zCh (tkX cs cf W got) = zCh W ∧ zK0 (tkX cs cf W got) = zK0 W ∧ zA0 (tkX cs cf W got) = zA0 W ∧ zB0 (tkX cs cf W got) = zB0 W ∧ zK1 (tkX cs cf W got) = zK1 W ∧ zA1 (tkX cs cf W got) = zA1 W ∧ zB1 (tkX cs cf W got) = zB1 W ∧ zMn (tkX cs cf W got) = (0 : Int) ∧ true = true)
theorem goalXt0_eq : goalXt0 = goalXt0V := by kernel_rfl
set_option maxHeartbeats 8000000 in
theorem goalXt0_vc : goalXt0V := by
 unfold goalXt0V
 intro cs ct cf cl cp th W got hi hg hs
 obtain ⟨i1, i2, i3, i4, ⟨i5, i6, i7, i8⟩, ⟨i9, i10⟩, ⟨i11, i12⟩, ⟨i13, i14⟩, ⟨i15, i16⟩⟩ := invX_iff.1 hi
 have hc := rightC_iff.1 i1
 have hg' := hg
 have i2' := i2
 have i4' := i4
 simp only [inU, vS, forall_const] at hg' i2' i4'
 simp only [zP, zPv, zPn, zI, zH, zV, zN, zInr, zDp, zKey, zSlow, zChain, zSt, zOut, zSk, zSl, zSh, zSkey, zAt, zCh, zK0, zA0, zB0, zK1, zA1, zB1, zMn] at hs
 simp only [vS, forall_const, zP, zPv, zPn, zI, zH, zV, zN, zInr, zDp, zKey, zSlow, zChain, zSt, zOut, zSk, zSl, zSh, zSkey, zAt, zCh, zK0, zA0, zB0, zK1, zA1, zB1, zMn]
 repeat' (first | (refine And.intro (fun _ => ?_) (fun _ => ?_)) | intro _)
 all_goals first
   | (exfalso; omega)
   | (unfold tkX
      (repeat' split) <;> first | contradiction | (exfalso; omega) | (exfalso; simp_all; done) | ((repeat' (apply And.intro)) <;> first | rfl | trivial | omega | exact Eq.symm (by assumption)))
   | (trace_state; fail)
theorem goalXt0_tt : (goalXt0) = True := goalXt0_eq.trans (eq_true goalXt0_vc)
theorem goalXt0_ok : goalXt0 := @ft' goalXt0 goalXt0_tt
def goalXt3V : Prop := (∀ (cs ct cf cl cp th : Int) (W : WkS) (got : Int), invX cs ct cf cl cp th W = true → yAnd (yLe 0 got) (yLt got 18446744073709551616) = true → zSt W = (3 : Int) → zP (tkX cs cf W got) = zP W ∧ zPv (tkX cs cf W got) = zPv W ∧ zPn (tkX cs cf W got) = zPn W ∧ zI (tkX cs cf W got) = zI W ∧ zH (tkX cs cf W got) = zH W ∧ zV (tkX cs cf W got) = zV W ∧ zN (tkX cs cf W got) = zN W ∧ zInr (tkX cs cf W got) = zInr W ∧ zDp (tkX cs cf W got) = zDp W ∧ cs = cs ∧ ct = ct ∧ cf = cf ∧ cl = cl ∧ cp = cp ∧ th = th ∧ (1 : Int) = (1 : Int) ∧ zKey (tkX cs cf W got) = zKey W ∧ zSlow (tkX cs cf W got) = zSlow W ∧ zChain (tkX cs cf W got) = zChain W ∧ zSt (tkX cs cf W got) = (4 : Int) ∧ zOut (tkX cs cf W got) = zOut W ∧ zSk (tkX cs cf W got) = zSk W ∧ zSl (tkX cs cf W got) = zSl W ∧ zSh (tkX cs cf W got) = zSh W ∧ zSkey (tkX cs cf W got) = zSkey W ∧ zAt (tkX cs cf W got) = zAt W ∧ zCh (tkX cs cf W got) = zCh W ∧ zK0 (tkX cs cf W got) = zK0 W ∧ zA0 (tkX cs cf W got) = zA0 W ∧ zB0 (tkX cs cf W got) = zB0 W ∧ zK1 (tkX cs cf W got) = zK1 W ∧ zA1 (tkX cs cf W got) = zA1 W ∧ zB1 (tkX cs cf W got) = zB1 W ∧ zMn (tkX cs cf W got) = (0 : Int) ∧ true = true)
theorem goalXt3_eq : goalXt3 = goalXt3V := by kernel_rfl
set_option maxHeartbeats 8000000 in
theorem goalXt3_vc : goalXt3V := by
 unfold goalXt3V
 intro cs ct cf cl cp th W got hi hg hs
 obtain ⟨i1, i2, i3, i4, ⟨i5, i6, i7, i8⟩, ⟨i9, i10⟩, ⟨i11, i12⟩, ⟨i13, i14⟩, ⟨i15, i16⟩⟩ := invX_iff.1 hi
 have hc := rightC_iff.1 i1
 have hg' := hg
 have i2' := i2
 have i4' := i4
 simp only [inU, vS, forall_const] at hg' i2' i4'
 simp only [zP, zPv, zPn, zI, zH, zV, zN, zInr, zDp, zKey, zSlow, zChain, zSt, zOut, zSk, zSl, zSh, zSkey, zAt, zCh, zK0, zA0, zB0, zK1, zA1, zB1, zMn] at hs
 simp only [vS, forall_const, zP, zPv, zPn, zI, zH, zV, zN, zInr, zDp, zKey, zSlow, zChain, zSt, zOut, zSk, zSl, zSh, zSkey, zAt, zCh, zK0, zA0, zB0, zK1, zA1, zB1, zMn]
 repeat' (first | (refine And.intro (fun _ => ?_) (fun _ => ?_)) | intro _)
 all_goals first
   | (exfalso; omega)
   | (unfold tkX
      (repeat' split) <;> first | contradiction | (exfalso; omega) | (exfalso; simp_all; done) | ((repeat' (apply And.intro)) <;> first | rfl | trivial | omega | exact Eq.symm (by assumption)))
   | (trace_state; fail)
theorem goalXt3_tt : (goalXt3) = True := goalXt3_eq.trans (eq_true goalXt3_vc)
theorem goalXt3_ok : goalXt3 := @ft' goalXt3 goalXt3_tt
def goalXt8V : Prop := (∀ (cs ct cf cl cp th : Int) (W : WkS) (got : Int), invX cs ct cf cl cp th W = true → yAnd (yLe 0 got) (yLt got 18446744073709551616) = true → zSt W = (8 : Int) → zP (tkX cs cf W got) = zP W ∧ zPv (tkX cs cf W got) = zPv W ∧ zPn (tkX cs cf W got) = zPn W ∧ zI (tkX cs cf W got) = zI W ∧ zH (tkX cs cf W got) = zH W ∧ zV (tkX cs cf W got) = zV W ∧ zN (tkX cs cf W got) = zN W ∧ zInr (tkX cs cf W got) = zInr W ∧ zDp (tkX cs cf W got) = zDp W ∧ cs = cs ∧ ct = ct ∧ cf = cf ∧ cl = cl ∧ cp = cp ∧ th = th ∧ (1 : Int) = (1 : Int) ∧ zKey (tkX cs cf W got) = zKey W ∧ zSlow (tkX cs cf W got) = zSlow W ∧ zChain (tkX cs cf W got) = zChain W ∧ zSt (tkX cs cf W got) = (9 : Int) ∧ zOut (tkX cs cf W got) = zOut W ∧ zSk (tkX cs cf W got) = zSk W ∧ zSl (tkX cs cf W got) = zSl W ∧ zSh (tkX cs cf W got) = zSh W ∧ zSkey (tkX cs cf W got) = zSkey W ∧ zAt (tkX cs cf W got) = zAt W ∧ zCh (tkX cs cf W got) = got ∧ zK0 (tkX cs cf W got) = zK0 W ∧ zA0 (tkX cs cf W got) = zA0 W ∧ zB0 (tkX cs cf W got) = zB0 W ∧ zK1 (tkX cs cf W got) = zK1 W ∧ zA1 (tkX cs cf W got) = zA1 W ∧ zB1 (tkX cs cf W got) = zB1 W ∧ zMn (tkX cs cf W got) = (0 : Int) ∧ true = true)
theorem goalXt8_eq : goalXt8 = goalXt8V := by kernel_rfl
set_option maxHeartbeats 8000000 in
theorem goalXt8_vc : goalXt8V := by
 unfold goalXt8V
 intro cs ct cf cl cp th W got hi hg hs
 obtain ⟨i1, i2, i3, i4, ⟨i5, i6, i7, i8⟩, ⟨i9, i10⟩, ⟨i11, i12⟩, ⟨i13, i14⟩, ⟨i15, i16⟩⟩ := invX_iff.1 hi
 have hc := rightC_iff.1 i1
 have hg' := hg
 have i2' := i2
 have i4' := i4
 simp only [inU, vS, forall_const] at hg' i2' i4'
 simp only [zP, zPv, zPn, zI, zH, zV, zN, zInr, zDp, zKey, zSlow, zChain, zSt, zOut, zSk, zSl, zSh, zSkey, zAt, zCh, zK0, zA0, zB0, zK1, zA1, zB1, zMn] at hs
 simp only [vS, forall_const, zP, zPv, zPn, zI, zH, zV, zN, zInr, zDp, zKey, zSlow, zChain, zSt, zOut, zSk, zSl, zSh, zSkey, zAt, zCh, zK0, zA0, zB0, zK1, zA1, zB1, zMn]
 repeat' (first | (refine And.intro (fun _ => ?_) (fun _ => ?_)) | intro _)
 all_goals first
   | (exfalso; omega)
   | (unfold tkX
      (repeat' split) <;> first | contradiction | (exfalso; omega) | (exfalso; simp_all; done) | ((repeat' (apply And.intro)) <;> first | rfl | trivial | omega | exact Eq.symm (by assumption)))
   | (trace_state; fail)
theorem goalXt8_tt : (goalXt8) = True := goalXt8_eq.trans (eq_true goalXt8_vc)
theorem goalXt8_ok : goalXt8 := @ft' goalXt8 goalXt8_tt
def goalXt1V : Prop := (∀ (cs ct cf cl cp th : Int) (W : WkS) (got : Int), invX cs ct cf cl cp th W = true → yAnd (yLe 0 got) (yLt got 18446744073709551616) = true → zSt W = (1 : Int) → (yAnd (yLe 0 got) (yLt got 18446744073709551616) = true → (innC got = true → zP (tk1 W got) = zP W ∧ zPv (tk1 W got) = zPv W ∧ zPn (tk1 W got) = zPn W ∧ zI (tk1 W got) = zI W ∧ zH (tk1 W got) = zH W ∧ zV (tk1 W got) = zV W ∧ zN (tk1 W got) = zN W ∧ zInr (tk1 W got) = zInr W ∧ zDp (tk1 W got) = zDp W ∧ cs = cs ∧ ct = ct ∧ cf = cf ∧ cl = cl ∧ cp = cp ∧ th = th ∧ (1 : Int) = (1 : Int) ∧ zKey (tk1 W got) = zKey W ∧ zSlow (tk1 W got) = zSlow W ∧ zChain (tk1 W got) = zChain W ∧ zSt (tk1 W got) = (1 : Int) ∧ zOut (tk1 W got) = zOut W ∧ zSk (tk1 W got) = zSk W ∧ zSl (tk1 W got) = zSl W ∧ zSh (tk1 W got) = zSh W ∧ zSkey (tk1 W got) = zSkey W ∧ zAt (tk1 W got) = zAt W ∧ zCh (tk1 W got) = zCh W ∧ zK0 (tk1 W got) = zK0 W ∧ zA0 (tk1 W got) = zA0 W ∧ zB0 (tk1 W got) = zB0 W ∧ zK1 (tk1 W got) = zK1 W ∧ zA1 (tk1 W got) = zA1 W ∧ zB1 (tk1 W got) = zB1 W ∧ zMn (tk1 W got) = (0 : Int) ∧ true = true) ∧ (innC got = false → zP (tk1 W got) = zP W ∧ zPv (tk1 W got) = got ∧ zPn (tk1 W got) = (1 : Int) ∧ zI (tk1 W got) = zI W ∧ zH (tk1 W got) = zH W ∧ zV (tk1 W got) = zV W ∧ zN (tk1 W got) = zN W ∧ zInr (tk1 W got) = zInr W ∧ zDp (tk1 W got) = zDp W ∧ cs = cs ∧ ct = ct ∧ cf = cf ∧ cl = cl ∧ cp = cp ∧ th = th ∧ (1 : Int) = (1 : Int) ∧ zKey (tk1 W got) = zKey W ∧ zSlow (tk1 W got) = zSlow W ∧ zChain (tk1 W got) = zChain W ∧ zSt (tk1 W got) = (2 : Int) ∧ zOut (tk1 W got) = zOut W ∧ zSk (tk1 W got) = zSk W ∧ zSl (tk1 W got) = zSl W ∧ zSh (tk1 W got) = zSh W ∧ zSkey (tk1 W got) = zSkey W ∧ zAt (tk1 W got) = zAt W ∧ zCh (tk1 W got) = zCh W ∧ zK0 (tk1 W got) = (1 : Int) ∧ zA0 (tk1 W got) = (0 : Int) ∧ zB0 (tk1 W got) = got ∧ zK1 (tk1 W got) = zK1 W ∧ zA1 (tk1 W got) = zA1 W ∧ zB1 (tk1 W got) = zB1 W ∧ zMn (tk1 W got) = (1 : Int) ∧ true = true)) ∧ (yAnd (yLe 0 got) (yLt got 18446744073709551616) = false → False))
theorem goalXt1_eq : goalXt1 = goalXt1V := by kernel_rfl
set_option maxHeartbeats 8000000 in
theorem goalXt1_vc : goalXt1V := by
 unfold goalXt1V
 intro cs ct cf cl cp th W got hi hg hs
 obtain ⟨i1, i2, i3, i4, ⟨i5, i6, i7, i8⟩, ⟨i9, i10⟩, ⟨i11, i12⟩, ⟨i13, i14⟩, ⟨i15, i16⟩⟩ := invX_iff.1 hi
 have hc := rightC_iff.1 i1
 have hg' := hg
 have i2' := i2
 have i4' := i4
 simp only [inU, vS, forall_const] at hg' i2' i4'
 simp only [zP, zPv, zPn, zI, zH, zV, zN, zInr, zDp, zKey, zSlow, zChain, zSt, zOut, zSk, zSl, zSh, zSkey, zAt, zCh, zK0, zA0, zB0, zK1, zA1, zB1, zMn] at hs
 simp only [vS, forall_const, zP, zPv, zPn, zI, zH, zV, zN, zInr, zDp, zKey, zSlow, zChain, zSt, zOut, zSk, zSl, zSh, zSkey, zAt, zCh, zK0, zA0, zB0, zK1, zA1, zB1, zMn]
 repeat' (first | (refine And.intro (fun _ => ?_) (fun _ => ?_)) | intro _)
 all_goals first
   | (exfalso; omega)
   | (unfold tk1
      (repeat' split) <;> first | contradiction | (exfalso; omega) | (exfalso; simp_all; done) | ((repeat' (apply And.intro)) <;> first | rfl | trivial | omega | exact Eq.symm (by assumption)))
   | (trace_state; fail)
theorem goalXt1_tt : (goalXt1) = True := goalXt1_eq.trans (eq_true goalXt1_vc)
theorem goalXt1_ok : goalXt1 := @ft' goalXt1 goalXt1_tt
def goalXt2V : Prop := (∀ (cs ct cf cl cp th : Int) (W : WkS) (got : Int), invX cs ct cf cl cp th W = true → yAnd (yLe 0 got) (yLt got 18446744073709551616) = true → zSt W = (2 : Int) → (yAnd (yLe 0 got) (yLt got 18446744073709551616) = true → (yNot (hrC got cs) = true → zP (tk2 cs W got) = zP W ∧ zPv (tk2 cs W got) = zPv W ∧ zPn (tk2 cs W got) = zPn W ∧ zI (tk2 cs W got) = zI W ∧ zH (tk2 cs W got) = zH W ∧ zV (tk2 cs W got) = zV W ∧ zN (tk2 cs W got) = zN W ∧ zInr (tk2 cs W got) = zInr W ∧ zDp (tk2 cs W got) = zDp W ∧ cs = cs ∧ ct = ct ∧ cf = cf ∧ cl = cl ∧ cp = cp ∧ th = th ∧ (1 : Int) = (1 : Int) ∧ zKey (tk2 cs W got) = zKey W ∧ zSlow (tk2 cs W got) = zSlow W ∧ zChain (tk2 cs W got) = zChain W ∧ zSt (tk2 cs W got) = (0 : Int) ∧ zOut (tk2 cs W got) = (3 : Int) ∧ zSk (tk2 cs W got) = zSk W ∧ zSl (tk2 cs W got) = zSl W ∧ zSh (tk2 cs W got) = zSh W ∧ zSkey (tk2 cs W got) = zSkey W ∧ zAt (tk2 cs W got) = zAt W ∧ zCh (tk2 cs W got) = zCh W ∧ zK0 (tk2 cs W got) = zK0 W ∧ zA0 (tk2 cs W got) = zA0 W ∧ zB0 (tk2 cs W got) = zB0 W ∧ zK1 (tk2 cs W got) = zK1 W ∧ zA1 (tk2 cs W got) = zA1 W ∧ zB1 (tk2 cs W got) = zB1 W ∧ zMn (tk2 cs W got) = (0 : Int) ∧ true = true) ∧ (yNot (hrC got cs) = false → (zSlow W = true → zP (tk2 cs W got) = zP W ∧ zPv (tk2 cs W got) = zPv W ∧ zPn (tk2 cs W got) = zPn W ∧ zI (tk2 cs W got) = zI W ∧ zH (tk2 cs W got) = got ∧ zV (tk2 cs W got) = zV W ∧ zN (tk2 cs W got) = zN W ∧ zInr (tk2 cs W got) = zInr W ∧ zDp (tk2 cs W got) = zDp W ∧ cs = cs ∧ ct = ct ∧ cf = cf ∧ cl = cl ∧ cp = cp ∧ th = th ∧ (1 : Int) = (1 : Int) ∧ zKey (tk2 cs W got) = zKey W ∧ zSlow (tk2 cs W got) = zSlow W ∧ zChain (tk2 cs W got) = zChain W ∧ zSt (tk2 cs W got) = (3 : Int) ∧ zOut (tk2 cs W got) = zOut W ∧ zSk (tk2 cs W got) = zSk W ∧ zSl (tk2 cs W got) = zSl W ∧ zSh (tk2 cs W got) = zSh W ∧ zSkey (tk2 cs W got) = zSkey W ∧ zAt (tk2 cs W got) = zAt W ∧ zCh (tk2 cs W got) = zCh W ∧ zK0 (tk2 cs W got) = zK0 W ∧ zA0 (tk2 cs W got) = zA0 W ∧ zB0 (tk2 cs W got) = zB0 W ∧ zK1 (tk2 cs W got) = zK1 W ∧ zA1 (tk2 cs W got) = zA1 W ∧ zB1 (tk2 cs W got) = zB1 W ∧ zMn (tk2 cs W got) = (0 : Int) ∧ true = true) ∧ (zSlow W = false → zP (tk2 cs W got) = zP W ∧ zPv (tk2 cs W got) = zPv W ∧ zPn (tk2 cs W got) = zPn W ∧ zI (tk2 cs W got) = zI W ∧ zH (tk2 cs W got) = got ∧ zV (tk2 cs W got) = zV W ∧ zN (tk2 cs W got) = zN W ∧ zInr (tk2 cs W got) = zInr W ∧ zDp (tk2 cs W got) = zDp W ∧ cs = cs ∧ ct = ct ∧ cf = cf ∧ cl = cl ∧ cp = cp ∧ th = th ∧ (1 : Int) = (1 : Int) ∧ zKey (tk2 cs W got) = zKey W ∧ zSlow (tk2 cs W got) = zSlow W ∧ zChain (tk2 cs W got) = zChain W ∧ zSt (tk2 cs W got) = (4 : Int) ∧ zOut (tk2 cs W got) = zOut W ∧ zSk (tk2 cs W got) = zSk W ∧ zSl (tk2 cs W got) = zSl W ∧ zSh (tk2 cs W got) = zSh W ∧ zSkey (tk2 cs W got) = zSkey W ∧ zAt (tk2 cs W got) = zAt W ∧ zCh (tk2 cs W got) = zCh W ∧ zK0 (tk2 cs W got) = zK0 W ∧ zA0 (tk2 cs W got) = zA0 W ∧ zB0 (tk2 cs W got) = zB0 W ∧ zK1 (tk2 cs W got) = zK1 W ∧ zA1 (tk2 cs W got) = zA1 W ∧ zB1 (tk2 cs W got) = zB1 W ∧ zMn (tk2 cs W got) = (0 : Int) ∧ true = true))) ∧ (yAnd (yLe 0 got) (yLt got 18446744073709551616) = false → False))
theorem goalXt2_eq : goalXt2 = goalXt2V := by kernel_rfl
set_option maxHeartbeats 8000000 in
theorem goalXt2_vc : goalXt2V := by
 unfold goalXt2V
 intro cs ct cf cl cp th W got hi hg hs
 obtain ⟨i1, i2, i3, i4, ⟨i5, i6, i7, i8⟩, ⟨i9, i10⟩, ⟨i11, i12⟩, ⟨i13, i14⟩, ⟨i15, i16⟩⟩ := invX_iff.1 hi
 have hc := rightC_iff.1 i1
 have hg' := hg
 have i2' := i2
 have i4' := i4
 simp only [inU, vS, forall_const] at hg' i2' i4'
 simp only [zP, zPv, zPn, zI, zH, zV, zN, zInr, zDp, zKey, zSlow, zChain, zSt, zOut, zSk, zSl, zSh, zSkey, zAt, zCh, zK0, zA0, zB0, zK1, zA1, zB1, zMn] at hs
 simp only [vS, forall_const, zP, zPv, zPn, zI, zH, zV, zN, zInr, zDp, zKey, zSlow, zChain, zSt, zOut, zSk, zSl, zSh, zSkey, zAt, zCh, zK0, zA0, zB0, zK1, zA1, zB1, zMn]
 repeat' (first | (refine And.intro (fun _ => ?_) (fun _ => ?_)) | intro _)
 all_goals first
   | (exfalso; omega)
   | (unfold tk2 comesX
      (repeat' split) <;> first | contradiction | (exfalso; omega) | (exfalso; simp_all; done) | ((repeat' (apply And.intro)) <;> first | rfl | trivial | omega | exact Eq.symm (by assumption)))
   | (trace_state; fail)
theorem goalXt2_tt : (goalXt2) = True := goalXt2_eq.trans (eq_true goalXt2_vc)
theorem goalXt2_ok : goalXt2 := @ft' goalXt2 goalXt2_tt
def goalXt4V : Prop := (∀ (cs ct cf cl cp th : Int) (W : WkS) (got : Int), invX cs ct cf cl cp th W = true → yAnd (yLe 0 got) (yLt got 18446744073709551616) = true → zSt W = (4 : Int) → (yAnd (yAnd (yLe 0 (zH W)) (yLt (zH W) 18446744073709551616)) (yAnd (yLe 0 got) (yLt got 18446744073709551616)) = true → (yEq (beginC (zH W) got) (1 : Int) = true → zP (tk4 W got) = zP W ∧ zPv (tk4 W got) = zPv W ∧ zPn (tk4 W got) = zPn W ∧ zI (tk4 W got) = zI W ∧ zH (tk4 W got) = zH W ∧ zV (tk4 W got) = zV W ∧ zN (tk4 W got) = zN W ∧ zInr (tk4 W got) = zInr W ∧ zDp (tk4 W got) = zDp W ∧ cs = cs ∧ ct = ct ∧ cf = cf ∧ cl = cl ∧ cp = cp ∧ th = th ∧ (1 : Int) = (1 : Int) ∧ zKey (tk4 W got) = zKey W ∧ zSlow (tk4 W got) = zSlow W ∧ zChain (tk4 W got) = zChain W ∧ zSt (tk4 W got) = (0 : Int) ∧ zOut (tk4 W got) = (3 : Int) ∧ zSk (tk4 W got) = zSk W ∧ zSl (tk4 W got) = zSl W ∧ zSh (tk4 W got) = zSh W ∧ zSkey (tk4 W got) = zSkey W ∧ zAt (tk4 W got) = zAt W ∧ zCh (tk4 W got) = zCh W ∧ zK0 (tk4 W got) = zK0 W ∧ zA0 (tk4 W got) = zA0 W ∧ zB0 (tk4 W got) = zB0 W ∧ zK1 (tk4 W got) = zK1 W ∧ zA1 (tk4 W got) = zA1 W ∧ zB1 (tk4 W got) = zB1 W ∧ zMn (tk4 W got) = (0 : Int) ∧ true = true) ∧ (yEq (beginC (zH W) got) (1 : Int) = false → (yEq (beginC (zH W) got) (3 : Int) = true → zP (tk4 W got) = zP W ∧ zPv (tk4 W got) = zPv W ∧ zPn (tk4 W got) = zPn W ∧ zI (tk4 W got) = zI W ∧ zH (tk4 W got) = zH W ∧ zV (tk4 W got) = got ∧ zN (tk4 W got) = zN W ∧ zInr (tk4 W got) = zInr W ∧ zDp (tk4 W got) = zDp W ∧ cs = cs ∧ ct = ct ∧ cf = cf ∧ cl = cl ∧ cp = cp ∧ th = th ∧ (1 : Int) = (1 : Int) ∧ zKey (tk4 W got) = zKey W ∧ zSlow (tk4 W got) = zSlow W ∧ zChain (tk4 W got) = zChain W ∧ zSt (tk4 W got) = (5 : Int) ∧ zOut (tk4 W got) = zOut W ∧ zSk (tk4 W got) = zSk W ∧ zSl (tk4 W got) = zSl W ∧ zSh (tk4 W got) = zSh W ∧ zSkey (tk4 W got) = zSkey W ∧ zAt (tk4 W got) = zAt W ∧ zCh (tk4 W got) = zCh W ∧ zK0 (tk4 W got) = (1 : Int) ∧ zA0 (tk4 W got) = zH W ∧ zB0 (tk4 W got) = got ∧ zK1 (tk4 W got) = zK1 W ∧ zA1 (tk4 W got) = zA1 W ∧ zB1 (tk4 W got) = zB1 W ∧ zMn (tk4 W got) = (1 : Int) ∧ true = true) ∧ (yEq (beginC (zH W) got) (3 : Int) = false → zP (tk4 W got) = zP W ∧ zPv (tk4 W got) = zPv W ∧ zPn (tk4 W got) = zPn W ∧ zI (tk4 W got) = zI W ∧ zH (tk4 W got) = zH W ∧ zV (tk4 W got) = zV W ∧ zN (tk4 W got) = zN W ∧ zInr (tk4 W got) = zInr W ∧ zDp (tk4 W got) = zDp W ∧ cs = cs ∧ ct = ct ∧ cf = cf ∧ cl = cl ∧ cp = cp ∧ th = th ∧ (1 : Int) = (1 : Int) ∧ zKey (tk4 W got) = zKey W ∧ zSlow (tk4 W got) = zSlow W ∧ zChain (tk4 W got) = zChain W ∧ zSt (tk4 W got) = (4 : Int) ∧ zOut (tk4 W got) = zOut W ∧ zSk (tk4 W got) = zSk W ∧ zSl (tk4 W got) = zSl W ∧ zSh (tk4 W got) = zSh W ∧ zSkey (tk4 W got) = zSkey W ∧ zAt (tk4 W got) = zAt W ∧ zCh (tk4 W got) = zCh W ∧ zK0 (tk4 W got) = zK0 W ∧ zA0 (tk4 W got) = zA0 W ∧ zB0 (tk4 W got) = zB0 W ∧ zK1 (tk4 W got) = zK1 W ∧ zA1 (tk4 W got) = zA1 W ∧ zB1 (tk4 W got) = zB1 W ∧ zMn (tk4 W got) = (0 : Int) ∧ true = true))) ∧ (yAnd (yAnd (yLe 0 (zH W)) (yLt (zH W) 18446744073709551616)) (yAnd (yLe 0 got) (yLt got 18446744073709551616)) = false → False))
theorem goalXt4_eq : goalXt4 = goalXt4V := by kernel_rfl
set_option maxHeartbeats 8000000 in
theorem goalXt4_vc : goalXt4V := by
 unfold goalXt4V
 intro cs ct cf cl cp th W got hi hg hs
 obtain ⟨i1, i2, i3, i4, ⟨i5, i6, i7, i8⟩, ⟨i9, i10⟩, ⟨i11, i12⟩, ⟨i13, i14⟩, ⟨i15, i16⟩⟩ := invX_iff.1 hi
 have hc := rightC_iff.1 i1
 have hg' := hg
 have i2' := i2
 have i4' := i4
 simp only [inU, vS, forall_const] at hg' i2' i4'
 simp only [zP, zPv, zPn, zI, zH, zV, zN, zInr, zDp, zKey, zSlow, zChain, zSt, zOut, zSk, zSl, zSh, zSkey, zAt, zCh, zK0, zA0, zB0, zK1, zA1, zB1, zMn] at hs
 simp only [vS, forall_const, zP, zPv, zPn, zI, zH, zV, zN, zInr, zDp, zKey, zSlow, zChain, zSt, zOut, zSk, zSl, zSh, zSkey, zAt, zCh, zK0, zA0, zB0, zK1, zA1, zB1, zMn]
 repeat' (first | (refine And.intro (fun _ => ?_) (fun _ => ?_)) | intro _)
 all_goals first
   | (exfalso; omega)
   | (unfold tk4
      (repeat' split) <;> first | contradiction | (exfalso; omega) | (exfalso; simp_all; done) | ((repeat' (apply And.intro)) <;> first | rfl | trivial | omega | exact Eq.symm (by assumption)))
   | (trace_state; fail)
theorem goalXt4_tt : (goalXt4) = True := goalXt4_eq.trans (eq_true goalXt4_vc)
theorem goalXt4_ok : goalXt4 := @ft' goalXt4 goalXt4_tt
def goalXt5V : Prop := (∀ (cs ct cf cl cp th : Int) (W : WkS) (got : Int), invX cs ct cf cl cp th W = true → yAnd (yLe 0 got) (yLt got 18446744073709551616) = true → zSt W = (5 : Int) → (yEq got (zPv W) = true → (zSlow W = true → zP (tk5 W got) = zP W ∧ zPv (tk5 W got) = zPv W ∧ zPn (tk5 W got) = zPn W ∧ zI (tk5 W got) = zI W ∧ zH (tk5 W got) = zH W ∧ zV (tk5 W got) = zV W ∧ zN (tk5 W got) = zN W ∧ zInr (tk5 W got) = zInr W ∧ zDp (tk5 W got) = zDp W ∧ cs = cs ∧ ct = ct ∧ cf = cf ∧ cl = cl ∧ cp = cp ∧ th = th ∧ (1 : Int) = (1 : Int) ∧ zKey (tk5 W got) = zKey W ∧ zSlow (tk5 W got) = zSlow W ∧ zChain (tk5 W got) = zChain W ∧ zSt (tk5 W got) = (6 : Int) ∧ zOut (tk5 W got) = zOut W ∧ zSk (tk5 W got) = zSk W ∧ zSl (tk5 W got) = zSl W ∧ zSh (tk5 W got) = zSh W ∧ zSkey (tk5 W got) = zSkey W ∧ zAt (tk5 W got) = zAt W ∧ zCh (tk5 W got) = zCh W ∧ zK0 (tk5 W got) = (2 : Int) ∧ zA0 (tk5 W got) = zP W ∧ zB0 (tk5 W got) = (0 : Int) ∧ zK1 (tk5 W got) = (4 : Int) ∧ zA1 (tk5 W got) = zH W ∧ zB1 (tk5 W got) = (0 : Int) ∧ zMn (tk5 W got) = (2 : Int) ∧ true = true) ∧ (zSlow W = false → zP (tk5 W got) = zP W ∧ zPv (tk5 W got) = zPv W ∧ zPn (tk5 W got) = zPn W ∧ zI (tk5 W got) = zI W ∧ zH (tk5 W got) = zH W ∧ zV (tk5 W got) = zV W ∧ zN (tk5 W got) = zN W ∧ zInr (tk5 W got) = zInr W ∧ zDp (tk5 W got) = zDp W ∧ cs = cs ∧ ct = ct ∧ cf = cf ∧ cl = cl ∧ cp = cp ∧ th = th ∧ (1 : Int) = (1 : Int) ∧ zKey (tk5 W got) = zKey W ∧ zSlow (tk5 W got) = zSlow W ∧ zChain (tk5 W got) = zChain W ∧ zSt (tk5 W got) = (6 : Int) ∧ zOut (tk5 W got) = zOut W ∧ zSk (tk5 W got) = zSk W ∧ zSl (tk5 W got) = zSl W ∧ zSh (tk5 W got) = zSh W ∧ zSkey (tk5 W got) = zSkey W ∧ zAt (tk5 W got) = zAt W ∧ zCh (tk5 W got) = zCh W ∧ zK0 (tk5 W got) = (2 : Int) ∧ zA0 (tk5 W got) = zP W ∧ zB0 (tk5 W got) = (0 : Int) ∧ zK1 (tk5 W got) = zK1 W ∧ zA1 (tk5 W got) = zA1 W ∧ zB1 (tk5 W got) = zB1 W ∧ zMn (tk5 W got) = (1 : Int) ∧ true = true)) ∧ (yEq got (zPv W) = false → zP (tk5 W got) = zP W ∧ zPv (tk5 W got) = zPv W ∧ zPn (tk5 W got) = zPn W ∧ zI (tk5 W got) = zI W ∧ zH (tk5 W got) = zH W ∧ zV (tk5 W got) = zV W ∧ zN (tk5 W got) = zN W ∧ zInr (tk5 W got) = zInr W ∧ zDp (tk5 W got) = zDp W ∧ cs = cs ∧ ct = ct ∧ cf = cf ∧ cl = cl ∧ cp = cp ∧ th = th ∧ (1 : Int) = (1 : Int) ∧ zKey (tk5 W got) = zKey W ∧ zSlow (tk5 W got) = zSlow W ∧ zChain (tk5 W got) = zChain W ∧ zSt (tk5 W got) = (0 : Int) ∧ zOut (tk5 W got) = (3 : Int) ∧ zSk (tk5 W got) = zSk W ∧ zSl (tk5 W got) = zSl W ∧ zSh (tk5 W got) = zSh W ∧ zSkey (tk5 W got) = zSkey W ∧ zAt (tk5 W got) = zAt W ∧ zCh (tk5 W got) = zCh W ∧ zK0 (tk5 W got) = (3 : Int) ∧ zA0 (tk5 W got) = zP W ∧ zB0 (tk5 W got) = (0 : Int) ∧ zK1 (tk5 W got) = zK1 W ∧ zA1 (tk5 W got) = zA1 W ∧ zB1 (tk5 W got) = zB1 W ∧ zMn (tk5 W got) = (1 : Int) ∧ true = true))
theorem goalXt5_eq : goalXt5 = goalXt5V := by kernel_rfl
set_option maxHeartbeats 8000000 in
theorem goalXt5_vc : goalXt5V := by
 unfold goalXt5V
 intro cs ct cf cl cp th W got hi hg hs
 obtain ⟨i1, i2, i3, i4, ⟨i5, i6, i7, i8⟩, ⟨i9, i10⟩, ⟨i11, i12⟩, ⟨i13, i14⟩, ⟨i15, i16⟩⟩ := invX_iff.1 hi
 have hc := rightC_iff.1 i1
 have hg' := hg
 have i2' := i2
 have i4' := i4
 simp only [inU, vS, forall_const] at hg' i2' i4'
 simp only [zP, zPv, zPn, zI, zH, zV, zN, zInr, zDp, zKey, zSlow, zChain, zSt, zOut, zSk, zSl, zSh, zSkey, zAt, zCh, zK0, zA0, zB0, zK1, zA1, zB1, zMn] at hs
 simp only [vS, forall_const, zP, zPv, zPn, zI, zH, zV, zN, zInr, zDp, zKey, zSlow, zChain, zSt, zOut, zSk, zSl, zSh, zSkey, zAt, zCh, zK0, zA0, zB0, zK1, zA1, zB1, zMn]
 repeat' (first | (refine And.intro (fun _ => ?_) (fun _ => ?_)) | intro _)
 all_goals first
   | (exfalso; omega)
   | (unfold tk5
      (repeat' split) <;> first | contradiction | (exfalso; omega) | (exfalso; simp_all; done) | ((repeat' (apply And.intro)) <;> first | rfl | trivial | omega | exact Eq.symm (by assumption)))
   | (trace_state; fail)
theorem goalXt5_tt : (goalXt5) = True := goalXt5_eq.trans (eq_true goalXt5_vc)
theorem goalXt5_ok : goalXt5 := @ft' goalXt5 goalXt5_tt
def goalXt9V : Prop := (∀ (cs ct cf cl cp th : Int) (W : WkS) (got : Int), invX cs ct cf cl cp th W = true → yAnd (yLe 0 got) (yLt got 18446744073709551616) = true → zSt W = (9 : Int) → (yEq got (zV W) = true → (yAnd (yLe 0 (zCh W)) (yLt (zCh W) 18446744073709551616) = true → (yNot (hrC (zCh W) cs) = true → zP (tk9 cs W got) = zH W ∧ zPv (tk9 cs W got) = zV W ∧ zPn (tk9 cs W got) = zN W ∧ zI (tk9 cs W got) = zAt W ∧ zH (tk9 cs W got) = zH W ∧ zV (tk9 cs W got) = zV W ∧ zN (tk9 cs W got) = zN W ∧ zInr (tk9 cs W got) = zInr W ∧ zDp (tk9 cs W got) = yWrap IntKind.i64 (yAdd (zDp W) 1) ∧ cs = cs ∧ ct = ct ∧ cf = cf ∧ cl = cl ∧ cp = cp ∧ th = th ∧ (1 : Int) = (1 : Int) ∧ zKey (tk9 cs W got) = zKey W ∧ zSlow (tk9 cs W got) = zSlow W ∧ zChain (tk9 cs W got) = zChain W ∧ zSt (tk9 cs W got) = (0 : Int) ∧ zOut (tk9 cs W got) = (3 : Int) ∧ zSk (tk9 cs W got) = zSk W ∧ zSl (tk9 cs W got) = zSl W ∧ zSh (tk9 cs W got) = zSh W ∧ zSkey (tk9 cs W got) = zSkey W ∧ zAt (tk9 cs W got) = zAt W ∧ zCh (tk9 cs W got) = zCh W ∧ zK0 (tk9 cs W got) = (2 : Int) ∧ zA0 (tk9 cs W got) = zH W ∧ zB0 (tk9 cs W got) = (0 : Int) ∧ zK1 (tk9 cs W got) = zK1 W ∧ zA1 (tk9 cs W got) = zA1 W ∧ zB1 (tk9 cs W got) = zB1 W ∧ zMn (tk9 cs W got) = (1 : Int) ∧ true = true) ∧ (yNot (hrC (zCh W) cs) = false → (zSlow W = true → zP (tk9 cs W got) = zH W ∧ zPv (tk9 cs W got) = zV W ∧ zPn (tk9 cs W got) = zN W ∧ zI (tk9 cs W got) = zAt W ∧ zH (tk9 cs W got) = zCh W ∧ zV (tk9 cs W got) = zV W ∧ zN (tk9 cs W got) = zN W ∧ zInr (tk9 cs W got) = zInr W ∧ zDp (tk9 cs W got) = yWrap IntKind.i64 (yAdd (zDp W) 1) ∧ cs = cs ∧ ct = ct ∧ cf = cf ∧ cl = cl ∧ cp = cp ∧ th = th ∧ (1 : Int) = (1 : Int) ∧ zKey (tk9 cs W got) = zKey W ∧ zSlow (tk9 cs W got) = zSlow W ∧ zChain (tk9 cs W got) = zChain W ∧ zSt (tk9 cs W got) = (3 : Int) ∧ zOut (tk9 cs W got) = zOut W ∧ zSk (tk9 cs W got) = zSk W ∧ zSl (tk9 cs W got) = zSl W ∧ zSh (tk9 cs W got) = zSh W ∧ zSkey (tk9 cs W got) = zSkey W ∧ zAt (tk9 cs W got) = zAt W ∧ zCh (tk9 cs W got) = zCh W ∧ zK0 (tk9 cs W got) = (2 : Int) ∧ zA0 (tk9 cs W got) = zH W ∧ zB0 (tk9 cs W got) = (0 : Int) ∧ zK1 (tk9 cs W got) = zK1 W ∧ zA1 (tk9 cs W got) = zA1 W ∧ zB1 (tk9 cs W got) = zB1 W ∧ zMn (tk9 cs W got) = (1 : Int) ∧ true = true) ∧ (zSlow W = false → zP (tk9 cs W got) = zH W ∧ zPv (tk9 cs W got) = zV W ∧ zPn (tk9 cs W got) = zN W ∧ zI (tk9 cs W got) = zAt W ∧ zH (tk9 cs W got) = zCh W ∧ zV (tk9 cs W got) = zV W ∧ zN (tk9 cs W got) = zN W ∧ zInr (tk9 cs W got) = zInr W ∧ zDp (tk9 cs W got) = yWrap IntKind.i64 (yAdd (zDp W) 1) ∧ cs = cs ∧ ct = ct ∧ cf = cf ∧ cl = cl ∧ cp = cp ∧ th = th ∧ (1 : Int) = (1 : Int) ∧ zKey (tk9 cs W got) = zKey W ∧ zSlow (tk9 cs W got) = zSlow W ∧ zChain (tk9 cs W got) = zChain W ∧ zSt (tk9 cs W got) = (4 : Int) ∧ zOut (tk9 cs W got) = zOut W ∧ zSk (tk9 cs W got) = zSk W ∧ zSl (tk9 cs W got) = zSl W ∧ zSh (tk9 cs W got) = zSh W ∧ zSkey (tk9 cs W got) = zSkey W ∧ zAt (tk9 cs W got) = zAt W ∧ zCh (tk9 cs W got) = zCh W ∧ zK0 (tk9 cs W got) = (2 : Int) ∧ zA0 (tk9 cs W got) = zH W ∧ zB0 (tk9 cs W got) = (0 : Int) ∧ zK1 (tk9 cs W got) = zK1 W ∧ zA1 (tk9 cs W got) = zA1 W ∧ zB1 (tk9 cs W got) = zB1 W ∧ zMn (tk9 cs W got) = (1 : Int) ∧ true = true))) ∧ (yAnd (yLe 0 (zCh W)) (yLt (zCh W) 18446744073709551616) = false → False)) ∧ (yEq got (zV W) = false → zP (tk9 cs W got) = zP W ∧ zPv (tk9 cs W got) = zPv W ∧ zPn (tk9 cs W got) = zPn W ∧ zI (tk9 cs W got) = zI W ∧ zH (tk9 cs W got) = zH W ∧ zV (tk9 cs W got) = zV W ∧ zN (tk9 cs W got) = zN W ∧ zInr (tk9 cs W got) = zInr W ∧ zDp (tk9 cs W got) = zDp W ∧ cs = cs ∧ ct = ct ∧ cf = cf ∧ cl = cl ∧ cp = cp ∧ th = th ∧ (1 : Int) = (1 : Int) ∧ zKey (tk9 cs W got) = zKey W ∧ zSlow (tk9 cs W got) = zSlow W ∧ zChain (tk9 cs W got) = zChain W ∧ zSt (tk9 cs W got) = (0 : Int) ∧ zOut (tk9 cs W got) = (3 : Int) ∧ zSk (tk9 cs W got) = zSk W ∧ zSl (tk9 cs W got) = zSl W ∧ zSh (tk9 cs W got) = zSh W ∧ zSkey (tk9 cs W got) = zSkey W ∧ zAt (tk9 cs W got) = zAt W ∧ zCh (tk9 cs W got) = zCh W ∧ zK0 (tk9 cs W got) = (3 : Int) ∧ zA0 (tk9 cs W got) = zH W ∧ zB0 (tk9 cs W got) = (0 : Int) ∧ zK1 (tk9 cs W got) = zK1 W ∧ zA1 (tk9 cs W got) = zA1 W ∧ zB1 (tk9 cs W got) = zB1 W ∧ zMn (tk9 cs W got) = (1 : Int) ∧ true = true))
theorem goalXt9_eq : goalXt9 = goalXt9V := by kernel_rfl
set_option maxHeartbeats 8000000 in
theorem goalXt9_vc : goalXt9V := by
 unfold goalXt9V
 intro cs ct cf cl cp th W got hi hg hs
 obtain ⟨i1, i2, i3, i4, ⟨i5, i6, i7, i8⟩, ⟨i9, i10⟩, ⟨i11, i12⟩, ⟨i13, i14⟩, ⟨i15, i16⟩⟩ := invX_iff.1 hi
 have hc := rightC_iff.1 i1
 have hg' := hg
 have i2' := i2
 have i4' := i4
 simp only [inU, vS, forall_const] at hg' i2' i4'
 simp only [zP, zPv, zPn, zI, zH, zV, zN, zInr, zDp, zKey, zSlow, zChain, zSt, zOut, zSk, zSl, zSh, zSkey, zAt, zCh, zK0, zA0, zB0, zK1, zA1, zB1, zMn] at hs
 have ew : yWrap .i64 (W.dp + 1) = W.dp + 1 := wrap64 (by omega) (by omega)
 simp only [vS, forall_const, zP, zPv, zPn, zI, zH, zV, zN, zInr, zDp, zKey, zSlow, zChain, zSt, zOut, zSk, zSl, zSh, zSkey, zAt, zCh, zK0, zA0, zB0, zK1, zA1, zB1, zMn, ew]
 repeat' (first | (refine And.intro (fun _ => ?_) (fun _ => ?_)) | intro _)
 all_goals first
   | (exfalso; omega)
   | (unfold tk9 comesX
      (repeat' split) <;> first | contradiction | (exfalso; omega) | (exfalso; simp_all; done) | ((repeat' (apply And.intro)) <;> first | rfl | trivial | omega | exact Eq.symm (by assumption)))
   | (trace_state; fail)
theorem goalXt9_tt : (goalXt9) = True := goalXt9_eq.trans (eq_true goalXt9_vc)
theorem goalXt9_ok : goalXt9 := @ft' goalXt9 goalXt9_tt
def goalXt6V : Prop := (∀ (cs ct cf cl cp th : Int) (W : WkS) (got : Int), invX cs ct cf cl cp th W = true → yAnd (yLe 0 got) (yLt got 18446744073709551616) = true → zSt W = (6 : Int) → (yAnd (yLe 0 got) (yLt got 18446744073709551616) = true → (yAnd (yLe 0 got) (yLt got 18446744073709551616) = true → (yNot (innC got) = true → zP (tk6 cf W got) = zP W ∧ zPv (tk6 cf W got) = zPv W ∧ zPn (tk6 cf W got) = zPn W ∧ zI (tk6 cf W got) = zI W ∧ zH (tk6 cf W got) = zH W ∧ zV (tk6 cf W got) = zV W ∧ zN (tk6 cf W got) = entC got cf ∧ zInr (tk6 cf W got) = innC got ∧ zDp (tk6 cf W got) = zDp W ∧ cs = cs ∧ ct = ct ∧ cf = cf ∧ cl = cl ∧ cp = cp ∧ th = th ∧ (1 : Int) = (1 : Int) ∧ zKey (tk6 cf W got) = zKey W ∧ zSlow (tk6 cf W got) = zSlow W ∧ zChain (tk6 cf W got) = zChain W ∧ zSt (tk6 cf W got) = (0 : Int) ∧ zOut (tk6 cf W got) = (1 : Int) ∧ zSk (tk6 cf W got) = zSk W ∧ zSl (tk6 cf W got) = zSl W ∧ zSh (tk6 cf W got) = zSh W ∧ zSkey (tk6 cf W got) = zSkey W ∧ zAt (tk6 cf W got) = zAt W ∧ zCh (tk6 cf W got) = zCh W ∧ zK0 (tk6 cf W got) = zK0 W ∧ zA0 (tk6 cf W got) = zA0 W ∧ zB0 (tk6 cf W got) = zB0 W ∧ zK1 (tk6 cf W got) = zK1 W ∧ zA1 (tk6 cf W got) = zA1 W ∧ zB1 (tk6 cf W got) = zB1 W ∧ zMn (tk6 cf W got) = (0 : Int) ∧ true = true) ∧ (yNot (innC got) = false → (zChain W = true → zP (tk6 cf W got) = zP W ∧ zPv (tk6 cf W got) = zPv W ∧ zPn (tk6 cf W got) = zPn W ∧ zI (tk6 cf W got) = zI W ∧ zH (tk6 cf W got) = zH W ∧ zV (tk6 cf W got) = zV W ∧ zN (tk6 cf W got) = entC got cf ∧ zInr (tk6 cf W got) = innC got ∧ zDp (tk6 cf W got) = zDp W ∧ cs = cs ∧ ct = ct ∧ cf = cf ∧ cl = cl ∧ cp = cp ∧ th = th ∧ (1 : Int) = (1 : Int) ∧ zKey (tk6 cf W got) = zKey W ∧ zSlow (tk6 cf W got) = zSlow W ∧ zChain (tk6 cf W got) = zChain W ∧ zSt (tk6 cf W got) = (0 : Int) ∧ zOut (tk6 cf W got) = (3 : Int) ∧ zSk (tk6 cf W got) = zSk W ∧ zSl (tk6 cf W got) = zSl W ∧ zSh (tk6 cf W got) = zSh W ∧ zSkey (tk6 cf W got) = zSkey W ∧ zAt (tk6 cf W got) = zAt W ∧ zCh (tk6 cf W got) = zCh W ∧ zK0 (tk6 cf W got) = zK0 W ∧ zA0 (tk6 cf W got) = zA0 W ∧ zB0 (tk6 cf W got) = zB0 W ∧ zK1 (tk6 cf W got) = zK1 W ∧ zA1 (tk6 cf W got) = zA1 W ∧ zB1 (tk6 cf W got) = zB1 W ∧ zMn (tk6 cf W got) = (0 : Int) ∧ true = true) ∧ (zChain W = false → (yLt (yWrap IntKind.i64 (ySub (ySel (yLt 1 (entC got cf)) (entC got cf) 1) 1)) (0 : Int) = true → zP (tk6 cf W got) = zP W ∧ zPv (tk6 cf W got) = zPv W ∧ zPn (tk6 cf W got) = zPn W ∧ zI (tk6 cf W got) = zI W ∧ zH (tk6 cf W got) = zH W ∧ zV (tk6 cf W got) = zV W ∧ zN (tk6 cf W got) = ySel (yLt 1 (entC got cf)) (entC got cf) 1 ∧ zInr (tk6 cf W got) = innC got ∧ zDp (tk6 cf W got) = zDp W ∧ cs = cs ∧ ct = ct ∧ cf = cf ∧ cl = cl ∧ cp = cp ∧ th = th ∧ (1 : Int) = (1 : Int) ∧ zKey (tk6 cf W got) = zKey W ∧ zSlow (tk6 cf W got) = zSlow W ∧ zChain (tk6 cf W got) = zChain W ∧ zSt (tk6 cf W got) = (8 : Int) ∧ zOut (tk6 cf W got) = zOut W ∧ zSk (tk6 cf W got) = (2 : Int) ∧ zSl (tk6 cf W got) = (0 : Int) ∧ zSh (tk6 cf W got) = (0 : Int) ∧ zSkey (tk6 cf W got) = zKey W ∧ zAt (tk6 cf W got) = (0 : Int) ∧ zCh (tk6 cf W got) = zCh W ∧ zK0 (tk6 cf W got) = zK0 W ∧ zA0 (tk6 cf W got) = zA0 W ∧ zB0 (tk6 cf W got) = zB0 W ∧ zK1 (tk6 cf W got) = zK1 W ∧ zA1 (tk6 cf W got) = zA1 W ∧ zB1 (tk6 cf W got) = zB1 W ∧ zMn (tk6 cf W got) = (0 : Int) ∧ true = true) ∧ (yLt (yWrap IntKind.i64 (ySub (ySel (yLt 1 (entC got cf)) (entC got cf) 1) 1)) (0 : Int) = false → (yLe (yWrap IntKind.i64 (ySub (ySel (yLt 1 (entC got cf)) (entC got cf) 1) 1)) (0 : Int) = true → zP (tk6 cf W got) = zP W ∧ zPv (tk6 cf W got) = zPv W ∧ zPn (tk6 cf W got) = zPn W ∧ zI (tk6 cf W got) = zI W ∧ zH (tk6 cf W got) = zH W ∧ zV (tk6 cf W got) = zV W ∧ zN (tk6 cf W got) = ySel (yLt 1 (entC got cf)) (entC got cf) 1 ∧ zInr (tk6 cf W got) = innC got ∧ zDp (tk6 cf W got) = zDp W ∧ cs = cs ∧ ct = ct ∧ cf = cf ∧ cl = cl ∧ cp = cp ∧ th = th ∧ (1 : Int) = (1 : Int) ∧ zKey (tk6 cf W got) = zKey W ∧ zSlow (tk6 cf W got) = zSlow W ∧ zChain (tk6 cf W got) = zChain W ∧ zSt (tk6 cf W got) = (8 : Int) ∧ zOut (tk6 cf W got) = zOut W ∧ zSk (tk6 cf W got) = (2 : Int) ∧ zSl (tk6 cf W got) = (0 : Int) ∧ zSh (tk6 cf W got) = yWrap IntKind.i64 (ySub (ySel (yLt 1 (entC got cf)) (entC got cf) 1) 1) ∧ zSkey (tk6 cf W got) = zKey W ∧ zAt (tk6 cf W got) = (0 : Int) ∧ zCh (tk6 cf W got) = zCh W ∧ zK0 (tk6 cf W got) = zK0 W ∧ zA0 (tk6 cf W got) = zA0 W ∧ zB0 (tk6 cf W got) = zB0 W ∧ zK1 (tk6 cf W got) = zK1 W ∧ zA1 (tk6 cf W got) = zA1 W ∧ zB1 (tk6 cf W got) = zB1 W ∧ zMn (tk6 cf W got) = (0 : Int) ∧ true = true) ∧ (yLe (yWrap IntKind.i64 (ySub (ySel (yLt 1 (entC got cf)) (entC got cf) 1) 1)) (0 : Int) = false → (yEq 2 (0 : Int) = true → False) ∧ (yEq 2 (0 : Int) = false → (yLt (yWrap IntKind.i64 (yAdd 0 (yQuo IntKind.i64 (yWrap IntKind.i64 (ySub (yWrap IntKind.i64 (ySub (ySel (yLt 1 (entC got cf)) (entC got cf) 1) 1)) 0)) 2))) (0 : Int) = true → zP (tk6 cf W got) = zP W ∧ zPv (tk6 cf W got) = zPv W ∧ zPn (tk6 cf W got) = zPn W ∧ zI (tk6 cf W got) = zI W ∧ zH (tk6 cf W got) = zH W ∧ zV (tk6 cf W got) = zV W ∧ zN (tk6 cf W got) = ySel (yLt 1 (entC got cf)) (entC got cf) 1 ∧ zInr (tk6 cf W got) = innC got ∧ zDp (tk6 cf W got) = zDp W ∧ cs = cs ∧ ct = ct ∧ cf = cf ∧ cl = cl ∧ cp = cp ∧ th = th ∧ (1 : Int) = (1 : Int) ∧ zKey (tk6 cf W got) = zKey W ∧ zSlow (tk6 cf W got) = zSlow W ∧ zChain (tk6 cf W got) = zChain W ∧ zSt (tk6 cf W got) = (8 : Int) ∧ zOut (tk6 cf W got) = zOut W ∧ zSk (tk6 cf W got) = (2 : Int) ∧ zSl (tk6 cf W got) = (0 : Int) ∧ zSh (tk6 cf W got) = yWrap IntKind.i64 (ySub (ySel (yLt 1 (entC got cf)) (entC got cf) 1) 1) ∧ zSkey (tk6 cf W got) = zKey W ∧ zAt (tk6 cf W got) = (0 : Int) ∧ zCh (tk6 cf W got) = zCh W ∧ zK0 (tk6 cf W got) = zK0 W ∧ zA0 (tk6 cf W got) = zA0 W ∧ zB0 (tk6 cf W got) = zB0 W ∧ zK1 (tk6 cf W got) = zK1 W ∧ zA1 (tk6 cf W got) = zA1 W ∧ zB1 (tk6 cf W got) = zB1 W ∧ zMn (tk6 cf W got) = (0 : Int) ∧ true = true) ∧ (yLt (yWrap IntKind.i64 (yAdd 0 (yQuo IntKind.i64 (yWrap IntKind.i64 (ySub (yWrap IntKind.i64 (ySub (ySel (yLt 1 (entC got cf)) (entC got cf) 1) 1)) 0)) 2))) (0 : Int) = false → zP (tk6 cf W got) = zP W ∧ zPv (tk6 cf W got) = zPv W ∧ zPn (tk6 cf W got) = zPn W ∧ zI (tk6 cf W got) = zI W ∧ zH (tk6 cf W got) = zH W ∧ zV (tk6 cf W got) = zV W ∧ zN (tk6 cf W got) = ySel (yLt 1 (entC got cf)) (entC got cf) 1 ∧ zInr (tk6 cf W got) = innC got ∧ zDp (tk6 cf W got) = zDp W ∧ cs = cs ∧ ct = ct ∧ cf = cf ∧ cl = cl ∧ cp = cp ∧ th = th ∧ (1 : Int) = (1 : Int) ∧ zKey (tk6 cf W got) = zKey W ∧ zSlow (tk6 cf W got) = zSlow W ∧ zChain (tk6 cf W got) = zChain W ∧ zSt (tk6 cf W got) = (7 : Int) ∧ zOut (tk6 cf W got) = zOut W ∧ zSk (tk6 cf W got) = (2 : Int) ∧ zSl (tk6 cf W got) = (0 : Int) ∧ zSh (tk6 cf W got) = yWrap IntKind.i64 (ySub (ySel (yLt 1 (entC got cf)) (entC got cf) 1) 1) ∧ zSkey (tk6 cf W got) = zKey W ∧ zAt (tk6 cf W got) = zAt W ∧ zCh (tk6 cf W got) = zCh W ∧ zK0 (tk6 cf W got) = zK0 W ∧ zA0 (tk6 cf W got) = zA0 W ∧ zB0 (tk6 cf W got) = zB0 W ∧ zK1 (tk6 cf W got) = zK1 W ∧ zA1 (tk6 cf W got) = zA1 W ∧ zB1 (tk6 cf W got) = zB1 W ∧ zMn (tk6 cf W got) = (0 : Int) ∧ true = true))))))) ∧ (yAnd (yLe 0 got) (yLt got 18446744073709551616) = false → False)) ∧ (yAnd (yLe 0 got) (yLt got 18446744073709551616) = false → False))
theorem goalXt6_eq : goalXt6 = goalXt6V := by kernel_rfl
set_option maxHeartbeats 8000000 in
theorem goalXt6_vc : goalXt6V := by
 unfold goalXt6V
 intro cs ct cf cl cp th W got hi hg hs
 obtain ⟨i1, i2, i3, i4, ⟨i5, i6, i7, i8⟩, ⟨i9, i10⟩, ⟨i11, i12⟩, ⟨i13, i14⟩, ⟨i15, i16⟩⟩ := invX_iff.1 hi
 have hc := rightC_iff.1 i1
 have hg' := hg
 have i2' := i2
 have i4' := i4
 simp only [inU, vS, forall_const] at hg' i2' i4'
 simp only [zP, zPv, zPn, zI, zH, zV, zN, zInr, zDp, zKey, zSlow, zChain, zSt, zOut, zSk, zSl, zSh, zSkey, zAt, zCh, zK0, zA0, zB0, zK1, zA1, zB1, zMn] at hs
 obtain ⟨e1, e2⟩ := entX (w := got) (f := cf) hg'.1 (by omega)
 obtain ⟨m, hm2⟩ : ∃ m, (if entC got cf < 1 then 1 else entC got cf) = m := ⟨_, rfl⟩
 have hm : ySel (yLt 1 (entC got cf)) (entC got cf) 1 = m := max1.trans hm2
 have m1 : 1 ≤ m ∧ m ≤ 64 := by rw [← hm2]; split <;> omega
 have m2 : yWrap .i64 (ySub m 1) = m - 1 := wrap64 (n := m - 1) (by omega) (by omega)
 have m3 : yWrap .i64 (ySub (m - 1) 0) = m - 1 := (wrap64 (n := m - 1 - 0) (by omega) (by omega)).trans (by omega)
 simp only [hm, m2, m3]
 simp only [vS, forall_const, zP, zPv, zPn, zI, zH, zV, zN, zInr, zDp, zKey, zSlow, zChain, zSt, zOut, zSk, zSl, zSh, zSkey, zAt, zCh, zK0, zA0, zB0, zK1, zA1, zB1, zMn]
 repeat' (first | (refine And.intro (fun _ => ?_) (fun _ => ?_)) | intro _)
 all_goals (try simp (disch := omega) only [wrap64, quo2] at *)
 all_goals first
   | (exfalso; omega)
   | (unfold tk6 onX searchedX; simp only [hm2]
      (repeat' split) <;> first | contradiction | (exfalso; omega) | (exfalso; simp_all; done) | ((repeat' (apply And.intro)) <;> first | rfl | trivial | omega | exact Eq.symm (by assumption)))
   | (trace_state; fail)
theorem goalXt6_tt : (goalXt6) = True := goalXt6_eq.trans (eq_true goalXt6_vc)
theorem goalXt6_ok : goalXt6 := @ft' goalXt6 goalXt6_tt
def goalXt7V : Prop := (∀ (cs ct cf cl cp th : Int) (W : WkS) (got : Int), invX cs ct cf cl cp th W = true → yAnd (yLe 0 got) (yLt got 18446744073709551616) = true → zSt W = (7 : Int) → (yLe (zSh W) (zSl W) = true → (yLe (zSh W) (zSl W) = true → zP (tk7 W got) = zP W ∧ zPv (tk7 W got) = zPv W ∧ zPn (tk7 W got) = zPn W ∧ zI (tk7 W got) = zI W ∧ zH (tk7 W got) = zH W ∧ zV (tk7 W got) = zV W ∧ zN (tk7 W got) = zN W ∧ zInr (tk7 W got) = zInr W ∧ zDp (tk7 W got) = zDp W ∧ cs = cs ∧ ct = ct ∧ cf = cf ∧ cl = cl ∧ cp = cp ∧ th = th ∧ (1 : Int) = (1 : Int) ∧ zKey (tk7 W got) = zKey W ∧ zSlow (tk7 W got) = zSlow W ∧ zChain (tk7 W got) = zChain W ∧ zSt (tk7 W got) = (8 : Int) ∧ zOut (tk7 W got) = zOut W ∧ zSk (tk7 W got) = zSk W ∧ zSl (tk7 W got) = zSl W ∧ zSh (tk7 W got) = zSh W ∧ zSkey (tk7 W got) = zSkey W ∧ zAt (tk7 W got) = zSl W ∧ zCh (tk7 W got) = zCh W ∧ zK0 (tk7 W got) = zK0 W ∧ zA0 (tk7 W got) = zA0 W ∧ zB0 (tk7 W got) = zB0 W ∧ zK1 (tk7 W got) = zK1 W ∧ zA1 (tk7 W got) = zA1 W ∧ zB1 (tk7 W got) = zB1 W ∧ zMn (tk7 W got) = (0 : Int) ∧ true = true) ∧ (yLe (zSh W) (zSl W) = false → (yEq 2 (0 : Int) = true → False) ∧ (yEq 2 (0 : Int) = false → (yLt (yWrap IntKind.i64 (yAdd (zSl W) (yQuo IntKind.i64 (yWrap IntKind.i64 (ySub (zSh W) (zSl W))) 2))) (0 : Int) = true → zP (tk7 W got) = zP W ∧ zPv (tk7 W got) = zPv W ∧ zPn (tk7 W got) = zPn W ∧ zI (tk7 W got) = zI W ∧ zH (tk7 W got) = zH W ∧ zV (tk7 W got) = zV W ∧ zN (tk7 W got) = zN W ∧ zInr (tk7 W got) = zInr W ∧ zDp (tk7 W got) = zDp W ∧ cs = cs ∧ ct = ct ∧ cf = cf ∧ cl = cl ∧ cp = cp ∧ th = th ∧ (1 : Int) = (1 : Int) ∧ zKey (tk7 W got) = zKey W ∧ zSlow (tk7 W got) = zSlow W ∧ zChain (tk7 W got) = zChain W ∧ zSt (tk7 W got) = (8 : Int) ∧ zOut (tk7 W got) = zOut W ∧ zSk (tk7 W got) = zSk W ∧ zSl (tk7 W got) = zSl W ∧ zSh (tk7 W got) = zSh W ∧ zSkey (tk7 W got) = zSkey W ∧ zAt (tk7 W got) = zSl W ∧ zCh (tk7 W got) = zCh W ∧ zK0 (tk7 W got) = zK0 W ∧ zA0 (tk7 W got) = zA0 W ∧ zB0 (tk7 W got) = zB0 W ∧ zK1 (tk7 W got) = zK1 W ∧ zA1 (tk7 W got) = zA1 W ∧ zB1 (tk7 W got) = zB1 W ∧ zMn (tk7 W got) = (0 : Int) ∧ true = true) ∧ (yLt (yWrap IntKind.i64 (yAdd (zSl W) (yQuo IntKind.i64 (yWrap IntKind.i64 (ySub (zSh W) (zSl W))) 2))) (0 : Int) = false → zP (tk7 W got) = zP W ∧ zPv (tk7 W got) = zPv W ∧ zPn (tk7 W got) = zPn W ∧ zI (tk7 W got) = zI W ∧ zH (tk7 W got) = zH W ∧ zV (tk7 W got) = zV W ∧ zN (tk7 W got) = zN W ∧ zInr (tk7 W got) = zInr W ∧ zDp (tk7 W got) = zDp W ∧ cs = cs ∧ ct = ct ∧ cf = cf ∧ cl = cl ∧ cp = cp ∧ th = th ∧ (1 : Int) = (1 : Int) ∧ zKey (tk7 W got) = zKey W ∧ zSlow (tk7 W got) = zSlow W ∧ zChain (tk7 W got) = zChain W ∧ zSt (tk7 W got) = (7 : Int) ∧ zOut (tk7 W got) = zOut W ∧ zSk (tk7 W got) = zSk W ∧ zSl (tk7 W got) = zSl W ∧ zSh (tk7 W got) = zSh W ∧ zSkey (tk7 W got) = zSkey W ∧ zAt (tk7 W got) = zAt W ∧ zCh (tk7 W got) = zCh W ∧ zK0 (tk7 W got) = zK0 W ∧ zA0 (tk7 W got) = zA0 W ∧ zB0 (tk7 W got) = zB0 W ∧ zK1 (tk7 W got) = zK1 W ∧ zA1 (tk7 W got) = zA1 W ∧ zB1 (tk7 W got) = zB1 W ∧ zMn (tk7 W got) = (0 : Int) ∧ true = true)))) ∧ (yLe (zSh W) (zSl W) = false → (yEq 2 (0 : Int) = true → False) ∧ (yEq 2 (0 : Int) = false → (yLt (yWrap IntKind.i64 (yAdd (zSl W) (yQuo IntKind.i64 (yWrap IntKind.i64 (ySub (zSh W) (zSl W))) 2))) (0 : Int) = true → (yLe (zSh W) (zSl W) = true → zP (tk7 W got) = zP W ∧ zPv (tk7 W got) = zPv W ∧ zPn (tk7 W got) = zPn W ∧ zI (tk7 W got) = zI W ∧ zH (tk7 W got) = zH W ∧ zV (tk7 W got) = zV W ∧ zN (tk7 W got) = zN W ∧ zInr (tk7 W got) = zInr W ∧ zDp (tk7 W got) = zDp W ∧ cs = cs ∧ ct = ct ∧ cf = cf ∧ cl = cl ∧ cp = cp ∧ th = th ∧ (1 : Int) = (1 : Int) ∧ zKey (tk7 W got) = zKey W ∧ zSlow (tk7 W got) = zSlow W ∧ zChain (tk7 W got) = zChain W ∧ zSt (tk7 W got) = (8 : Int) ∧ zOut (tk7 W got) = zOut W ∧ zSk (tk7 W got) = zSk W ∧ zSl (tk7 W got) = zSl W ∧ zSh (tk7 W got) = zSh W ∧ zSkey (tk7 W got) = zSkey W ∧ zAt (tk7 W got) = zSl W ∧ zCh (tk7 W got) = zCh W ∧ zK0 (tk7 W got) = zK0 W ∧ zA0 (tk7 W got) = zA0 W ∧ zB0 (tk7 W got) = zB0 W ∧ zK1 (tk7 W got) = zK1 W ∧ zA1 (tk7 W got) = zA1 W ∧ zB1 (tk7 W got) = zB1 W ∧ zMn (tk7 W got) = (0 : Int) ∧ true = true) ∧ (yLe (zSh W) (zSl W) = false → (yEq 2 (0 : Int) = true → False) ∧ (yEq 2 (0 : Int) = false → (yLt (yWrap IntKind.i64 (yAdd (zSl W) (yQuo IntKind.i64 (yWrap IntKind.i64 (ySub (zSh W) (zSl W))) 2))) (0 : Int) = true → zP (tk7 W got) = zP W ∧ zPv (tk7 W got) = zPv W ∧ zPn (tk7 W got) = zPn W ∧ zI (tk7 W got) = zI W ∧ zH (tk7 W got) = zH W ∧ zV (tk7 W got) = zV W ∧ zN (tk7 W got) = zN W ∧ zInr (tk7 W got) = zInr W ∧ zDp (tk7 W got) = zDp W ∧ cs = cs ∧ ct = ct ∧ cf = cf ∧ cl = cl ∧ cp = cp ∧ th = th ∧ (1 : Int) = (1 : Int) ∧ zKey (tk7 W got) = zKey W ∧ zSlow (tk7 W got) = zSlow W ∧ zChain (tk7 W got) = zChain W ∧ zSt (tk7 W got) = (8 : Int) ∧ zOut (tk7 W got) = zOut W ∧ zSk (tk7 W got) = zSk W ∧ zSl (tk7 W got) = zSl W ∧ zSh (tk7 W got) = zSh W ∧ zSkey (tk7 W got) = zSkey W ∧ zAt (tk7 W got) = zSl W ∧ zCh (tk7 W got) = zCh W ∧ zK0 (tk7 W got) = zK0 W ∧ zA0 (tk7 W got) = zA0 W ∧ zB0 (tk7 W got) = zB0 W ∧ zK1 (tk7 W got) = zK1 W ∧ zA1 (tk7 W got) = zA1 W ∧ zB1 (tk7 W got) = zB1 W ∧ zMn (tk7 W got) = (0 : Int) ∧ true = true) ∧ (yLt (yWrap IntKind.i64 (yAdd (zSl W) (yQuo IntKind.i64 (yWrap IntKind.i64 (ySub (zSh W) (zSl W))) 2))) (0 : Int) = false → zP (tk7 W got) = zP W ∧ zPv (tk7 W got) = zPv W ∧ zPn (tk7 W got) = zPn W ∧ zI (tk7 W got) = zI W ∧ zH (tk7 W got) = zH W ∧ zV (tk7 W got) = zV W ∧ zN (tk7 W got) = zN W ∧ zInr (tk7 W got) = zInr W ∧ zDp (tk7 W got) = zDp W ∧ cs = cs ∧ ct = ct ∧ cf = cf ∧ cl = cl ∧ cp = cp ∧ th = th ∧ (1 : Int) = (1 : Int) ∧ zKey (tk7 W got) = zKey W ∧ zSlow (tk7 W got) = zSlow W ∧ zChain (tk7 W got) = zChain W ∧ zSt (tk7 W got) = (7 : Int) ∧ zOut (tk7 W got) = zOut W ∧ zSk (tk7 W got) = zSk W ∧ zSl (tk7 W got) = zSl W ∧ zSh (tk7 W got) = zSh W ∧ zSkey (tk7 W got) = zSkey W ∧ zAt (tk7 W got) = zAt W ∧ zCh (tk7 W got) = zCh W ∧ zK0 (tk7 W got) = zK0 W ∧ zA0 (tk7 W got) = zA0 W ∧ zB0 (tk7 W got) = zB0 W ∧ zK1 (tk7 W got) = zK1 W ∧ zA1 (tk7 W got) = zA1 W ∧ zB1 (tk7 W got) = zB1 W ∧ zMn (tk7 W got) = (0 : Int) ∧ true = true)))) ∧ (yLt (yWrap IntKind.i64 (yAdd (zSl W) (yQuo IntKind.i64 (yWrap IntKind.i64 (ySub (zSh W) (zSl W))) 2))) (0 : Int) = false → (yEq (zSk W) (1 : Int) = true → (yLt got (zSkey W) = true → (yLe (zSh W) (yWrap IntKind.i64 (yAdd (yWrap IntKind.i64 (yAdd (zSl W) (yQuo IntKind.i64 (yWrap IntKind.i64 (ySub (zSh W) (zSl W))) 2))) 1)) = true → zP (tk7 W got) = zP W ∧ zPv (tk7 W got) = zPv W ∧ zPn (tk7 W got) = zPn W ∧ zI (tk7 W got) = zI W ∧ zH (tk7 W got) = zH W ∧ zV (tk7 W got) = zV W ∧ zN (tk7 W got) = zN W ∧ zInr (tk7 W got) = zInr W ∧ zDp (tk7 W got) = zDp W ∧ cs = cs ∧ ct = ct ∧ cf = cf ∧ cl = cl ∧ cp = cp ∧ th = th ∧ (1 : Int) = (1 : Int) ∧ zKey (tk7 W got) = zKey W ∧ zSlow (tk7 W got) = zSlow W ∧ zChain (tk7 W got) = zChain W ∧ zSt (tk7 W got) = (8 : Int) ∧ zOut (tk7 W got) = zOut W ∧ zSk (tk7 W got) = zSk W ∧ zSl (tk7 W got) = yWrap IntKind.i64 (yAdd (yWrap IntKind.i64 (yAdd (zSl W) (yQuo IntKind.i64 (yWrap IntKind.i64 (ySub (zSh W) (zSl W))) 2))) 1) ∧ zSh (tk7 W got) = zSh W ∧ zSkey (tk7 W got) = zSkey W ∧ zAt (tk7 W got) = yWrap IntKind.i64 (yAdd (yWrap IntKind.i64 (yAdd (zSl W) (yQuo IntKind.i64 (yWrap IntKind.i64 (ySub (zSh W) (zSl W))) 2))) 1) ∧ zCh (tk7 W got) = zCh W ∧ zK0 (tk7 W got) = zK0 W ∧ zA0 (tk7 W got) = zA0 W ∧ zB0 (tk7 W got) = zB0 W ∧ zK1 (tk7 W got) = zK1 W ∧ zA1 (tk7 W got) = zA1 W ∧ zB1 (tk7 W got) = zB1 W ∧ zMn (tk7 W got) = (0 : Int) ∧ true = true) ∧ (yLe (zSh W) (yWrap IntKind.i64 (yAdd (yWrap IntKind.i64 (yAdd (zSl W) (yQuo IntKind.i64 (yWrap IntKind.i64 (ySub (zSh W) (zSl W))) 2))) 1)) = false → (yEq 2 (0 : Int) = true → False) ∧ (yEq 2 (0 : Int) = false → (yLt (yWrap IntKind.i64 (yAdd (yWrap IntKind.i64 (yAdd (yWrap IntKind.i64 (yAdd (zSl W) (yQuo IntKind.i64 (yWrap IntKind.i64 (ySub (zSh W) (zSl W))) 2))) 1)) (yQuo IntKind.i64 (yWrap IntKind.i64 (ySub (zSh W) (yWrap IntKind.i64 (yAdd (yWrap IntKind.i64 (yAdd (zSl W) (yQuo IntKind.i64 (yWrap IntKind.i64 (ySub (zSh W) (zSl W))) 2))) 1)))) 2))) (0 : Int) = true → zP (tk7 W got) = zP W ∧ zPv (tk7 W got) = zPv W ∧ zPn (tk7 W got) = zPn W ∧ zI (tk7 W got) = zI W ∧ zH (tk7 W got) = zH W ∧ zV (tk7 W got) = zV W ∧ zN (tk7 W got) = zN W ∧ zInr (tk7 W got) = zInr W ∧ zDp (tk7 W got) = zDp W ∧ cs = cs ∧ ct = ct ∧ cf = cf ∧ cl = cl ∧ cp = cp ∧ th = th ∧ (1 : Int) = (1 : Int) ∧ zKey (tk7 W got) = zKey W ∧ zSlow (tk7 W got) = zSlow W ∧ zChain (tk7 W got) = zChain W ∧ zSt (tk7 W got) = (8 : Int) ∧ zOut (tk7 W got) = zOut W ∧ zSk (tk7 W got) = zSk W ∧ zSl (tk7 W got) = yWrap IntKind.i64 (yAdd (yWrap IntKind.i64 (yAdd (zSl W) (yQuo IntKind.i64 (yWrap IntKind.i64 (ySub (zSh W) (zSl W))) 2))) 1) ∧ zSh (tk7 W got) = zSh W ∧ zSkey (tk7 W got) = zSkey W ∧ zAt (tk7 W got) = yWrap IntKind.i64 (yAdd (yWrap IntKind.i64 (yAdd (zSl W) (yQuo IntKind.i64 (yWrap IntKind.i64 (ySub (zSh W) (zSl W))) 2))) 1) ∧ zCh (tk7 W got) = zCh W ∧ zK0 (tk7 W got) = zK0 W ∧ zA0 (tk7 W got) = zA0 W ∧ zB0 (tk7 W got) = zB0 W ∧ zK1 (tk7 W got) = zK1 W ∧ zA1 (tk7 W got) = zA1 W ∧ zB1 (tk7 W got) = zB1 W ∧ zMn (tk7 W got) = (0 : Int) ∧ true = true) ∧ (yLt (yWrap IntKind.i64 (yAdd (yWrap IntKind.i64 (yAdd (yWrap IntKind.i64 (yAdd (zSl W) (yQuo IntKind.i64 (yWrap IntKind.i64 (ySub (zSh W) (zSl W))) 2))) 1)) (yQuo IntKind.i64 (yWrap IntKind.i64 (ySub (zSh W) (yWrap IntKind.i64 (yAdd (yWrap IntKind.i64 (yAdd (zSl W) (yQuo IntKind.i64 (yWrap IntKind.i64 (ySub (zSh W) (zSl W))) 2))) 1)))) 2))) (0 : Int) = false → zP (tk7 W got) = zP W ∧ zPv (tk7 W got) = zPv W ∧ zPn (tk7 W got) = zPn W ∧ zI (tk7 W got) = zI W ∧ zH (tk7 W got) = zH W ∧ zV (tk7 W got) = zV W ∧ zN (tk7 W got) = zN W ∧ zInr (tk7 W got) = zInr W ∧ zDp (tk7 W got) = zDp W ∧ cs = cs ∧ ct = ct ∧ cf = cf ∧ cl = cl ∧ cp = cp ∧ th = th ∧ (1 : Int) = (1 : Int) ∧ zKey (tk7 W got) = zKey W ∧ zSlow (tk7 W got) = zSlow W ∧ zChain (tk7 W got) = zChain W ∧ zSt (tk7 W got) = (7 : Int) ∧ zOut (tk7 W got) = zOut W ∧ zSk (tk7 W got) = zSk W ∧ zSl (tk7 W got) = yWrap IntKind.i64 (yAdd (yWrap IntKind.i64 (yAdd (zSl W) (yQuo IntKind.i64 (yWrap IntKind.i64 (ySub (zSh W) (zSl W))) 2))) 1) ∧ zSh (tk7 W got) = zSh W ∧ zSkey (tk7 W got) = zSkey W ∧ zAt (tk7 W got) = zAt W ∧ zCh (tk7 W got) = zCh W ∧ zK0 (tk7 W got) = zK0 W ∧ zA0 (tk7 W got) = zA0 W ∧ zB0 (tk7 W got) = zB0 W ∧ zK1 (tk7 W got) = zK1 W ∧ zA1 (tk7 W got) = zA1 W ∧ zB1 (tk7 W got) = zB1 W ∧ zMn (tk7 W got) = (0 : Int) ∧ true = true)))) ∧ (yLt got (zSkey W) = false → (yLe (yWrap IntKind.i64 (yAdd (zSl W) (yQuo IntKind.i64 (yWrap IntKind.i64 (ySub (zSh W) (zSl W))) 2))) (zSl W) = true → zP (tk7 W got) = zP W ∧ zPv (tk7 W got) = zPv W ∧ zPn (tk7 W got) = zPn W ∧ zI (tk7 W got) = zI W ∧ zH (tk7 W got) = zH W ∧ zV (tk7 W got) = zV W ∧ zN (tk7 W got) = zN W ∧ zInr (tk7 W got) = zInr W ∧ zDp (tk7 W got) = zDp W ∧ cs = cs ∧ ct = ct ∧ cf = cf ∧ cl = cl ∧ cp = cp ∧ th = th ∧ (1 : Int) = (1 : Int) ∧ zKey (tk7 W got) = zKey W ∧ zSlow (tk7 W got) = zSlow W ∧ zChain (tk7 W got) = zChain W ∧ zSt (tk7 W got) = (8 : Int) ∧ zOut (tk7 W got) = zOut W ∧ zSk (tk7 W got) = zSk W ∧ zSl (tk7 W got) = zSl W ∧ zSh (tk7 W got) = yWrap IntKind.i64 (yAdd (zSl W) (yQuo IntKind.i64 (yWrap IntKind.i64 (ySub (zSh W) (zSl W))) 2)) ∧ zSkey (tk7 W got) = zSkey W ∧ zAt (tk7 W got) = zSl W ∧ zCh (tk7 W got) = zCh W ∧ zK0 (tk7 W got) = zK0 W ∧ zA0 (tk7 W got) = zA0 W ∧ zB0 (tk7 W got) = zB0 W ∧ zK1 (tk7 W got) = zK1 W ∧ zA1 (tk7 W got) = zA1 W ∧ zB1 (tk7 W got) = zB1 W ∧ zMn (tk7 W got) = (0 : Int) ∧ true = true) ∧ (yLe (yWrap IntKind.i64 (yAdd (zSl W) (yQuo IntKind.i64 (yWrap IntKind.i64 (ySub (zSh W) (zSl W))) 2))) (zSl W) = false → (yEq 2 (0 : Int) = true → False) ∧ (yEq 2 (0 : Int) = false → (yLt (yWrap IntKind.i64 (yAdd (zSl W) (yQuo IntKind.i64 (yWrap IntKind.i64 (ySub (yWrap IntKind.i64 (yAdd (zSl W) (yQuo IntKind.i64 (yWrap IntKind.i64 (ySub (zSh W) (zSl W))) 2))) (zSl W))) 2))) (0 : Int) = true → zP (tk7 W got) = zP W ∧ zPv (tk7 W got) = zPv W ∧ zPn (tk7 W got) = zPn W ∧ zI (tk7 W got) = zI W ∧ zH (tk7 W got) = zH W ∧ zV (tk7 W got) = zV W ∧ zN (tk7 W got) = zN W ∧ zInr (tk7 W got) = zInr W ∧ zDp (tk7 W got) = zDp W ∧ cs = cs ∧ ct = ct ∧ cf = cf ∧ cl = cl ∧ cp = cp ∧ th = th ∧ (1 : Int) = (1 : Int) ∧ zKey (tk7 W got) = zKey W ∧ zSlow (tk7 W got) = zSlow W ∧ zChain (tk7 W got) = zChain W ∧ zSt (tk7 W got) = (8 : Int) ∧ zOut (tk7 W got) = zOut W ∧ zSk (tk7 W got) = zSk W ∧ zSl (tk7 W got) = zSl W ∧ zSh (tk7 W got) = yWrap IntKind.i64 (yAdd (zSl W) (yQuo IntKind.i64 (yWrap IntKind.i64 (ySub (zSh W) (zSl W))) 2)) ∧ zSkey (tk7 W got) = zSkey W ∧ zAt (tk7 W got) = zSl W ∧ zCh (tk7 W got) = zCh W ∧ zK0 (tk7 W got) = zK0 W ∧ zA0 (tk7 W got) = zA0 W ∧ zB0 (tk7 W got) = zB0 W ∧ zK1 (tk7 W got) = zK1 W ∧ zA1 (tk7 W got) = zA1 W ∧ zB1 (tk7 W got) = zB1 W ∧ zMn (tk7 W got) = (0 : Int) ∧ true = true) ∧ (yLt (yWrap IntKind.i64 (yAdd (zSl W) (yQuo IntKind.i64 (yWrap IntKind.i64 (ySub (yWrap IntKind.i64 (yAdd (zSl W) (yQuo IntKind.i64 (yWrap IntKind.i64 (ySub (zSh W) (zSl W))) 2))) (zSl W))) 2))) (0 : Int) = false → zP (tk7 W got) = zP W ∧ zPv (tk7 W got) = zPv W ∧ zPn (tk7 W got) = zPn W ∧ zI (tk7 W got) = zI W ∧ zH (tk7 W got) = zH W ∧ zV (tk7 W got) = zV W ∧ zN (tk7 W got) = zN W ∧ zInr (tk7 W got) = zInr W ∧ zDp (tk7 W got) = zDp W ∧ cs = cs ∧ ct = ct ∧ cf = cf ∧ cl = cl ∧ cp = cp ∧ th = th ∧ (1 : Int) = (1 : Int) ∧ zKey (tk7 W got) = zKey W ∧ zSlow (tk7 W got) = zSlow W ∧ zChain (tk7 W got) = zChain W ∧ zSt (tk7 W got) = (7 : Int) ∧ zOut (tk7 W got) = zOut W ∧ zSk (tk7 W got) = zSk W ∧ zSl (tk7 W got) = zSl W ∧ zSh (tk7 W got) = yWrap IntKind.i64 (yAdd (zSl W) (yQuo IntKind.i64 (yWrap IntKind.i64 (ySub (zSh W) (zSl W))) 2)) ∧ zSkey (tk7 W got) = zSkey W ∧ zAt (tk7 W got) = zAt W ∧ zCh (tk7 W got) = zCh W ∧ zK0 (tk7 W got) = zK0 W ∧ zA0 (tk7 W got) = zA0 W ∧ zB0 (tk7 W got) = zB0 W ∧ zK1 (tk7 W got) = zK1 W ∧ zA1 (tk7 W got) = zA1 W ∧ zB1 (tk7 W got) = zB1 W ∧ zMn (tk7 W got) = (0 : Int) ∧ true = true))))) ∧ (yEq (zSk W) (1 : Int) = false → (yLe got (zSkey W) = true → (yLe (zSh W) (yWrap IntKind.i64 (yAdd (yWrap IntKind.i64 (yAdd (zSl W) (yQuo IntKind.i64 (yWrap IntKind.i64 (ySub (zSh W) (zSl W))) 2))) 1)) = true → zP (tk7 W got) = zP W ∧ zPv (tk7 W got) = zPv W ∧ zPn (tk7 W got) = zPn W ∧ zI (tk7 W got) = zI W ∧ zH (tk7 W got) = zH W ∧ zV (tk7 W got) = zV W ∧ zN (tk7 W got) = zN W ∧ zInr (tk7 W got) = zInr W ∧ zDp (tk7 W got) = zDp W ∧ cs = cs ∧ ct = ct ∧ cf = cf ∧ cl = cl ∧ cp = cp ∧ th = th ∧ (1 : Int) = (1 : Int) ∧ zKey (tk7 W got) = zKey W ∧ zSlow (tk7 W got) = zSlow W ∧ zChain (tk7 W got) = zChain W ∧ zSt (tk7 W got) = (8 : Int) ∧ zOut (tk7 W got) = zOut W ∧ zSk (tk7 W got) = zSk W ∧ zSl (tk7 W got) = yWrap IntKind.i64 (yAdd (yWrap IntKind.i64 (yAdd (zSl W) (yQuo IntKind.i64 (yWrap IntKind.i64 (ySub (zSh W) (zSl W))) 2))) 1) ∧ zSh (tk7 W got) = zSh W ∧ zSkey (tk7 W got) = zSkey W ∧ zAt (tk7 W got) = yWrap IntKind.i64 (yAdd (yWrap IntKind.i64 (yAdd (zSl W) (yQuo IntKind.i64 (yWrap IntKind.i64 (ySub (zSh W) (zSl W))) 2))) 1) ∧ zCh (tk7 W got) = zCh W ∧ zK0 (tk7 W got) = zK0 W ∧ zA0 (tk7 W got) = zA0 W ∧ zB0 (tk7 W got) = zB0 W ∧ zK1 (tk7 W got) = zK1 W ∧ zA1 (tk7 W got) = zA1 W ∧ zB1 (tk7 W got) = zB1 W ∧ zMn (tk7 W got) = (0 : Int) ∧ true = true) ∧ (yLe (zSh W) (yWrap IntKind.i64 (yAdd (yWrap IntKind.i64 (yAdd (zSl W) (yQuo IntKind.i64 (yWrap IntKind.i64 (ySub (zSh W) (zSl W))) 2))) 1)) = false → (yEq 2 (0 : Int) = true → False) ∧ (yEq 2 (0 : Int) = false → (yLt (yWrap IntKind.i64 (yAdd (yWrap IntKind.i64 (yAdd (yWrap IntKind.i64 (yAdd (zSl W) (yQuo IntKind.i64 (yWrap IntKind.i64 (ySub (zSh W) (zSl W))) 2))) 1)) (yQuo IntKind.i64 (yWrap IntKind.i64 (ySub (zSh W) (yWrap IntKind.i64 (yAdd (yWrap IntKind.i64 (yAdd (zSl W) (yQuo IntKind.i64 (yWrap IntKind.i64 (ySub (zSh W) (zSl W))) 2))) 1)))) 2))) (0 : Int) = true → zP (tk7 W got) = zP W ∧ zPv (tk7 W got) = zPv W ∧ zPn (tk7 W got) = zPn W ∧ zI (tk7 W got) = zI W ∧ zH (tk7 W got) = zH W ∧ zV (tk7 W got) = zV W ∧ zN (tk7 W got) = zN W ∧ zInr (tk7 W got) = zInr W ∧ zDp (tk7 W got) = zDp W ∧ cs = cs ∧ ct = ct ∧ cf = cf ∧ cl = cl ∧ cp = cp ∧ th = th ∧ (1 : Int) = (1 : Int) ∧ zKey (tk7 W got) = zKey W ∧ zSlow (tk7 W got) = zSlow W ∧ zChain (tk7 W got) = zChain W ∧ zSt (tk7 W got) = (8 : Int) ∧ zOut (tk7 W got) = zOut W ∧ zSk (tk7 W got) = zSk W ∧ zSl (tk7 W got) = yWrap IntKind.i64 (yAdd (yWrap IntKind.i64 (yAdd (zSl W) (yQuo IntKind.i64 (yWrap IntKind.i64 (ySub (zSh W) (zSl W))) 2))) 1) ∧ zSh (tk7 W got) = zSh W ∧ zSkey (tk7 W got) = zSkey W ∧ zAt (tk7 W got) = yWrap IntKind.i64 (yAdd (yWrap IntKind.i64 (yAdd (zSl W) (yQuo IntKind.i64 (yWrap IntKind.i64 (ySub (zSh W) (zSl W))) 2))) 1) ∧ zCh (tk7 W got) = zCh W ∧ zK0 (tk7 W got) = zK0 W ∧ zA0 (tk7 W got) = zA0 W ∧ zB0 (tk7 W got) = zB0 W ∧ zK1 (tk7 W got) = zK1 W ∧ zA1 (tk7 W got) = zA1 W ∧ zB1 (tk7 W got) = zB1 W ∧ zMn (tk7 W got) = (0 : Int) ∧ true = true) ∧ (yLt (yWrap IntKind.i64 (yAdd (yWrap IntKind.i64 (yAdd (yWrap IntKind.i64 (yAdd (zSl W) (yQuo IntKind.i64 (yWrap IntKind.i64 (ySub (zSh W) (zSl W))) 2))) 1)) (yQuo IntKind.i64 (yWrap IntKind.i64 (ySub (zSh W) (yWrap IntKind.i64 (yAdd (yWrap IntKind.i64 (yAdd (zSl W) (yQuo IntKind.i64 (yWrap IntKind.i64 (ySub (zSh W) (zSl W))) 2))) 1)))) 2))) (0 : Int) = false → zP (tk7 W got) = zP W ∧ zPv (tk7 W got) = zPv W ∧ zPn (tk7 W got) = zPn W ∧ zI (tk7 W got) = zI W ∧ zH (tk7 W got) = zH W ∧ zV (tk7 W got) = zV W ∧ zN (tk7 W got) = zN W ∧ zInr (tk7 W got) = zInr W ∧ zDp (tk7 W got) = zDp W ∧ cs = cs ∧ ct = ct ∧ cf = cf ∧ cl = cl ∧ cp = cp ∧ th = th ∧ (1 : Int) = (1 : Int) ∧ zKey (tk7 W got) = zKey W ∧ zSlow (tk7 W got) = zSlow W ∧ zChain (tk7 W got) = zChain W ∧ zSt (tk7 W got) = (7 : Int) ∧ zOut (tk7 W got) = zOut W ∧ zSk (tk7 W got) = zSk W ∧ zSl (tk7 W got) = yWrap IntKind.i64 (yAdd (yWrap IntKind.i64 (yAdd (zSl W) (yQuo IntKind.i64 (yWrap IntKind.i64 (ySub (zSh W) (zSl W))) 2))) 1) ∧ zSh (tk7 W got) = zSh W ∧ zSkey (tk7 W got) = zSkey W ∧ zAt (tk7 W got) = zAt W ∧ zCh (tk7 W got) = zCh W ∧ zK0 (tk7 W got) = zK0 W ∧ zA0 (tk7 W got) = zA0 W ∧ zB0 (tk7 W got) = zB0 W ∧ zK1 (tk7 W got) = zK1 W ∧ zA1 (tk7 W got) = zA1 W ∧ zB1 (tk7 W got) = zB1 W ∧ zMn (tk7 W got) = (0 : Int) ∧ true = true)))) ∧ (yLe got (zSkey W) = false → (yLe (yWrap IntKind.i64 (yAdd (zSl W) (yQuo IntKind.i64 (yWrap IntKind.i64 (ySub (zSh W) (zSl W))) 2))) (zSl W) = true → zP (tk7 W got) = zP W ∧ zPv (tk7 W got) = zPv W ∧ zPn (tk7 W got) = zPn W ∧ zI (tk7 W got) = zI W ∧ zH (tk7 W got) = zH W ∧ zV (tk7 W got) = zV W ∧ zN (tk7 W got) = zN W ∧ zInr (tk7 W got) = zInr W ∧ zDp (tk7 W got) = zDp W ∧ cs = cs ∧ ct = ct ∧ cf = cf ∧ cl = cl ∧ cp = cp ∧ th = th ∧ (1 : Int) = (1 : Int) ∧ zKey (tk7 W got) = zKey W ∧ zSlow (tk7 W got) = zSlow W ∧ zChain (tk7 W got) = zChain W ∧ zSt (tk7 W got) = (8 : Int) ∧ zOut (tk7 W got) = zOut W ∧ zSk (tk7 W got) = zSk W ∧ zSl (tk7 W got) = zSl W ∧ zSh (tk7 W got) = yWrap IntKind.i64 (yAdd (zSl W) (yQuo IntKind.i64 (yWrap IntKind.i64 (ySub (zSh W) (zSl W))) 2)) ∧ zSkey (tk7 W got) = zSkey W ∧ zAt (tk7 W got) = zSl W ∧ zCh (tk7 W got) = zCh W ∧ zK0 (tk7 W got) = zK0 W ∧ zA0 (tk7 W got) = zA0 W ∧ zB0 (tk7 W got) = zB0 W ∧ zK1 (tk7 W got) = zK1 W ∧ zA1 (tk7 W got) = zA1 W ∧ zB1 (tk7 W got) = zB1 W ∧ zMn (tk7 W got) = (0 : Int) ∧ true = true) ∧ (yLe (yWrap IntKind.i64 (yAdd (zSl W) (yQuo IntKind.i64 (yWrap IntKind.i64 (ySub (zSh W) (zSl W))) 2))) (zSl W) = false → (yEq 2 (0 : Int) = true → False) ∧ (yEq 2 (0 : Int) = false → (yLt (yWrap IntKind.i64 (yAdd (zSl W) (yQuo IntKind.i64 (yWrap IntKind.i64 (ySub (yWrap IntKind.i64 (yAdd (zSl W) (yQuo IntKind.i64 (yWrap IntKind.i64 (ySub (zSh W) (zSl W))) 2))) (zSl W))) 2))) (0 : Int) = true → zP (tk7 W got) = zP W ∧ zPv (tk7 W got) = zPv W ∧ zPn (tk7 W got) = zPn W ∧ zI (tk7 W got) = zI W ∧ zH (tk7 W got) = zH W ∧ zV (tk7 W got) = zV W ∧ zN (tk7 W got) = zN W ∧ zInr (tk7 W got) = zInr W ∧ zDp (tk7 W got) = zDp W ∧ cs = cs ∧ ct = ct ∧ cf = cf ∧ cl = cl ∧ cp = cp ∧ th = th ∧ (1 : Int) = (1 : Int) ∧ zKey (tk7 W got) = zKey W ∧ zSlow (tk7 W got) = zSlow W ∧ zChain (tk7 W got) = zChain W ∧ zSt (tk7 W got) = (8 : Int) ∧ zOut (tk7 W got) = zOut W ∧ zSk (tk7 W got) = zSk W ∧ zSl (tk7 W got) = zSl W ∧ zSh (tk7 W got) = yWrap IntKind.i64 (yAdd (zSl W) (yQuo IntKind.i64 (yWrap IntKind.i64 (ySub (zSh W) (zSl W))) 2)) ∧ zSkey (tk7 W got) = zSkey W ∧ zAt (tk7 W got) = zSl W ∧ zCh (tk7 W got) = zCh W ∧ zK0 (tk7 W got) = zK0 W ∧ zA0 (tk7 W got) = zA0 W ∧ zB0 (tk7 W got) = zB0 W ∧ zK1 (tk7 W got) = zK1 W ∧ zA1 (tk7 W got) = zA1 W ∧ zB1 (tk7 W got) = zB1 W ∧ zMn (tk7 W got) = (0 : Int) ∧ true = true) ∧ (yLt (yWrap IntKind.i64 (yAdd (zSl W) (yQuo IntKind.i64 (yWrap IntKind.i64 (ySub (yWrap IntKind.i64 (yAdd (zSl W) (yQuo IntKind.i64 (yWrap IntKind.i64 (ySub (zSh W) (zSl W))) 2))) (zSl W))) 2))) (0 : Int) = false → zP (tk7 W got) = zP W ∧ zPv (tk7 W got) = zPv W ∧ zPn (tk7 W got) = zPn W ∧ zI (tk7 W got) = zI W ∧ zH (tk7 W got) = zH W ∧ zV (tk7 W got) = zV W ∧ zN (tk7 W got) = zN W ∧ zInr (tk7 W got) = zInr W ∧ zDp (tk7 W got) = zDp W ∧ cs = cs ∧ ct = ct ∧ cf = cf ∧ cl = cl ∧ cp = cp ∧ th = th ∧ (1 : Int) = (1 : Int) ∧ zKey (tk7 W got) = zKey W ∧ zSlow (tk7 W got) = zSlow W ∧ zChain (tk7 W got) = zChain W ∧ zSt (tk7 W got) = (7 : Int) ∧ zOut (tk7 W got) = zOut W ∧ zSk (tk7 W got) = zSk W ∧ zSl (tk7 W got) = zSl W ∧ zSh (tk7 W got) = yWrap IntKind.i64 (yAdd (zSl W) (yQuo IntKind.i64 (yWrap IntKind.i64 (ySub (zSh W) (zSl W))) 2)) ∧ zSkey (tk7 W got) = zSkey W ∧ zAt (tk7 W got) = zAt W ∧ zCh (tk7 W got) = zCh W ∧ zK0 (tk7 W got) = zK0 W ∧ zA0 (tk7 W got) = zA0 W ∧ zB0 (tk7 W got) = zB0 W ∧ zK1 (tk7 W got) = zK1 W ∧ zA1 (tk7 W got) = zA1 W ∧ zB1 (tk7 W got) = zB1 W ∧ zMn (tk7 W got) = (0 : Int) ∧ true = true)))))))))
theorem goalXt7_eq : goalXt7 = goalXt7V := by kernel_rfl
set_option maxHeartbeats 8000000 in
theorem goalXt7_vc : goalXt7V := by
 unfold goalXt7V
 intro cs ct cf cl cp th W got hi hg hs
 obtain ⟨i1, i2, i3, i4, ⟨i5, i6, i7, i8⟩, ⟨i9, i10⟩, ⟨i11, i12⟩, ⟨i13, i14⟩, ⟨i15, i16⟩⟩ := invX_iff.1 hi
 have hc := rightC_iff.1 i1
 have hg' := hg
 have i2' := i2
 have i4' := i4
 simp only [inU, vS, forall_const] at hg' i2' i4'
 simp only [zP, zPv, zPn, zI, zH, zV, zN, zInr, zDp, zKey, zSlow, zChain, zSt, zOut, zSk, zSl, zSh, zSkey, zAt, zCh, zK0, zA0, zB0, zK1, zA1, zB1, zMn] at hs
 simp only [vS, forall_const, zP, zPv, zPn, zI, zH, zV, zN, zInr, zDp, zKey, zSlow, zChain, zSt, zOut, zSk, zSl, zSh, zSkey, zAt, zCh, zK0, zA0, zB0, zK1, zA1, zB1, zMn]
 repeat' (first | (refine And.intro (fun _ => ?_) (fun _ => ?_)) | intro _)
 all_goals (try simp (disch := omega) only [wrap64, quo2] at *)
 all_goals first
   | (exfalso; omega)
   | (unfold tk7 midX
      (repeat' split) <;> first | contradiction | (exfalso; omega) | (exfalso; simp_all; done) | ((repeat' (apply And.intro)) <;> first | rfl | trivial | omega | exact Eq.symm (by assumption)))
   | (trace_state; fail)
theorem goalXt7_tt : (goalXt7) = True := goalXt7_eq.trans (eq_true goalXt7_vc)
theorem goalXt7_ok : goalXt7 := @ft' goalXt7 goalXt7_tt
end Go.Proofs.YtinijejfhmcmdaaDoor.Ex
end
section
namespace Go.Proofs.YtinijejfhmcmdaaDoor.Ex
open Go
abbrev sConfL : Sx := .agg [.sc, .sc, .sc, .sc, .sc]
def fXn (ds : List Dx) : Option (Bool × Dx × List (List Dx)) :=
 match ds with
 | [.l [.v (.y .i64 cs), .v (.y .i64 ct), .v (.y .i64 cf), .v (.y .i64 cl), .v (.y .i64 cp)], .v (.y .i64 th), .v (.y .i64 mo), .v (.y .u64 key), .v (.yb slow)] =>
   some (yAnd (rightC cs ct cf cl cp) (yAnd (yAnd (yLe 0 th) (yLt th ct)) (yEq mo 1)), dWk cs ct cf cl cp th 1 (wk0 key slow), [])
 | _ => none
def goalXn : Prop := ∀ (cs ct cf cl cp th key : Int) (slow : Bool), yAnd (rightC cs ct cf cl cp) (yAnd (yLe 0 th) (yLt th ct)) = true →
 wxP Tryd.prog noSm (fun _ => none) 12 [sConfL, .sc, .sc, .sc, .sc] [.l [.v (.y .i64 cs), .v (.y .i64 ct), .v (.y .i64 cf), .v (.y .i64 cl), .v (.y .i64 cp)], .v (.y .i64 th), .v (.i .i64 1), .v (.y .u64 key), .v (.yb slow)] sWk (dWk cs ct cf cl cp th 1 (wk0 key slow)) []
def goalXnV : Prop := (∀ (cs ct cf cl cp th key : Int) (slow : Bool), yAnd (rightC cs ct cf cl cp) (yAnd (yLe 0 th) (yLt th ct)) = true → (yAnd (yEq cs 0) (yAnd (yEq ct 0) (yAnd (yEq cf 0) (yAnd (yEq cl 0) (yAnd (yEq cp 0) true)))) = true → (0 : Int) = (0 : Int) ∧ (0 : Int) = (0 : Int) ∧ (0 : Int) = (0 : Int) ∧ (0 : Int) = (0 : Int) ∧ (0 : Int) = (0 : Int) ∧ (0 : Int) = (0 : Int) ∧ (0 : Int) = (0 : Int) ∧ false = false ∧ (0 : Int) = (0 : Int) ∧ cs = (0 : Int) ∧ ct = (0 : Int) ∧ cf = (0 : Int) ∧ cl = (0 : Int) ∧ cp = (0 : Int) ∧ th = (0 : Int) ∧ (1 : Int) = (0 : Int) ∧ key = (0 : Int) ∧ slow = false ∧ false = false ∧ (1 : Int) = (0 : Int) ∧ (0 : Int) = (0 : Int) ∧ (0 : Int) = (0 : Int) ∧ (0 : Int) = (0 : Int) ∧ (0 : Int) = (0 : Int) ∧ (0 : Int) = (0 : Int) ∧ (0 : Int) = (0 : Int) ∧ (0 : Int) = (0 : Int) ∧ (0 : Int) = (0 : Int) ∧ (0 : Int) = (0 : Int) ∧ (0 : Int) = (0 : Int) ∧ (0 : Int) = (0 : Int) ∧ (0 : Int) = (0 : Int) ∧ (0 : Int) = (0 : Int) ∧ (0 : Int) = (0 : Int) ∧ true = true) ∧ (yAnd (yEq cs 0) (yAnd (yEq ct 0) (yAnd (yEq cf 0) (yAnd (yEq cl 0) (yAnd (yEq cp 0) true)))) = false → (yLe 0 th = true → (yLt th ct = true → (yLt (yWrap IntKind.i64 (yAdd 3 th)) (0 : Int) = true → (0 : Int) = (0 : Int) ∧ (0 : Int) = (0 : Int) ∧ (0 : Int) = (0 : Int) ∧ (0 : Int) = (0 : Int) ∧ (0 : Int) = (0 : Int) ∧ (0 : Int) = (0 : Int) ∧ (0 : Int) = (0 : Int) ∧ false = false ∧ (0 : Int) = (0 : Int) ∧ cs = (0 : Int) ∧ ct = (0 : Int) ∧ cf = (0 : Int) ∧ cl = (0 : Int) ∧ cp = (0 : Int) ∧ th = (0 : Int) ∧ (1 : Int) = (0 : Int) ∧ key = (0 : Int) ∧ slow = false ∧ false = false ∧ (1 : Int) = (0 : Int) ∧ (0 : Int) = (0 : Int) ∧ (0 : Int) = (0 : Int) ∧ (0 : Int) = (0 : Int) ∧ (0 : Int) = (0 : Int) ∧ (0 : Int) = (0 : Int) ∧ (0 : Int) = (0 : Int) ∧ (0 : Int) = (0 : Int) ∧ (0 : Int) = (0 : Int) ∧ (0 : Int) = (0 : Int) ∧ (0 : Int) = (0 : Int) ∧ (0 : Int) = (0 : Int) ∧ (0 : Int) = (0 : Int) ∧ (0 : Int) = (0 : Int) ∧ (0 : Int) = (0 : Int) ∧ true = true) ∧ (yLt (yWrap IntKind.i64 (yAdd 3 th)) (0 : Int) = false → (slow = true → (0 : Int) = (0 : Int) ∧ (0 : Int) = (0 : Int) ∧ (0 : Int) = (0 : Int) ∧ (0 : Int) = (0 : Int) ∧ (0 : Int) = (0 : Int) ∧ (0 : Int) = (0 : Int) ∧ (0 : Int) = (0 : Int) ∧ false = false ∧ (0 : Int) = (0 : Int) ∧ cs = cs ∧ ct = ct ∧ cf = cf ∧ cl = cl ∧ cp = cp ∧ th = th ∧ (1 : Int) = (1 : Int) ∧ key = key ∧ slow = true ∧ false = false ∧ (1 : Int) = (1 : Int) ∧ (0 : Int) = (0 : Int) ∧ (0 : Int) = (0 : Int) ∧ (0 : Int) = (0 : Int) ∧ (0 : Int) = (0 : Int) ∧ (0 : Int) = (0 : Int) ∧ (0 : Int) = (0 : Int) ∧ (0 : Int) = (0 : Int) ∧ (0 : Int) = (0 : Int) ∧ (0 : Int) = (0 : Int) ∧ (0 : Int) = (0 : Int) ∧ (0 : Int) = (0 : Int) ∧ (0 : Int) = (0 : Int) ∧ (0 : Int) = (0 : Int) ∧ (0 : Int) = (0 : Int) ∧ true = true) ∧ (slow = false → (0 : Int) = (0 : Int) ∧ (0 : Int) = (0 : Int) ∧ (0 : Int) = (0 : Int) ∧ (0 : Int) = (0 : Int) ∧ (0 : Int) = (0 : Int) ∧ (0 : Int) = (0 : Int) ∧ (0 : Int) = (0 : Int) ∧ false = false ∧ (0 : Int) = (0 : Int) ∧ cs = cs ∧ ct = ct ∧ cf = cf ∧ cl = cl ∧ cp = cp ∧ th = th ∧ (1 : Int) = (1 : Int) ∧ key = key ∧ slow = false ∧ false = false ∧ (1 : Int) = (1 : Int) ∧ (0 : Int) = (0 : Int) ∧ (0 : Int) = (0 : Int) ∧ (0 : Int) = (0 : Int) ∧ (0 : Int) = (0 : Int) ∧ (0 : Int) = (0 : Int) ∧ (0 : Int) = (0 : Int) ∧ (0 : Int) = (0 : Int) ∧ (0 : Int) = (0 : Int) ∧ (0 : Int) = (0 : Int) ∧ (0 : Int) = (0 : Int) ∧ (0 : Int) = (0 : Int) ∧ (0 : Int) = (0 : Int) ∧ (0 : Int) = (0 : Int) ∧ (0 : Int) = (0 : Int) ∧ true = true))) ∧ (yLt th ct = false → (0 : Int) = (0 : Int) ∧ (0 : Int) = (0 : Int) ∧ (0 : Int) = (0 : Int) ∧ (0 : Int) = (0 : Int) ∧ (0 : Int) = (0 : Int) ∧ (0 : Int) = (0 : Int) ∧ (0 : Int) = (0 : Int) ∧ false = false ∧ (0 : Int) = (0 : Int) ∧ cs = (0 : Int) ∧ ct = (0 : Int) ∧ cf = (0 : Int) ∧ cl = (0 : Int) ∧ cp = (0 : Int) ∧ th = (0 : Int) ∧ (1 : Int) = (0 : Int) ∧ key = (0 : Int) ∧ slow = false ∧ false = false ∧ (1 : Int) = (0 : Int) ∧ (0 : Int) = (0 : Int) ∧ (0 : Int) = (0 : Int) ∧ (0 : Int) = (0 : Int) ∧ (0 : Int) = (0 : Int) ∧ (0 : Int) = (0 : Int) ∧ (0 : Int) = (0 : Int) ∧ (0 : Int) = (0 : Int) ∧ (0 : Int) = (0 : Int) ∧ (0 : Int) = (0 : Int) ∧ (0 : Int) = (0 : Int) ∧ (0 : Int) = (0 : Int) ∧ (0 : Int) = (0 : Int) ∧ (0 : Int) = (0 : Int) ∧ (0 : Int) = (0 : Int) ∧ true = true)) ∧ (yLe 0 th = false → (0 : Int) = (0 : Int) ∧ (0 : Int) = (0 : Int) ∧ (0 : Int) = (0 : Int) ∧ (0 : Int) = (0 : Int) ∧ (0 : Int) = (0 : Int) ∧ (0 : Int) = (0 : Int) ∧ (0 : Int) = (0 : Int) ∧ false = false ∧ (0 : Int) = (0 : Int) ∧ cs = (0 : Int) ∧ ct = (0 : Int) ∧ cf = (0 : Int) ∧ cl = (0 : Int) ∧ cp = (0 : Int) ∧ th = (0 : Int) ∧ (1 : Int) = (0 : Int) ∧ key = (0 : Int) ∧ slow = false ∧ false = false ∧ (1 : Int) = (0 : Int) ∧ (0 : Int) = (0 : Int) ∧ (0 : Int) = (0 : Int) ∧ (0 : Int) = (0 : Int) ∧ (0 : Int) = (0 : Int) ∧ (0 : Int) = (0 : Int) ∧ (0 : Int) = (0 : Int) ∧ (0 : Int) = (0 : Int) ∧ (0 : Int) = (0 : Int) ∧ (0 : Int) = (0 : Int) ∧ (0 : Int) = (0 : Int) ∧ (0 : Int) = (0 : Int) ∧ (0 : Int) = (0 : Int) ∧ (0 : Int) = (0 : Int) ∧ (0 : Int) = (0 : Int) ∧ true = true)))
theorem goalXn_eq : goalXn = goalXnV := by kernel_rfl
set_option maxHeartbeats 8000000 in
theorem goalXn_vc : goalXnV := by
 unfold goalXnV
 intro cs ct cf cl cp th key slow hp
 rw [yAnd_t] at hp
 have hc := rightC_iff.1 hp.1
 have h2 := hp.2
 simp only [vS, forall_const] at h2
 simp only [vS, forall_const, zP, zPv, zPn, zI, zH, zV, zN, zInr, zDp, zKey, zSlow, zChain, zSt, zOut, zSk, zSl, zSh, zSkey, zAt, zCh, zK0, zA0, zB0, zK1, zA1, zB1, zMn]
 repeat' (first | (refine And.intro (fun _ => ?_) (fun _ => ?_)) | intro _)
 all_goals (try simp (disch := omega) only [wrap64] at *)
 all_goals first
   | (exfalso; omega)
   | ((repeat' (apply And.intro)) <;> first | rfl | trivial)
   | (trace_state; fail)
theorem goalXn_tt : (goalXn) = True := goalXn_eq.trans (eq_true goalXn_vc)
theorem goalXn_ok : goalXn := @ft' goalXn goalXn_tt
def goalXdV : Prop := (∀ (cs ct cf cl cp th mo : Int) (W : WkS), (yNot (yEq (zSt W) 0) = true → wkDn W = (0 : Int) ∧ wkOk W = false ∧ true = true) ∧ (yNot (yEq (zSt W) 0) = false → (yEq (zOut W) (0 : Int) = true → wkDn W = (3 : Int) ∧ wkOk W = true ∧ true = true) ∧ (yEq (zOut W) (0 : Int) = false → wkDn W = zOut W ∧ wkOk W = true ∧ true = true)))
theorem goalXd_eq : goalXd = goalXdV := by kernel_rfl
set_option maxHeartbeats 8000000 in
theorem goalXd_vc : goalXdV := by
 unfold goalXdV
 intro cs ct cf cl cp th mo W
 simp only [vS, forall_const, zP, zPv, zPn, zI, zH, zV, zN, zInr, zDp, zKey, zSlow, zChain, zSt, zOut, zSk, zSl, zSh, zSkey, zAt, zCh, zK0, zA0, zB0, zK1, zA1, zB1, zMn]
 unfold wkDn wkOk
 repeat' (first | (refine And.intro (fun _ => ?_) (fun _ => ?_)) | intro _)
 all_goals (try ((repeat' (apply And.intro))))
 all_goals first
   | (exfalso; omega)
   | (rw [if_neg (by assumption)]; done)
   | (rw [if_pos (by assumption), if_pos (by assumption)]; done)
   | (rw [if_pos (by assumption), if_neg (by assumption)]; done)
   | exact decide_eq_true (by assumption)
   | exact decide_eq_false (by assumption)
   | (trace_state; fail)
theorem goalXd_tt : (goalXd) = True := goalXd_eq.trans (eq_true goalXd_vc)
theorem goalXd_ok : goalXd := @ft' goalXd goalXd_tt
def goalXwV : Prop := (∀ (cs ct cf cl cp th mo : Int) (W : WkS), yEq mo (1 : Int) = true → invX cs ct cf cl cp th W = true → (yAnd (yLe 0 (zH W)) (yLt (zH W) 18446744073709551616) = true → (yEq (zSt W) (1 : Int) = true → (rightC cs ct cf cl cp = true → wkK W = (1 : Int) ∧ wkA cs ct cf th W = verC cs ct cf 0 ∧ (0 : Int) = (0 : Int) ∧ wkN W = (0 : Int) ∧ true = true) ∧ (rightC cs ct cf cl cp = false → False)) ∧ (yEq (zSt W) (1 : Int) = false → (yEq (zSt W) (2 : Int) = true → (rightC cs ct cf cl cp = true → wkK W = (1 : Int) ∧ wkA cs ct cf th W = valC cs ct cf 0 0 ∧ (0 : Int) = (0 : Int) ∧ wkN W = (0 : Int) ∧ true = true) ∧ (rightC cs ct cf cl cp = false → False)) ∧ (yEq (zSt W) (2 : Int) = false → (yEq (zSt W) (3 : Int) = true → (yEq 2 (0 : Int) = true → False) ∧ (yEq 2 (0 : Int) = false → (rightC cs ct cf cl cp = true → wkK W = (2 : Int) ∧ wkA cs ct cf th W = hazC ct th (yRem (zDp W) 2) ∧ (0 : Int) = (0 : Int) ∧ wkN W = zH W ∧ true = true) ∧ (rightC cs ct cf cl cp = false → False))) ∧ (yEq (zSt W) (3 : Int) = false → (yEq (zSt W) (4 : Int) = true → (yEq (zSt W) (4 : Int) = true → (rightC cs ct cf cl cp = true → wkK W = (1 : Int) ∧ wkA cs ct cf th W = verC cs ct cf (slotC (zH W)) ∧ (0 : Int) = (0 : Int) ∧ wkN W = (0 : Int) ∧ true = true) ∧ (rightC cs ct cf cl cp = false → False)) ∧ (yEq (zSt W) (4 : Int) = false → (yEq (zSt W) (5 : Int) = true → (yAnd (yLe 0 (zP W)) (yLt (zP W) 18446744073709551616) = true → (rightC cs ct cf cl cp = true → wkK W = (1 : Int) ∧ wkA cs ct cf th W = verC cs ct cf (slotC (zP W)) ∧ (0 : Int) = (0 : Int) ∧ wkN W = (0 : Int) ∧ true = true) ∧ (rightC cs ct cf cl cp = false → False)) ∧ (yAnd (yLe 0 (zP W)) (yLt (zP W) 18446744073709551616) = false → False)) ∧ (yEq (zSt W) (5 : Int) = false → (yEq (zSt W) (6 : Int) = true → (rightC cs ct cf cl cp = true → wkK W = (1 : Int) ∧ wkA cs ct cf th W = shapeC cs ct cf (slotC (zH W)) ∧ (0 : Int) = (0 : Int) ∧ wkN W = (0 : Int) ∧ true = true) ∧ (rightC cs ct cf cl cp = false → False)) ∧ (yEq (zSt W) (6 : Int) = false → (yEq (zSt W) (7 : Int) = true → (yLe (zSh W) (zSl W) = true → (rightC cs ct cf cl cp = true → wkK W = (1 : Int) ∧ wkA cs ct cf th W = keyC cs ct cf (slotC (zH W)) (-1 : Int) ∧ (0 : Int) = (0 : Int) ∧ wkN W = (0 : Int) ∧ true = true) ∧ (rightC cs ct cf cl cp = false → False)) ∧ (yLe (zSh W) (zSl W) = false → (yEq 2 (0 : Int) = true → False) ∧ (yEq 2 (0 : Int) = false → (rightC cs ct cf cl cp = true → wkK W = (1 : Int) ∧ wkA cs ct cf th W = keyC cs ct cf (slotC (zH W)) (yWrap IntKind.i64 (yAdd (zSl W) (yQuo IntKind.i64 (yWrap IntKind.i64 (ySub (zSh W) (zSl W))) 2))) ∧ (0 : Int) = (0 : Int) ∧ wkN W = (0 : Int) ∧ true = true) ∧ (rightC cs ct cf cl cp = false → False)))) ∧ (yEq (zSt W) (7 : Int) = false → (yEq (zSt W) (8 : Int) = true → (rightC cs ct cf cl cp = true → wkK W = (1 : Int) ∧ wkA cs ct cf th W = valC cs ct cf (slotC (zH W)) (zAt W) ∧ (0 : Int) = (0 : Int) ∧ wkN W = (0 : Int) ∧ true = true) ∧ (rightC cs ct cf cl cp = false → False)) ∧ (yEq (zSt W) (8 : Int) = false → wkK W = (0 : Int) ∧ wkA cs ct cf th W = (0 : Int) ∧ (0 : Int) = (0 : Int) ∧ wkN W = (0 : Int) ∧ true = true)))))) ∧ (yEq (zSt W) (4 : Int) = false → (yEq (zSt W) (9 : Int) = true → (rightC cs ct cf cl cp = true → wkK W = (1 : Int) ∧ wkA cs ct cf th W = verC cs ct cf (slotC (zH W)) ∧ (0 : Int) = (0 : Int) ∧ wkN W = (0 : Int) ∧ true = true) ∧ (rightC cs ct cf cl cp = false → False)) ∧ (yEq (zSt W) (9 : Int) = false → (yEq (zSt W) (5 : Int) = true → (yAnd (yLe 0 (zP W)) (yLt (zP W) 18446744073709551616) = true → (rightC cs ct cf cl cp = true → wkK W = (1 : Int) ∧ wkA cs ct cf th W = verC cs ct cf (slotC (zP W)) ∧ (0 : Int) = (0 : Int) ∧ wkN W = (0 : Int) ∧ true = true) ∧ (rightC cs ct cf cl cp = false → False)) ∧ (yAnd (yLe 0 (zP W)) (yLt (zP W) 18446744073709551616) = false → False)) ∧ (yEq (zSt W) (5 : Int) = false → (yEq (zSt W) (6 : Int) = true → (rightC cs ct cf cl cp = true → wkK W = (1 : Int) ∧ wkA cs ct cf th W = shapeC cs ct cf (slotC (zH W)) ∧ (0 : Int) = (0 : Int) ∧ wkN W = (0 : Int) ∧ true = true) ∧ (rightC cs ct cf cl cp = false → False)) ∧ (yEq (zSt W) (6 : Int) = false → (yEq (zSt W) (7 : Int) = true → (yLe (zSh W) (zSl W) = true → (rightC cs ct cf cl cp = true → wkK W = (1 : Int) ∧ wkA cs ct cf th W = keyC cs ct cf (slotC (zH W)) (-1 : Int) ∧ (0 : Int) = (0 : Int) ∧ wkN W = (0 : Int) ∧ true = true) ∧ (rightC cs ct cf cl cp = false → False)) ∧ (yLe (zSh W) (zSl W) = false → (yEq 2 (0 : Int) = true → False) ∧ (yEq 2 (0 : Int) = false → (rightC cs ct cf cl cp = true → wkK W = (1 : Int) ∧ wkA cs ct cf th W = keyC cs ct cf (slotC (zH W)) (yWrap IntKind.i64 (yAdd (zSl W) (yQuo IntKind.i64 (yWrap IntKind.i64 (ySub (zSh W) (zSl W))) 2))) ∧ (0 : Int) = (0 : Int) ∧ wkN W = (0 : Int) ∧ true = true) ∧ (rightC cs ct cf cl cp = false → False)))) ∧ (yEq (zSt W) (7 : Int) = false → (yEq (zSt W) (8 : Int) = true → (rightC cs ct cf cl cp = true → wkK W = (1 : Int) ∧ wkA cs ct cf th W = valC cs ct cf (slotC (zH W)) (zAt W) ∧ (0 : Int) = (0 : Int) ∧ wkN W = (0 : Int) ∧ true = true) ∧ (rightC cs ct cf cl cp = false → False)) ∧ (yEq (zSt W) (8 : Int) = false → wkK W = (0 : Int) ∧ wkA cs ct cf th W = (0 : Int) ∧ (0 : Int) = (0 : Int) ∧ wkN W = (0 : Int) ∧ true = true)))))))))) ∧ (yAnd (yLe 0 (zH W)) (yLt (zH W) 18446744073709551616) = false → False))
theorem goalXw_eq : goalXw = goalXwV := by kernel_rfl
set_option maxHeartbeats 8000000 in
theorem goalXw_vc : goalXwV := by
 unfold goalXwV
 intro cs ct cf cl cp th mo W hmo hi
 obtain ⟨i1, i2, i3, i4, ⟨i5, i6, i7, i8⟩, ⟨i9, i10⟩, ⟨i11, i12⟩, ⟨i13, i14⟩, ⟨i15, i16⟩⟩ := invX_iff.1 hi
 have hc := rightC_iff.1 i1
 have i2' := i2
 have i3' := i3
 simp only [inU, vS, forall_const] at i2' i3'
 have er : yRem W.dp 2 = W.dp % 2 := by unfold yRem; exact Int.tmod_eq_emod_of_nonneg i9
 simp only [vS, forall_const, zP, zPv, zPn, zI, zH, zV, zN, zInr, zDp, zKey, zSlow, zChain, zSt, zOut, zSk, zSl, zSh, zSkey, zAt, zCh, zK0, zA0, zB0, zK1, zA1, zB1, zMn, i1, er, or_false]
 repeat' (first | (refine And.intro (fun _ => ?_) (fun _ => ?_)) | intro _)
 all_goals (try simp (disch := omega) only [wrap64, quo2] at *)
 all_goals first
   | (exfalso; omega)
   | (unfold wkK wkA wkN midX
      (repeat' (apply And.intro)) <;> first | trivial | ((repeat' split) <;> first | rfl | (exfalso; omega) | omega))
   | (trace_state; fail)
theorem goalXw_tt : (goalXw) = True := goalXw_eq.trans (eq_true goalXw_vc)
theorem goalXw_ok : goalXw := @ft' goalXw goalXw_tt
theorem smBe {f : FuncId} (hm : Tryd.prog.follows .mixedOrders = true) (hg : goalBe Tryd.prog f) : SmCall Tryd.prog f (fun args h => (ctS gBe fBe args h).sel) :=
 ctS_ok hm noSm_ok (by decide) (fun ds a hd => by
   unfold fBe at hd
   split at hd
   · rename_i hh ww
     simp only [Option.some.injEq, Prod.mk.injEq] at hd
     obtain ⟨h1, rfl⟩ := hd
     exact ⟨fun _ => none, 1000, @hg hh ww h1⟩
   · cases hd)
theorem smLkI {f : FuncId} (hm : Tryd.prog.follows .mixedOrders = true) (hg : goalInn Tryd.prog f) : SmCall Tryd.prog f (fun args h => (ctS gW (fLk innC) args h).sel) :=
 ctS_ok hm noSm_ok (by decide) (fun ds a hd => by
   unfold fLk at hd
   split at hd
   · rename_i ww
     simp only [Option.some.injEq, Prod.mk.injEq] at hd
     obtain ⟨h1, rfl⟩ := hd
     exact ⟨fun _ => none, 1000, @hg ww h1⟩
   · cases hd)
theorem smEnt {f : FuncId} (hm : Tryd.prog.follows .mixedOrders = true) (hg : goalEnt Tryd.prog f) : SmCall Tryd.prog f (fun args h => (ctS gEnt fEn args h).sel) :=
 ctS_ok hm noSm_ok (by decide) (fun ds a hd => by
   unfold fEn at hd
   split at hd
   · rename_i ww ff
     simp only [Option.some.injEq, Prod.mk.injEq] at hd
     obtain ⟨h1, rfl⟩ := hd
     exact ⟨fun _ => none, 1000, @hg ww ff h1⟩
   · cases hd)
theorem smHz (hm : Tryd.prog.follows .mixedOrders = true) : SmCall Tryd.prog 45 (fun args h => (ctS gL2 fHz args h).sel) :=
 ctS_ok hm noSm_ok (by decide) (fun ds a hd => by
   unfold fHz at hd
   split at hd
   · rename_i s t f l p th i
     simp only [Option.some.injEq, Prod.mk.injEq] at hd
     obtain ⟨h1, rfl⟩ := hd
     have g := @goalHz_ok
     unfold goalHz at g
     exact ⟨fun _ => none, 1000, @g s t f l p th i h1⟩
   · cases hd)
theorem lWk_ok (hm : Tryd.prog.follows .mixedOrders = true) : SmAll Tryd.prog lWk :=
 ⟨smHr hm @goalHr_ok, smSl16 hm @goalSl16_ok, smBe hm @goalBeP_ok, smLkI hm @goalLkP_ok, smLkI hm @goalInP_ok, smEnt hm @goalEnP_ok, smVer hm, smVal hm, smL2 hm @goalKey_ok, smL1 hm @goalShp_ok, smHz hm, trivial⟩
end Go.Proofs.YtinijejfhmcmdaaDoor.Ex
end
section
namespace Go.Proofs.YtinijejfhmcmdaaDoor.Ex
open Go
abbrev dWkM (st mo cs ct cf cl cp th : Int) (W : WkS) : Dx := .l [.v (.y .u64 (zP W)), .v (.y .u64 (zPv W)), .v (.y .i64 (zPn W)), .v (.y .i64 (zI W)), .v (.y .u64 (zH W)), .v (.y .u64 (zV W)), .v (.y .i64 (zN W)), .v (.yb (zInr W)), .v (.y .i64 (zDp W)), .v (.y .i64 cs), .v (.y .i64 ct), .v (.y .i64 cf), .v (.y .i64 cl), .v (.y .i64 cp), .v (.y .i64 th), .v (.i .i64 mo), .v (.y .u64 (zKey W)), .v (.yb (zSlow W)), .v (.yb (zChain W)), .v (.i .i64 st), .v (.y .i64 (zOut W)), .v (.y .i64 (zSk W)), .v (.y .i64 (zSl W)), .v (.y .i64 (zSh W)), .v (.y .u64 (zSkey W)), .v (.y .i64 (zAt W)), .v (.y .u64 (zCh W)), .v (.y .i64 (zK0 W)), .v (.y .u64 (zA0 W)), .v (.y .u64 (zB0 W)), .v (.y .i64 (zK1 W)), .v (.y .u64 (zA1 W)), .v (.y .u64 (zB1 W)), .v (.y .i64 (zMn W))]
set_option maxHeartbeats 16000000 in
theorem litX {M : Mp} {us : List Value} {l : List (Int × Bool)} {got k : Int} (hr : AV.RL M (canXs nmI [sWk, .sc] [.l (unpK kWk l), .v (.y .u64 got)] []).1 us) (c : (wOf l).st = k) (hmo : (hdP l.tail.tail.tail.tail.tail.tail.tail.tail.tail.tail.tail.tail.tail.tail.tail).1 = 1) :
   AV.RL M (canXs nmI [sWk, .sc] [dWkL k (hdP l.tail.tail.tail.tail.tail.tail.tail.tail.tail).1 (hdP l.tail.tail.tail.tail.tail.tail.tail.tail.tail.tail).1 (hdP l.tail.tail.tail.tail.tail.tail.tail.tail.tail.tail.tail).1 (hdP l.tail.tail.tail.tail.tail.tail.tail.tail.tail.tail.tail.tail).1 (hdP l.tail.tail.tail.tail.tail.tail.tail.tail.tail.tail.tail.tail.tail).1 (hdP l.tail.tail.tail.tail.tail.tail.tail.tail.tail.tail.tail.tail.tail.tail).1 (wOf l), .v (.y .u64 got)] []).1 us := by
 have t : AV.RL M (canXs nmI [sWk, .sc] [dWkM (wOf l).st (hdP l.tail.tail.tail.tail.tail.tail.tail.tail.tail.tail.tail.tail.tail.tail.tail).1 (hdP l.tail.tail.tail.tail.tail.tail.tail.tail.tail).1 (hdP l.tail.tail.tail.tail.tail.tail.tail.tail.tail.tail).1 (hdP l.tail.tail.tail.tail.tail.tail.tail.tail.tail.tail.tail).1 (hdP l.tail.tail.tail.tail.tail.tail.tail.tail.tail.tail.tail.tail).1 (hdP l.tail.tail.tail.tail.tail.tail.tail.tail.tail.tail.tail.tail.tail).1 (hdP l.tail.tail.tail.tail.tail.tail.tail.tail.tail.tail.tail.tail.tail.tail).1 (wOf l), .v (.y .u64 got)] []).1 us := hr
 rw [c, hmo] at t
 exact t
set_option maxHeartbeats 16000000 in
theorem smXt (hm : Tryd.prog.follows .mixedOrders = true) : SmCall Tryd.prog 15 (fun args h => (ctX [sWk, .sc] sWk fXt args h).sel) :=
 ctX_lit hm (smL_ok (lWk_ok hm)) (fun ds r post h => by
   unfold fXt at h
   split at h
   · rename_i wd got
     split at h
     · rename_i l hp
       obtain rfl := parseK_ok hp
       simp only [Option.some.injEq, Prod.mk.injEq] at h
       obtain ⟨h1, rfl, rfl⟩ := h
       simp only [yAnd_t, yEq_t] at h1
       obtain ⟨⟨hmo, h2⟩, h3⟩ := h1
       have i := (invX_iff.1 h3).2.2.2.2.2.2.1
       by_cases c0 : (wOf l).st = 0
       · have g := @goalXt0_ok
         unfold goalXt0 at g
         exact ⟨[dWkL 0 (hdP l.tail.tail.tail.tail.tail.tail.tail.tail.tail).1 (hdP l.tail.tail.tail.tail.tail.tail.tail.tail.tail.tail).1 (hdP l.tail.tail.tail.tail.tail.tail.tail.tail.tail.tail.tail).1 (hdP l.tail.tail.tail.tail.tail.tail.tail.tail.tail.tail.tail.tail).1 (hdP l.tail.tail.tail.tail.tail.tail.tail.tail.tail.tail.tail.tail.tail).1 (hdP l.tail.tail.tail.tail.tail.tail.tail.tail.tail.tail.tail.tail.tail.tail).1 (wOf l), .v (.y .u64 got)], fun _ => none, 1000, fun M us hr => litX hr c0 hmo, @g (hdP l.tail.tail.tail.tail.tail.tail.tail.tail.tail).1 (hdP l.tail.tail.tail.tail.tail.tail.tail.tail.tail.tail).1 (hdP l.tail.tail.tail.tail.tail.tail.tail.tail.tail.tail.tail).1 (hdP l.tail.tail.tail.tail.tail.tail.tail.tail.tail.tail.tail.tail).1 (hdP l.tail.tail.tail.tail.tail.tail.tail.tail.tail.tail.tail.tail.tail).1 (hdP l.tail.tail.tail.tail.tail.tail.tail.tail.tail.tail.tail.tail.tail.tail).1 (wOf l) got h3 h2 c0⟩
       by_cases c1 : (wOf l).st = 1
       · have g := @goalXt1_ok
         unfold goalXt1 at g
         have e : tkX (hdP l.tail.tail.tail.tail.tail.tail.tail.tail.tail).1 (hdP l.tail.tail.tail.tail.tail.tail.tail.tail.tail.tail.tail).1 (wOf l) got = tk1 (wOf l) got := by
           unfold tkX; rw [if_pos c1]
         rw [e]
         exact ⟨[dWkL 1 (hdP l.tail.tail.tail.tail.tail.tail.tail.tail.tail).1 (hdP l.tail.tail.tail.tail.tail.tail.tail.tail.tail.tail).1 (hdP l.tail.tail.tail.tail.tail.tail.tail.tail.tail.tail.tail).1 (hdP l.tail.tail.tail.tail.tail.tail.tail.tail.tail.tail.tail.tail).1 (hdP l.tail.tail.tail.tail.tail.tail.tail.tail.tail.tail.tail.tail.tail).1 (hdP l.tail.tail.tail.tail.tail.tail.tail.tail.tail.tail.tail.tail.tail.tail).1 (wOf l), .v (.y .u64 got)], fun _ => none, 1000, fun M us hr => litX hr c1 hmo, @g (hdP l.tail.tail.tail.tail.tail.tail.tail.tail.tail).1 (hdP l.tail.tail.tail.tail.tail.tail.tail.tail.tail.tail).1 (hdP l.tail.tail.tail.tail.tail.tail.tail.tail.tail.tail.tail).1 (hdP l.tail.tail.tail.tail.tail.tail.tail.tail.tail.tail.tail.tail).1 (hdP l.tail.tail.tail.tail.tail.tail.tail.tail.tail.tail.tail.tail.tail).1 (hdP l.tail.tail.tail.tail.tail.tail.tail.tail.tail.tail.tail.tail.tail.tail).1 (wOf l) got h3 h2 c1⟩
       by_cases c2 : (wOf l).st = 2
       · have g := @goalXt2_ok
         unfold goalXt2 at g
         have e : tkX (hdP l.tail.tail.tail.tail.tail.tail.tail.tail.tail).1 (hdP l.tail.tail.tail.tail.tail.tail.tail.tail.tail.tail.tail).1 (wOf l) got = tk2 (hdP l.tail.tail.tail.tail.tail.tail.tail.tail.tail).1 (wOf l) got := by
           unfold tkX; rw [if_neg (show ¬ (wOf l).st = 1 by omega), if_pos c2]
         rw [e]
         exact ⟨[dWkL 2 (hdP l.tail.tail.tail.tail.tail.tail.tail.tail.tail).1 (hdP l.tail.tail.tail.tail.tail.tail.tail.tail.tail.tail).1 (hdP l.tail.tail.tail.tail.tail.tail.tail.tail.tail.tail.tail).1 (hdP l.tail.tail.tail.tail.tail.tail.tail.tail.tail.tail.tail.tail).1 (hdP l.tail.tail.tail.tail.tail.tail.tail.tail.tail.tail.tail.tail.tail).1 (hdP l.tail.tail.tail.tail.tail.tail.tail.tail.tail.tail.tail.tail.tail.tail).1 (wOf l), .v (.y .u64 got)], fun _ => none, 1000, fun M us hr => litX hr c2 hmo, @g (hdP l.tail.tail.tail.tail.tail.tail.tail.tail.tail).1 (hdP l.tail.tail.tail.tail.tail.tail.tail.tail.tail.tail).1 (hdP l.tail.tail.tail.tail.tail.tail.tail.tail.tail.tail.tail).1 (hdP l.tail.tail.tail.tail.tail.tail.tail.tail.tail.tail.tail.tail).1 (hdP l.tail.tail.tail.tail.tail.tail.tail.tail.tail.tail.tail.tail.tail).1 (hdP l.tail.tail.tail.tail.tail.tail.tail.tail.tail.tail.tail.tail.tail.tail).1 (wOf l) got h3 h2 c2⟩
       by_cases c3 : (wOf l).st = 3
       · have g := @goalXt3_ok
         unfold goalXt3 at g
         exact ⟨[dWkL 3 (hdP l.tail.tail.tail.tail.tail.tail.tail.tail.tail).1 (hdP l.tail.tail.tail.tail.tail.tail.tail.tail.tail.tail).1 (hdP l.tail.tail.tail.tail.tail.tail.tail.tail.tail.tail.tail).1 (hdP l.tail.tail.tail.tail.tail.tail.tail.tail.tail.tail.tail.tail).1 (hdP l.tail.tail.tail.tail.tail.tail.tail.tail.tail.tail.tail.tail.tail).1 (hdP l.tail.tail.tail.tail.tail.tail.tail.tail.tail.tail.tail.tail.tail.tail).1 (wOf l), .v (.y .u64 got)], fun _ => none, 1000, fun M us hr => litX hr c3 hmo, @g (hdP l.tail.tail.tail.tail.tail.tail.tail.tail.tail).1 (hdP l.tail.tail.tail.tail.tail.tail.tail.tail.tail.tail).1 (hdP l.tail.tail.tail.tail.tail.tail.tail.tail.tail.tail.tail).1 (hdP l.tail.tail.tail.tail.tail.tail.tail.tail.tail.tail.tail.tail).1 (hdP l.tail.tail.tail.tail.tail.tail.tail.tail.tail.tail.tail.tail.tail).1 (hdP l.tail.tail.tail.tail.tail.tail.tail.tail.tail.tail.tail.tail.tail.tail).1 (wOf l) got h3 h2 c3⟩
       by_cases c4 : (wOf l).st = 4
       · have g := @goalXt4_ok
         unfold goalXt4 at g
         have e : tkX (hdP l.tail.tail.tail.tail.tail.tail.tail.tail.tail).1 (hdP l.tail.tail.tail.tail.tail.tail.tail.tail.tail.tail.tail).1 (wOf l) got = tk4 (wOf l) got := by
           unfold tkX; rw [if_neg (show ¬ (wOf l).st = 1 by omega), if_neg (show ¬ (wOf l).st = 2 by omega), if_neg (show ¬ (wOf l).st = 3 by omega), if_pos c4]
         rw [e]
         exact ⟨[dWkL 4 (hdP l.tail.tail.tail.tail.tail.tail.tail.tail.tail).1 (hdP l.tail.tail.tail.tail.tail.tail.tail.tail.tail.tail).1 (hdP l.tail.tail.tail.tail.tail.tail.tail.tail.tail.tail.tail).1 (hdP l.tail.tail.tail.tail.tail.tail.tail.tail.tail.tail.tail.tail).1 (hdP l.tail.tail.tail.tail.tail.tail.tail.tail.tail.tail.tail.tail.tail).1 (hdP l.tail.tail.tail.tail.tail.tail.tail.tail.tail.tail.tail.tail.tail.tail).1 (wOf l), .v (.y .u64 got)], fun _ => none, 1000, fun M us hr => litX hr c4 hmo, @g (hdP l.tail.tail.tail.tail.tail.tail.tail.tail.tail).1 (hdP l.tail.tail.tail.tail.tail.tail.tail.tail.tail.tail).1 (hdP l.tail.tail.tail.tail.tail.tail.tail.tail.tail.tail.tail).1 (hdP l.tail.tail.tail.tail.tail.tail.tail.tail.tail.tail.tail.tail).1 (hdP l.tail.tail.tail.tail.tail.tail.tail.tail.tail.tail.tail.tail.tail).1 (hdP l.tail.tail.tail.tail.tail.tail.tail.tail.tail.tail.tail.tail.tail.tail).1 (wOf l) got h3 h2 c4⟩
       by_cases c5 : (wOf l).st = 5
       · have g := @goalXt5_ok
         unfold goalXt5 at g
         have e : tkX (hdP l.tail.tail.tail.tail.tail.tail.tail.tail.tail).1 (hdP l.tail.tail.tail.tail.tail.tail.tail.tail.tail.tail.tail).1 (wOf l) got = tk5 (wOf l) got := by
           unfold tkX; rw [if_neg (show ¬ (wOf l).st = 1 by omega), if_neg (show ¬ (wOf l).st = 2 by omega), if_neg (show ¬ (wOf l).st = 3 by omega), if_neg (show ¬ (wOf l).st = 4 by omega), if_pos c5]
         rw [e]
         exact ⟨[dWkL 5 (hdP l.tail.tail.tail.tail.tail.tail.tail.tail.tail).1 (hdP l.tail.tail.tail.tail.tail.tail.tail.tail.tail.tail).1 (hdP l.tail.tail.tail.tail.tail.tail.tail.tail.tail.tail.tail).1 (hdP l.tail.tail.tail.tail.tail.tail.tail.tail.tail.tail.tail.tail).1 (hdP l.tail.tail.tail.tail.tail.tail.tail.tail.tail.tail.tail.tail.tail).1 (hdP l.tail.tail.tail.tail.tail.tail.tail.tail.tail.tail.tail.tail.tail.tail).1 (wOf l), .v (.y .u64 got)], fun _ => none, 1000, fun M us hr => litX hr c5 hmo, @g (hdP l.tail.tail.tail.tail.tail.tail.tail.tail.tail).1 (hdP l.tail.tail.tail.tail.tail.tail.tail.tail.tail.tail).1 (hdP l.tail.tail.tail.tail.tail.tail.tail.tail.tail.tail.tail).1 (hdP l.tail.tail.tail.tail.tail.tail.tail.tail.tail.tail.tail.tail).1 (hdP l.tail.tail.tail.tail.tail.tail.tail.tail.tail.tail.tail.tail.tail).1 (hdP l.tail.tail.tail.tail.tail.tail.tail.tail.tail.tail.tail.tail.tail.tail).1 (wOf l) got h3 h2 c5⟩
       by_cases c6 : (wOf l).st = 6
       · have g := @goalXt6_ok
         unfold goalXt6 at g
         have e : tkX (hdP l.tail.tail.tail.tail.tail.tail.tail.tail.tail).1 (hdP l.tail.tail.tail.tail.tail.tail.tail.tail.tail.tail.tail).1 (wOf l) got = tk6 (hdP l.tail.tail.tail.tail.tail.tail.tail.tail.tail.tail.tail).1 (wOf l) got := by
           unfold tkX; rw [if_neg (show ¬ (wOf l).st = 1 by omega), if_neg (show ¬ (wOf l).st = 2 by omega), if_neg (show ¬ (wOf l).st = 3 by omega), if_neg (show ¬ (wOf l).st = 4 by omega), if_neg (show ¬ (wOf l).st = 5 by omega), if_pos c6]
         rw [e]
         exact ⟨[dWkL 6 (hdP l.tail.tail.tail.tail.tail.tail.tail.tail.tail).1 (hdP l.tail.tail.tail.tail.tail.tail.tail.tail.tail.tail).1 (hdP l.tail.tail.tail.tail.tail.tail.tail.tail.tail.tail.tail).1 (hdP l.tail.tail.tail.tail.tail.tail.tail.tail.tail.tail.tail.tail).1 (hdP l.tail.tail.tail.tail.tail.tail.tail.tail.tail.tail.tail.tail.tail).1 (hdP l.tail.tail.tail.tail.tail.tail.tail.tail.tail.tail.tail.tail.tail.tail).1 (wOf l), .v (.y .u64 got)], fun _ => none, 1000, fun M us hr => litX hr c6 hmo, @g (hdP l.tail.tail.tail.tail.tail.tail.tail.tail.tail).1 (hdP l.tail.tail.tail.tail.tail.tail.tail.tail.tail.tail).1 (hdP l.tail.tail.tail.tail.tail.tail.tail.tail.tail.tail.tail).1 (hdP l.tail.tail.tail.tail.tail.tail.tail.tail.tail.tail.tail.tail).1 (hdP l.tail.tail.tail.tail.tail.tail.tail.tail.tail.tail.tail.tail.tail).1 (hdP l.tail.tail.tail.tail.tail.tail.tail.tail.tail.tail.tail.tail.tail.tail).1 (wOf l) got h3 h2 c6⟩
       by_cases c7 : (wOf l).st = 7
       · have g := @goalXt7_ok
         unfold goalXt7 at g
         have e : tkX (hdP l.tail.tail.tail.tail.tail.tail.tail.tail.tail).1 (hdP l.tail.tail.tail.tail.tail.tail.tail.tail.tail.tail.tail).1 (wOf l) got = tk7 (wOf l) got := by
           unfold tkX; rw [if_neg (show ¬ (wOf l).st = 1 by omega), if_neg (show ¬ (wOf l).st = 2 by omega), if_neg (show ¬ (wOf l).st = 3 by omega), if_neg (show ¬ (wOf l).st = 4 by omega), if_neg (show ¬ (wOf l).st = 5 by omega), if_neg (show ¬ (wOf l).st = 6 by omega), if_pos c7]
         rw [e]
         exact ⟨[dWkL 7 (hdP l.tail.tail.tail.tail.tail.tail.tail.tail.tail).1 (hdP l.tail.tail.tail.tail.tail.tail.tail.tail.tail.tail).1 (hdP l.tail.tail.tail.tail.tail.tail.tail.tail.tail.tail.tail).1 (hdP l.tail.tail.tail.tail.tail.tail.tail.tail.tail.tail.tail.tail).1 (hdP l.tail.tail.tail.tail.tail.tail.tail.tail.tail.tail.tail.tail.tail).1 (hdP l.tail.tail.tail.tail.tail.tail.tail.tail.tail.tail.tail.tail.tail.tail).1 (wOf l), .v (.y .u64 got)], fun _ => none, 1000, fun M us hr => litX hr c7 hmo, @g (hdP l.tail.tail.tail.tail.tail.tail.tail.tail.tail).1 (hdP l.tail.tail.tail.tail.tail.tail.tail.tail.tail.tail).1 (hdP l.tail.tail.tail.tail.tail.tail.tail.tail.tail.tail.tail).1 (hdP l.tail.tail.tail.tail.tail.tail.tail.tail.tail.tail.tail.tail).1 (hdP l.tail.tail.tail.tail.tail.tail.tail.tail.tail.tail.tail.tail.tail).1 (hdP l.tail.tail.tail.tail.tail.tail.tail.tail.tail.tail.tail.tail.tail.tail).1 (wOf l) got h3 h2 c7⟩
       by_cases c8 : (wOf l).st = 8
       · have g := @goalXt8_ok
         unfold goalXt8 at g
         exact ⟨[dWkL 8 (hdP l.tail.tail.tail.tail.tail.tail.tail.tail.tail).1 (hdP l.tail.tail.tail.tail.tail.tail.tail.tail.tail.tail).1 (hdP l.tail.tail.tail.tail.tail.tail.tail.tail.tail.tail.tail).1 (hdP l.tail.tail.tail.tail.tail.tail.tail.tail.tail.tail.tail.tail).1 (hdP l.tail.tail.tail.tail.tail.tail.tail.tail.tail.tail.tail.tail.tail).1 (hdP l.tail.tail.tail.tail.tail.tail.tail.tail.tail.tail.tail.tail.tail.tail).1 (wOf l), .v (.y .u64 got)], fun _ => none, 1000, fun M us hr => litX hr c8 hmo, @g (hdP l.tail.tail.tail.tail.tail.tail.tail.tail.tail).1 (hdP l.tail.tail.tail.tail.tail.tail.tail.tail.tail.tail).1 (hdP l.tail.tail.tail.tail.tail.tail.tail.tail.tail.tail.tail).1 (hdP l.tail.tail.tail.tail.tail.tail.tail.tail.tail.tail.tail.tail).1 (hdP l.tail.tail.tail.tail.tail.tail.tail.tail.tail.tail.tail.tail.tail).1 (hdP l.tail.tail.tail.tail.tail.tail.tail.tail.tail.tail.tail.tail.tail.tail).1 (wOf l) got h3 h2 c8⟩
       by_cases c9 : (wOf l).st = 9
       · have g := @goalXt9_ok
         unfold goalXt9 at g
         have e : tkX (hdP l.tail.tail.tail.tail.tail.tail.tail.tail.tail).1 (hdP l.tail.tail.tail.tail.tail.tail.tail.tail.tail.tail.tail).1 (wOf l) got = tk9 (hdP l.tail.tail.tail.tail.tail.tail.tail.tail.tail).1 (wOf l) got := by
           unfold tkX; rw [if_neg (show ¬ (wOf l).st = 1 by omega), if_neg (show ¬ (wOf l).st = 2 by omega), if_neg (show ¬ (wOf l).st = 3 by omega), if_neg (show ¬ (wOf l).st = 4 by omega), if_neg (show ¬ (wOf l).st = 5 by omega), if_neg (show ¬ (wOf l).st = 6 by omega), if_neg (show ¬ (wOf l).st = 7 by omega), if_neg (show ¬ (wOf l).st = 8 by omega), if_pos c9]
         rw [e]
         exact ⟨[dWkL 9 (hdP l.tail.tail.tail.tail.tail.tail.tail.tail.tail).1 (hdP l.tail.tail.tail.tail.tail.tail.tail.tail.tail.tail).1 (hdP l.tail.tail.tail.tail.tail.tail.tail.tail.tail.tail.tail).1 (hdP l.tail.tail.tail.tail.tail.tail.tail.tail.tail.tail.tail.tail).1 (hdP l.tail.tail.tail.tail.tail.tail.tail.tail.tail.tail.tail.tail.tail).1 (hdP l.tail.tail.tail.tail.tail.tail.tail.tail.tail.tail.tail.tail.tail.tail).1 (wOf l), .v (.y .u64 got)], fun _ => none, 1000, fun M us hr => litX hr c9 hmo, @g (hdP l.tail.tail.tail.tail.tail.tail.tail.tail.tail).1 (hdP l.tail.tail.tail.tail.tail.tail.tail.tail.tail.tail).1 (hdP l.tail.tail.tail.tail.tail.tail.tail.tail.tail.tail.tail).1 (hdP l.tail.tail.tail.tail.tail.tail.tail.tail.tail.tail.tail.tail).1 (hdP l.tail.tail.tail.tail.tail.tail.tail.tail.tail.tail.tail.tail.tail).1 (hdP l.tail.tail.tail.tail.tail.tail.tail.tail.tail.tail.tail.tail.tail.tail).1 (wOf l) got h3 h2 c9⟩
       exfalso; omega
     · cases h
   · cases h)
set_option maxHeartbeats 16000000 in
theorem smXw (hm : Tryd.prog.follows .mixedOrders = true) : SmCall Tryd.prog 16 (fun args h => (ctX [sWk] rW4 fXw args h).sel) :=
 ctX_ok hm (smL_ok (lWk_ok hm)) (fun ds r post h => by
   unfold fXw at h
   split at h
   · rename_i wd
     split at h
     · rename_i l hp
       obtain rfl := parseK_ok hp
       simp only [Option.some.injEq, Prod.mk.injEq] at h
       obtain ⟨h1, rfl, rfl⟩ := h
       rw [yAnd_t] at h1
       have g := @goalXw_ok
       unfold goalXw at g
       exact ⟨fun _ => none, 1000, @g (hdP l.tail.tail.tail.tail.tail.tail.tail.tail.tail).1 (hdP l.tail.tail.tail.tail.tail.tail.tail.tail.tail.tail).1 (hdP l.tail.tail.tail.tail.tail.tail.tail.tail.tail.tail.tail).1 (hdP l.tail.tail.tail.tail.tail.tail.tail.tail.tail.tail.tail.tail).1 (hdP l.tail.tail.tail.tail.tail.tail.tail.tail.tail.tail.tail.tail.tail).1 (hdP l.tail.tail.tail.tail.tail.tail.tail.tail.tail.tail.tail.tail.tail.tail).1 (hdP l.tail.tail.tail.tail.tail.tail.tail.tail.tail.tail.tail.tail.tail.tail.tail).1 (wOf l) h1.1 h1.2⟩
     · cases h
   · cases h)
set_option maxHeartbeats 16000000 in
theorem smXd (hm : Tryd.prog.follows .mixedOrders = true) : SmCall Tryd.prog 14 (fun args h => (ctX [sWk] (.tup [.sc, .sc]) fXd args h).sel) :=
 ctX_ok hm noSm_ok (fun ds r post h => by
   unfold fXd at h
   split at h
   · rename_i wd
     split at h
     · rename_i l hp
       obtain rfl := parseK_ok hp
       simp only [Option.some.injEq, Prod.mk.injEq] at h
       obtain ⟨h1, rfl, rfl⟩ := h
       have g := @goalXd_ok
       unfold goalXd at g
       exact ⟨fun _ => none, 1000, @g (hdP l.tail.tail.tail.tail.tail.tail.tail.tail.tail).1 (hdP l.tail.tail.tail.tail.tail.tail.tail.tail.tail.tail).1 (hdP l.tail.tail.tail.tail.tail.tail.tail.tail.tail.tail.tail).1 (hdP l.tail.tail.tail.tail.tail.tail.tail.tail.tail.tail.tail.tail).1 (hdP l.tail.tail.tail.tail.tail.tail.tail.tail.tail.tail.tail.tail.tail).1 (hdP l.tail.tail.tail.tail.tail.tail.tail.tail.tail.tail.tail.tail.tail.tail).1 (hdP l.tail.tail.tail.tail.tail.tail.tail.tail.tail.tail.tail.tail.tail.tail.tail).1 (wOf l) ⟩
     · cases h
   · cases h)
set_option maxHeartbeats 16000000 in
theorem smXn (hm : Tryd.prog.follows .mixedOrders = true) : SmCall Tryd.prog 12 (fun args h => (ctX [sConfL, .sc, .sc, .sc, .sc] sWk fXn args h).sel) :=
 ctX_lit hm noSm_ok (fun ds r post h => by
   unfold fXn at h
   split at h
   · rename_i cs ct cf cl cp th mo key slow
     simp only [Option.some.injEq, Prod.mk.injEq] at h
     obtain ⟨h1, rfl, rfl⟩ := h
     simp only [yAnd_t, yEq_t] at h1
     obtain ⟨h1, ⟨h2, h3⟩, rfl⟩ := h1
     have g := @goalXn_ok
     unfold goalXn at g
     exact ⟨[.l [.v (.y .i64 cs), .v (.y .i64 ct), .v (.y .i64 cf), .v (.y .i64 cl), .v (.y .i64 cp)], .v (.y .i64 th), .v (.i .i64 1), .v (.y .u64 key), .v (.yb slow)], fun _ => none, 1000, fun M us hr => hr, @g cs ct cf cl cp th key slow (by simp only [yAnd_t]; exact ⟨h1, h2, h3⟩)⟩
   · cases h)
end Go.Proofs.YtinijejfhmcmdaaDoor.Ex
end
section
namespace Go.Proofs.YtinijejfhmcmdaaDoor.Ex
open Go
def ptIdW (tm : Tr AV) (t : Nat) : List Nat := match evT tm (.tmp t) with | .ptr id _ => [id] | _ => []
def tmpIdW (tm : Tr AV) (t : Nat) : List Nat := match evT tm (.tmp t) with | .ysl _ _ id _ _ _ => [id] | .sl id _ _ _ _ => [id] | _ => []
abbrev cellsW' (s : Sx) (d : Dx) : List AV := match (canX nmI s d []).1 with | .agg vs => vs | _ => []
def r13C (i : Bool) (nk : Nat) (k : Nat → Int) (nv : Nat) : Bool := decide (i = true ∧ 1 ≤ nv ∧ nk + 1 = nv ∧ risesB k nk = true)
def leC (k : Nat → Int) (x : Int) : Nat → Nat
 | 0 => 0
 | n + 1 => leC k x n + if k n ≤ x then 1 else 0
theorem leC_le {k : Nat → Int} {x : Int} : ∀ n, leC k x n ≤ n
 | 0 => Nat.le_refl _
 | n + 1 => by have := leC_le (k := k) (x := x) n; unfold leC; split <;> omega
abbrev gNd : List Ag := [.agg [none, cU, cU, none]]
abbrev gNd2 : List Ag := [.agg [none, cU, cU, none], .cell none]
abbrev dNdA (i kn : Bool) (nk : Nat) (k : Nat → Int) (vn : Bool) (nv : Nat) (v : Nat → Int) (l : Int) : Da := .agg [.v (.yb i), .rows kn nk [.int .u64 k], .rows vn nv [.int .u64 v], .v (.y .u64 l)]
def fR13 (ds : List Da) : Option (Bool × AV) :=
 match ds with
 | [.agg [.v (.yb i), .rows _ nk [.int .u64 k], .rows _ nv [.int .u64 _], .v (.y .u64 _)]] => some (yAnd (yNle nk 1000000) (yNle nv 1000000), .yb (r13C i nk k nv))
 | _ => none
def prR13 (nk : Nat) (k : Nat → Int) (i : Nat) : Prop := 1 ≤ i ∧ (i ≤ nk ∨ i = 1) ∧ Rises k i
def annR13 (nk : Nat) (k : Nat → Int) (b : Nat) : Option (St → LoopA) :=
 match b with
 | 0 => some fun _ => { ι := Nat, tms := [3], tmU := fun i => [.y .i64 (yInt i)], ids := [], hpU := fun _ => [], del := [], ex := 0, pre := prR13 nk k, ms := msFit nk }
 | _ => none
def goalR13 : Prop := ∀ (i kn : Bool) (nk : Nat) (k : Nat → Int) (vn : Bool) (nv : Nat) (v : Nat → Int) (l : Int), yAnd (yNle nk 1000000) (yNle nv 1000000) = true →
 wxF Tryd.prog noSm (annR13 nk k) 1000 26 (canA gNd [dNdA i kn nk k vn nv v l] []).1 (heapOf (canA gNd [dNdA i kn nk k vn nv v l] []).2) (fun u _ => cmpC (.yb (r13C i nk k nv)) u)
def fCh13 (ds : List Da) : Option (Bool × AV) :=
 match ds with
 | [.agg [.v (.yb _), .rows _ nk [.int .u64 k], .rows _ _ [.int .u64 _], .v (.y .u64 _)], .cell (.v (.y .u64 x))] => some (yNle nk 1000000, .y .i64 (yInt (leC k x nk)))
 | _ => none
def annCh13 (nk : Nat) (k : Nat → Int) (x : Int) (b : Nat) : Option (St → LoopA) :=
 match b with
 | 0 => some fun _ => { ι := Nat, tms := [5, 6], tmU := fun i => [.y .i64 (yInt (leC k x i)), .y .i64 (yInt i)], ids := [], hpU := fun _ => [], del := [], ex := 0, pre := prFd nk, ms := msFit nk }
 | _ => none
def goalCh13 : Prop := ∀ (i kn : Bool) (nk : Nat) (k : Nat → Int) (vn : Bool) (nv : Nat) (v : Nat → Int) (l x : Int), yNle nk 1000000 = true →
 wxF Tryd.prog noSm (annCh13 nk k x) 1000 27 (canA gNd2 [dNdA i kn nk k vn nv v l, .cell (.v (.y .u64 x))] []).1 (heapOf (canA gNd2 [dNdA i kn nk k vn nv v l, .cell (.v (.y .u64 x))] []).2) (fun u _ => cmpC (.y .i64 (yInt (leC k x nk))) u)
def wuC (n : Nat) (w : Nat → Int) : Bool := decide (∀ a, a < n → 0 ≤ w a ∧ w a < 18446744073709551616)
def leafF (cs ct cf : Int) (w : Nat → Int) (key : Int) : Nat → Int → Int
 | 0, _ => 0
 | m + 1, h => if hrC h cs = true ∧ beginC h (w (yNat (verC cs ct cf (slotC h)))) = 3 then
     (if ndI ct cf (slotC h) w = true then
       (if r13C true (ndM true (ndN ct cf (slotC h) w)) (ndK ct cf (slotC h) w) (ndN ct cf (slotC h) w) = true then leafF cs ct cf w key m (ndVl ct cf (slotC h) w (leC (ndK ct cf (slotC h) w) key (ndM true (ndN ct cf (slotC h) w)))) else 0)
     else slotC h) else 0
def fLf (m : Int) (ds : List Dx) : Option (Bool × Dx × List (List Dx)) :=
 match ds with
 | [.l [.v (.y .i64 s), .v (.y .i64 t), .v (.y .i64 f), .v (.y .i64 l), .v (.y .i64 p)], .rows _ n [.int .u64 w], .v (.y .u64 h), .v (.y .u64 key), .v (.y .i64 deep)] =>
   some (yAnd (rightC s t f l p) (yAnd (yAnd (yNeq n (sizeN s t f)) (wuC n w)) (yAnd (inU h) (yAnd (yEq (yAdd deep m) (yAdd s 1)) (yAnd (yLe 0 m) (yLe 0 deep))))), .v (.y .i64 (leafF s t f w key (yNat m) h)), [])
 | _ => none
def lLf (m : Int) : List (Nat × Sm) := [(9, .ct (ctX [sConf, roU, .sc, .sc, .sc] .sc (fLf m))), (17, .ct (ctS gW fSl16)), (24, .ct (ctS gHr fHr)), (25, .ct (ctS gBe fBe)), (11, .ct (ctS gL1 (fR1 verC))),
 (18, .ct (ctX [sConf, roU, .sc] sNdP fNd)), (26, .ct (ctS gNd fR13)), (27, .ct (ctS gNd2 fCh13))]
def preLf (s t f l p : Int) (n : Nat) (w : Nat → Int) (h deep m : Int) : Bool := yAnd (rightC s t f l p) (yAnd (yAnd (yNeq n (sizeN s t f)) (wuC n w)) (yAnd (inU h) (yAnd (yEq (yAdd deep m) (yAdd s 1)) (yAnd (yLe 0 m) (yLe 0 deep)))))
def goalLf : Prop := ∀ (m s t f l p : Int) (mn : Bool) (n : Nat) (w : Nat → Int) (h key deep : Int), preLf s t f l p n w h deep m = true →
 wxP Tryd.prog (smL (lLf (ySub m 1))) (fun _ => none) 9 [sConf, roU, .sc, .sc, .sc] [dCf s t f l p, .rows mn n [.int .u64 w], .v (.y .u64 h), .v (.y .u64 key), .v (.y .i64 deep)] .sc (.v (.y .i64 (leafF s t f w key (yNat m) h))) []
def fLnW (ds : List Dx) : Option (Bool × Dx × List (List Dx)) :=
 match ds with
 | [.l [.v (.y .i64 s), .v (.y .i64 t), .v (.y .i64 f), .v (.y .i64 l), .v (.y .i64 p)]] => some (rightC s t f l p, dCf s t f l p, [])
 | _ => none
def lLn : List (Nat × Sm) := [(30, .ct (ctS gConf fRight))]
def goalLnW : Prop := ∀ (s t f l p : Int), rightC s t f l p = true → wxP Tryd.prog (smL lLn) (fun _ => none) 13 [sConf] [dCf s t f l p] sConf (dCf s t f l p) []
def foldA (n : Nat) (w : Nat → Int) (a b : Nat → Int) : Nat → Nat → Int
 | 0 => w
 | i + 1 => doW 2 (a i) 0 (b i) n (foldA n w a b i)
structure WmI where
 c : WkS
 i : Nat
 w : Nat → Int
instance : Inhabited WmI := ⟨⟨default, 0, fun _ => 0⟩⟩
def gotY (cs ct cf : Int) (n : Nat) (x : WmI) : Int := doR (wkK x.c) (wkA cs ct cf 0 x.c) 0 n x.w
def stpY (cs ct cf : Int) (n : Nat) (x : WmI) : WmI := ⟨tkX cs cf x.c (gotY cs ct cf n x), x.i + 1, doW (wkK x.c) (wkA cs ct cf 0 x.c) 0 (wkN x.c) n x.w⟩
def runY (cs ct cf : Int) (n : Nat) (x : WmI) : Nat → WmI
 | 0 => x
 | i + 1 => stpY cs ct cf n (runY cs ct cf n x i)
def prY (cs ct cf : Int) (n : Nat) (x0 : WmI) (T : Nat) (x : WmI) : Prop := x.i ≤ T ∧ x = runY cs ct cf n x0 x.i
def msY (T : Nat) (x : WmI) : Nat := T - x.i
def wStart (cs ct cf : Int) (m : Nat) (a b : Nat → Int) : Nat → Int := foldA (sizeN cs ct cf) (newW cs ct cf) a b m
def x0Y (cs ct cf : Int) (m : Nat) (a b : Nat → Int) (key : Int) (slow : Bool) : WmI := ⟨wk0 key slow, 0, wStart cs ct cf m a b⟩
def wantC (cs ct cf : Int) (m : Nat) (a b : Nat → Int) (key : Int) : Int := leafF cs ct cf (wStart cs ct cf m a b) key (yNat (cs + 1)) (wStart cs ct cf m a b (yNat (valC cs ct cf 0 0)))
def annWf (cs ct cf cl cp : Int) (n m : Nat) (a b : Nat → Int) (x0 : WmI) (T : Nat) (k : Nat) : Option (St → LoopA) :=
 match k with
 | 0 => some fun z => { ι := Nat, tms := [10], tmU := fun i => [.y .i64 (yInt i)], ids := tmpIdW z.tm 9, hpU := fun i => [arM n (foldA n (newW cs ct cf) a b i)], del := [], ex := 0, pre := prFd m, ms := msFit m }
 | 1 => some fun z => { ι := WmI, tms := [14, 15], tmU := fun x => [.yb (wkOk x.c), .y .i64 (yInt x.i)], ids := ptIdW z.tm 12 ++ tmpIdW z.tm 9, hpU := fun x => [.cells (cellsW' sWk (dWk cs ct cf cl cp 0 1 x.c)) 48 none, arM n x.w], del := [], ex := 0, pre := prY cs ct cf n x0 T, ms := msY T }
 | _ => none
def fLfT (ds : List Dx) : Option (Bool × Dx × List (List Dx)) :=
 match ds with
 | [.l [.v (.y .i64 s), .v (.y .i64 t), .v (.y .i64 f), .v (.y .i64 l), .v (.y .i64 p)], .rows _ n [.int .u64 w], .v (.y .u64 h), .v (.y .u64 key), .v (.y .i64 deep)] =>
   some (yAnd (rightC s t f l p) (yAnd (yAnd (yNeq n (sizeN s t f)) (wuC n w)) (yAnd (inU h) (yEq deep 0))), .v (.y .i64 (leafF s t f w key (yNat (yAdd s 1)) h)), [])
 | _ => none
noncomputable def tyY (cs ct cf : Int) (m : Nat) (a b : Nat → Int) (key : Int) (slow : Bool) : Nat := Classical.epsilon fun T => (runY cs ct cf (sizeN cs ct cf) (x0Y cs ct cf m a b key slow) T).c.st = 0 ∧ ∀ i, i < T → (runY cs ct cf (sizeN cs ct cf) (x0Y cs ct cf m a b key slow) i).c.st ≠ 0
def lWf : List (Nat × Sm) := [(4, .ct (ctS gConf fWrgT)), (5, .ct (ctS gConf fSz)), (6, .call (smB true)), (7, .ct (ctX [sConf] ownU fNw)), (8, .ct (ctX [mutU, rW4] .sc fDo)),
 (10, .ct (ctS gL2 (fR2 valC))), (9, .ct (ctX [sConf, roU, .sc, .sc, .sc] .sc (fLfT))), (11, .ct (ctS gL1 (fR1 verC))), (13, .ct (ctX [sConf] sConf fLnW)), (12, .ct (ctX [sConfL, .sc, .sc, .sc, .sc] sWk fXn)),
 (14, .ct (ctX [sWk] (.tup [.sc, .sc]) fXd)), (16, .ct (ctX [sWk] rW4 fXw)), (15, .ct (ctX [sWk, .sc] sWk fXt)), (17, .ct (ctS gW fSl16)), (18, .ct (ctX [sConf, roU, .sc] sNdP fNd))]
def lWfF (m : Nat) : List (Nat × Sm) := [(4, .ct (ctS gConf (fWrongK m))), (6, .call (smB true))]
abbrev aWf (cs ct cf cl cp : Int) (mn : Bool) (m : Nat) (a b : Nat → Int) (key : Int) (slow : Bool) : List AV :=
 [.agg [.y .i64 cs, .y .i64 ct, .y .i64 cf, .y .i64 cl, .y .i64 cp], .lst false mn 2 m (colF [.int .i64 a, .int .u64 b]), .y .u64 key, .yb slow]
def goalWfF : Prop := ∀ (q : Nat) (cs ct cf cl cp : Int) (mn : Bool) (m : Nat) (a b : Nat → Int) (key : Int) (slow : Bool), yEq (wrongC cs ct cf cl cp) (Int.ofNat q) = true →
 wxF Tryd.prog (smL (lWfF q)) (fun _ => none) 1000 3 (aWf cs ct cf cl cp mn m a b key slow) heap0 (fun v _ => cmpC (.yb true) v)
def goalWf : Prop := ∀ (cs ct cf cl cp : Int) (mn : Bool) (m : Nat) (a b : Nat → Int) (key : Int) (slow : Bool) (x0 : WmI) (T : Nat), rightC cs ct cf cl cp = true → inU key = true → (∀ (i : Nat), i < m → inU (b i) = true) →
 x0 = x0Y cs ct cf m a b key slow → T = tyY cs ct cf m a b key slow →
 wxF Tryd.prog (smL lWf) (annWf cs ct cf cl cp (sizeN cs ct cf) m a b x0 T) 1000 3 (aWf cs ct cf cl cp mn m a b key slow) heap0 (fun v _ => cmpC (.yb true) v)
end Go.Proofs.YtinijejfhmcmdaaDoor.Ex
end
section
namespace Go.Proofs.YtinijejfhmcmdaaDoor.Ex
open Go
theorem fork_t {p : Bool} {X Y : Prop} (h : p = true) (x : X) : (p = true → X) ∧ (p = false → Y) := ⟨fun _ => x, fun e => absurd (h.symm.trans e) (by decide)⟩
theorem fork_f {p : Bool} {X Y : Prop} (h : p = false) (y : Y) : (p = true → X) ∧ (p = false → Y) := ⟨fun e => absurd (h.symm.trans e) (by decide), fun _ => y⟩
theorem mstI {p : Bool} {X : Prop} (h : p = true) (x : X) : mst p X := ⟨fun _ => x, fun e => absurd (h.symm.trans e) (by decide)⟩
theorem yCol1 {n : Nat} {f : Nat → Int} : (yCol (CK.int IntKind.u64) n fun (i : Nat) => AV.y IntKind.u64 (f i)) = true := yCol_int
theorem r13_t {i : Bool} {nk : Nat} {k : Nat → Int} {nv : Nat} : r13C i nk k nv = true ↔ (i = true ∧ 1 ≤ nv ∧ nk + 1 = nv ∧ Rises k nk) := by unfold r13C; rw [decide_eq_true_iff, risesB_iff]
theorem r13_f {i : Bool} {nk : Nat} {k : Nat → Int} {nv : Nat} : r13C i nk k nv = false ↔ ¬ (i = true ∧ 1 ≤ nv ∧ nk + 1 = nv ∧ Rises k nk) := by unfold r13C; rw [decide_eq_false_iff_not, risesB_iff]
def goalR13V : Prop := (∀ (i kn : Bool) (nk : Nat) (k : Nat → Int) (vn : Bool) (nv : Nat) (v : Nat → Int) (l : Int), yAnd (yNle nk 1000000) (yNle nv 1000000) = true → (yNot i = true → r13C i nk k nv = false) ∧ (yNot i = false → (yLt (yInt nv) (1 : Int) = true → r13C i nk k nv = false) ∧ (yLt (yInt nv) (1 : Int) = false → (yNot (yEq (yWrap IntKind.i64 (yAdd (yInt nk) 1)) (yInt nv)) = true → r13C i nk k nv = false) ∧ (yNot (yEq (yWrap IntKind.i64 (yAdd (yInt nk) 1)) (yInt nv)) = false → true = true ∧ (∃ (i0 : Nat), prR13 nk k i0 ∧ true = true ∧ yInt i0 = (1 : Int) ∧ true = true) ∧ ∀ (g : Nat → AV) (i_1 : Nat), prR13 nk k i_1 → (yLt (yInt i_1) (yInt nk) = true → (yIn (yInt i_1) nk = true → (yNlt (yNadd 0 (yNat (yInt i_1))) nk = true → (yIn (yWrap IntKind.i64 (ySub (yInt i_1) 1)) nk = true → (yNlt (yNadd 0 (yNat (yWrap IntKind.i64 (ySub (yInt i_1) 1)))) nk = true → (yLe (k (yNadd 0 (yNat (yInt i_1)))) (k (yNadd 0 (yNat (yWrap IntKind.i64 (ySub (yInt i_1) 1))))) = true → r13C i nk k nv = false) ∧ (yLe (k (yNadd 0 (yNat (yInt i_1)))) (k (yNadd 0 (yNat (yWrap IntKind.i64 (ySub (yInt i_1) 1))))) = false → true = true ∧ ∃ (i' : Nat), prR13 nk k i' ∧ Nat.succ (msFit nk i') ≤ msFit nk i_1 ∧ true = true ∧ yInt i' = yWrap IntKind.i64 (yAdd (yInt i_1) 1) ∧ true = true)) ∧ (yNlt (yNadd 0 (yNat (yWrap IntKind.i64 (ySub (yInt i_1) 1)))) nk = false → False)) ∧ (yIn (yWrap IntKind.i64 (ySub (yInt i_1) 1)) nk = false → False)) ∧ (yNlt (yNadd 0 (yNat (yInt i_1))) nk = false → False)) ∧ (yIn (yInt i_1) nk = false → False)) ∧ (yLt (yInt i_1) (yInt nk) = false → r13C i nk k nv = true)))))
theorem goalR13_eq : goalR13 = goalR13V := by kernel_rfl
set_option maxHeartbeats 8000000 in
theorem goalR13_vc : goalR13V := by
 unfold goalR13V
 intro i kn nk k vn nv v l hn
 simp only [vS, forall_const, prR13, msFit] at hn ⊢
 cases i
 all_goals simp only [vS, forall_const, r13_t, r13_f, true_and, false_and, not_false_iff]
 all_goals repeat' (first | apply And.intro | intro (_ : Nat → AV) i hi | intro _)
 all_goals (try simp (disch := omega) only [wrap64, yNatSub] at *)
 all_goals first
   | omega
   | trivial
   | exact ⟨1, ⟨Nat.le_refl _, .inr rfl, fun j hj => by omega⟩, rfl⟩
   | (refine ⟨i + 1, ⟨by omega, by omega, hi.2.2.step fun h => by omega⟩, by omega, by omega⟩; done)
   | (exact absurd (‹1 ≤ nv ∧ _ ∧ Rises k nk›).2.2 (Rises.not (i := i) (by omega) (by omega) (by omega)))
   | exact hi.2.2 _ (by omega)
   | (trace_state; fail)
theorem goalR13_tt : (goalR13) = True := goalR13_eq.trans (eq_true goalR13_vc)
theorem goalR13_ok : goalR13 := @ft' goalR13 goalR13_tt
def goalCh13V : Prop := (∀ (i kn : Bool) (nk : Nat) (k : Nat → Int) (vn : Bool) (nv : Nat) (v : Nat → Int) (l x : Int), yNle nk (nat_lit 1000000) = true → true = true ∧ (∃ (i0 : Nat), prFd nk i0 ∧ true = true ∧ yInt (leC k x i0) = (0 : Int) ∧ yInt i0 = (0 : Int) ∧ true = true) ∧ ∀ (g : Nat → AV) (i : Nat), prFd nk i → (yLt (yInt i) (yInt nk) = true → (yIn (yInt i) nk = true → (yNlt (yNadd 0 (yNat (yInt i))) nk = true → (yLe (k (yNadd 0 (yNat (yInt i)))) x = true → true = true ∧ ∃ (i' : Nat), prFd nk i' ∧ Nat.succ (msFit nk i') ≤ msFit nk i ∧ true = true ∧ yInt (leC k x i') = yWrap IntKind.i64 (yAdd (yInt (leC k x i)) 1) ∧ yInt i' = yWrap IntKind.i64 (yAdd (yInt i) 1) ∧ true = true) ∧ (yLe (k (yNadd 0 (yNat (yInt i)))) x = false → true = true ∧ ∃ (i' : Nat), prFd nk i' ∧ Nat.succ (msFit nk i') ≤ msFit nk i ∧ true = true ∧ yInt (leC k x i') = yInt (leC k x i) ∧ yInt i' = yWrap IntKind.i64 (yAdd (yInt i) 1) ∧ true = true)) ∧ (yNlt (yNadd 0 (yNat (yInt i))) nk = false → False)) ∧ (yIn (yInt i) nk = false → False)) ∧ (yLt (yInt i) (yInt nk) = false → yInt (leC k x nk) = yInt (leC k x i)))
theorem goalCh13_eq : goalCh13 = goalCh13V := by kernel_rfl
set_option maxHeartbeats 8000000 in
theorem goalCh13_vc : goalCh13V := by
 unfold goalCh13V
 intro i kn nk k vn nv v l x hn
 simp only [vS, forall_const, msFit, prFd] at hn ⊢
 have hle := fun i => leC_le (k := k) (x := x) i
 repeat' (first | apply And.intro | intro (_ : Nat → AV) i hi | intro _)
 all_goals first
   | (exfalso; omega)
   | exact ⟨0, by omega, rfl, rfl⟩
   | (have e : yNat (i : Int) = i := by unfold yNat; omega
      have hl := hle i
      refine ⟨i + 1, by omega, by omega, ?_, by rw [wrap64 (by omega) (by omega)]; omega⟩
      show ((leC k x i + if k i ≤ x then 1 else 0 : Nat) : Int) = _
      first
        | (rw [if_pos (by assumption), wrap64 (by omega) (by omega)]; omega)
        | (rw [if_neg (by omega)]; omega))
   | (have e : i = nk := by omega
      subst e
      rfl)
   | (trace_state; fail)
theorem goalCh13_tt : (goalCh13) = True := goalCh13_eq.trans (eq_true goalCh13_vc)
theorem goalCh13_ok : goalCh13 := @ft' goalCh13 goalCh13_tt
def goalLnWV : Prop := (∀ (s t f l p : Int), rightC s t f l p = true → mst (true) ((yNot (rightC s t f l p) = true → s = (0 : Int) ∧ t = (0 : Int) ∧ f = (0 : Int) ∧ l = (0 : Int) ∧ p = (0 : Int) ∧ true = true) ∧ (yNot (rightC s t f l p) = false → s = s ∧ t = t ∧ f = f ∧ l = l ∧ p = p ∧ true = true)))
theorem goalLnW_eq : goalLnW = goalLnWV := by kernel_rfl
set_option maxHeartbeats 8000000 in
theorem goalLnW_vc : goalLnWV := by
 unfold goalLnWV
 intro s t f l p hr
 exact mstI rfl (fork_f (by rw [hr]; rfl) ⟨rfl, rfl, rfl, rfl, rfl, rfl⟩)
theorem goalLnW_tt : (goalLnW) = True := goalLnW_eq.trans (eq_true goalLnW_vc)
theorem goalLnW_ok : goalLnW := @ft' goalLnW goalLnW_tt
def goalWfFV : Prop := (∀ (q : Nat) (cs ct cf cl cp : Int) (mn : Bool) (m : Nat) (a b : Nat → Int) (key : Int) (slow : Bool), yEq (wrongC cs ct cf cl cp) (Int.ofNat q) = true → (yLt 300 (yInt m) = true → true = true) ∧ (yLt 300 (yInt m) = false → (yEq (wrongC cs ct cf cl cp) (Int.ofNat q) = true → true = true) ∧ (yEq (wrongC cs ct cf cl cp) (Int.ofNat q) = false → False)))
theorem goalWfF_eq : goalWfF = goalWfFV := by kernel_rfl
set_option maxHeartbeats 8000000 in
theorem goalWfF_vc : goalWfFV := by
 unfold goalWfFV
 intro q cs ct cf cl cp mn m a b key slow h
 by_cases c : 300 < (m : Int)
 · exact fork_t (yLt_t.mpr c) rfl
 · exact fork_f (yLt_f.mpr (Int.not_lt.mp c)) (mstI h rfl)
theorem goalWfF_tt : (goalWfF) = True := goalWfF_eq.trans (eq_true goalWfF_vc)
theorem goalWfF_ok : goalWfF := @ft' goalWfF goalWfF_tt
theorem wuC_iff {n : Nat} {w : Nat → Int} : wuC n w = true ↔ ∀ a, a < n → 0 ≤ w a ∧ w a < 18446744073709551616 := decide_eq_true_iff
def goalLfV : Prop := (∀ (m s t f l p : Int) (mn : Bool) (n : Nat) (w : Nat → Int) (h key deep : Int), yAnd (rightC s t f l p) (yAnd (yAnd (yNeq n (sizeN s t f)) (wuC n w)) (yAnd (yAnd (yLe 0 h) (yLt h 18446744073709551616)) (yAnd (yEq (yAdd deep m) (yAdd s 1)) (yAnd (yLe 0 m) (yLe 0 deep))))) = true → mst (yAnd (yLe 0 h) (yLt h 18446744073709551616)) (mst (yAnd (yLe 0 h) (yLt h 18446744073709551616)) ((yNot (hrC h s) = true → leafF s t f w key (yNat m) h = (0 : Int) ∧ true = true) ∧ (yNot (hrC h s) = false → (yLt s deep = true → leafF s t f w key (yNat m) h = (0 : Int) ∧ true = true) ∧ (yLt s deep = false → mst (yAnd (rightC s t f l p) (yAnd (yLe 0 (slotC h)) (yLe (slotC h) s))) (mst (yIn (verC s t f (slotC h)) n) (mst (yNlt (yNadd 0 (yNat (verC s t f (slotC h)))) n) (mst (yAnd (yAnd (yLe 0 h) (yLt h 18446744073709551616)) (yAnd (yLe 0 (w (yNadd 0 (yNat (verC s t f (slotC h)))))) (yLt (w (yNadd 0 (yNat (verC s t f (slotC h))))) 18446744073709551616))) ((yNot (yEq (beginC h (w (yNadd 0 (yNat (verC s t f (slotC h)))))) 3) = true → leafF s t f w key (yNat m) h = (0 : Int) ∧ true = true) ∧ (yNot (yEq (beginC h (w (yNadd 0 (yNat (verC s t f (slotC h)))))) 3) = false → mst (yNle (yNadd 0 n) n) (mst (yCol (CK.int IntKind.u64) n fun (i : Nat) => AV.y IntKind.u64 (w i)) (mst (yAnd (rightC s t f l p) (yAnd (yAnd (yLe 0 (slotC h)) (yLe (slotC h) s)) (yAnd (yNeq n (sizeN s t f)) (yAnd (yLe 0 (ndS t f (slotC h) fun (i : Nat) => w i)) (yLt (ndS t f (slotC h) fun (i : Nat) => w i) 18446744073709551616))))) ((yNot (ndI t f (slotC h) fun (i : Nat) => w i) = true → leafF s t f w key (yNat m) h = slotC h ∧ true = true) ∧ (yNot (ndI t f (slotC h) fun (i : Nat) => w i) = false → mst (yCol (CK.int IntKind.u64) (ndM (ndI t f (slotC h) fun (i : Nat) => w i) (ndN t f (slotC h) fun (i : Nat) => w i)) fun (i : Nat) => AV.y IntKind.u64 (ndK t f (slotC h) (fun (i : Nat) => w i) i)) (mst (yCol (CK.int IntKind.u64) (ndN t f (slotC h) fun (i : Nat) => w i) fun (i : Nat) => AV.y IntKind.u64 (ndVl t f (slotC h) (fun (i : Nat) => w i) i)) (mst (yAnd (yNle (ndM (ndI t f (slotC h) fun (i : Nat) => w i) (ndN t f (slotC h) fun (i : Nat) => w i)) 1000000) (yNle (ndN t f (slotC h) fun (i : Nat) => w i) 1000000)) ((yNot (r13C (ndI t f (slotC h) fun (i : Nat) => w i) (ndM (ndI t f (slotC h) fun (i : Nat) => w i) (ndN t f (slotC h) fun (i : Nat) => w i)) (fun (i : Nat) => ndK t f (slotC h) (fun (i : Nat) => w i) i) (ndN t f (slotC h) fun (i : Nat) => w i)) = true → leafF s t f w key (yNat m) h = (0 : Int) ∧ true = true) ∧ (yNot (r13C (ndI t f (slotC h) fun (i : Nat) => w i) (ndM (ndI t f (slotC h) fun (i : Nat) => w i) (ndN t f (slotC h) fun (i : Nat) => w i)) (fun (i : Nat) => ndK t f (slotC h) (fun (i : Nat) => w i) i) (ndN t f (slotC h) fun (i : Nat) => w i)) = false → mst (yCol (CK.int IntKind.u64) (ndM (ndI t f (slotC h) fun (i : Nat) => w i) (ndN t f (slotC h) fun (i : Nat) => w i)) fun (i : Nat) => AV.y IntKind.u64 (ndK t f (slotC h) (fun (i : Nat) => w i) i)) (mst (yCol (CK.int IntKind.u64) (ndN t f (slotC h) fun (i : Nat) => w i) fun (i : Nat) => AV.y IntKind.u64 (ndVl t f (slotC h) (fun (i : Nat) => w i) i)) (mst (yNle (ndM (ndI t f (slotC h) fun (i : Nat) => w i) (ndN t f (slotC h) fun (i : Nat) => w i)) 1000000) (mst (yIn (yInt (leC (fun (i : Nat) => ndK t f (slotC h) (fun (i : Nat) => w i) i) key (ndM (ndI t f (slotC h) fun (i : Nat) => w i) (ndN t f (slotC h) fun (i : Nat) => w i)))) (ndN t f (slotC h) fun (i : Nat) => w i)) (mst (yNle (yNadd 0 n) n) (mst (yCol (CK.int IntKind.u64) n fun (i : Nat) => AV.y IntKind.u64 (w i)) (mst (yAnd (rightC s t f l p) (yAnd (yAnd (yNeq n (sizeN s t f)) (wuC n fun (i : Nat) => w i)) (yAnd (yAnd (yLe 0 (ndVl t f (slotC h) (fun (i : Nat) => w i) (yNat (yInt (leC (fun (i : Nat) => ndK t f (slotC h) (fun (i : Nat) => w i) i) key (ndM (ndI t f (slotC h) fun (i : Nat) => w i) (ndN t f (slotC h) fun (i : Nat) => w i))))))) (yLt (ndVl t f (slotC h) (fun (i : Nat) => w i) (yNat (yInt (leC (fun (i : Nat) => ndK t f (slotC h) (fun (i : Nat) => w i) i) key (ndM (ndI t f (slotC h) fun (i : Nat) => w i) (ndN t f (slotC h) fun (i : Nat) => w i)))))) 18446744073709551616)) (yAnd (yEq (yAdd (yWrap IntKind.i64 (yAdd deep 1)) (ySub m 1)) (yAdd s 1)) (yAnd (yLe 0 (ySub m 1)) (yLe 0 (yWrap IntKind.i64 (yAdd deep 1)))))))) (leafF s t f w key (yNat m) h = leafF s t f (fun (i : Nat) => w i) key (yNat (ySub m 1)) (ndVl t f (slotC h) (fun (i : Nat) => w i) (yNat (yInt (leC (fun (i : Nat) => ndK t f (slotC h) (fun (i : Nat) => w i) i) key (ndM (ndI t f (slotC h) fun (i : Nat) => w i) (ndN t f (slotC h) fun (i : Nat) => w i)))))) ∧ true = true)))))))))))))))))))))))))
theorem goalLf_eq : goalLf = goalLfV := by kernel_rfl
set_option maxHeartbeats 8000000 in
theorem goalLf_vc : goalLfV := by
 unfold goalLfV
 intro m s t f l p mn n w h key deep hpre
 have hp := hpre
 simp only [vS, forall_const] at hp
 obtain ⟨hr, ⟨en, hwu⟩, ⟨h0, h1⟩, hd, hm0, hd0⟩ := hp
 subst en
 have hwu' := wuC_iff.1 hwu
 have hu : yAnd (yLe (0 : Int) h) (yLt h (18446744073709551616 : Int)) = true := by simp only [vS, forall_const]; omega
 have hrr := rightC_iff.1 hr
 have z : ∀ {q : Nat}, ¬ (hrC h s = true) → leafF s t f w key q h = 0 := fun {q} c => by
   cases q with
   | zero => rfl
   | succ q => unfold leafF; rw [if_neg fun e => c e.1]
 refine mstI hu (mstI hu ?_)
 cases ch : hrC h s with
 | false => exact fork_t rfl ⟨z (by rw [ch]; decide), rfl⟩
 | true =>
 refine fork_f rfl ?_
 by_cases cd : s < deep
 · have e : yNat m = 0 := by unfold yNat; omega
   rw [e]
   exact fork_t (yLt_t.mpr cd) ⟨rfl, rfl⟩
 refine fork_f (yLt_f.mpr (Int.not_lt.mp cd)) ?_
 obtain ⟨c1, c2, c3⟩ := hrC_t.1 ch
 have s1 : slotC h = h % 65536 := rfl
 obtain ⟨eB, room, h3, hbig, eF, eS, g4, g64⟩ := slot_room hr (slot := slotC h) (by omega) (by omega)
 have eV := verN (cs := s) eB ⟨by omega, by omega⟩
 have pv : yAnd (rightC s t f l p) (yAnd (yLe (0 : Int) (slotC h)) (yLe (slotC h) s)) = true := by simp only [vS, forall_const, hr]; omega
 have iV : yIn (verC s t f (slotC h)) (sizeN s t f) = true := by rw [eV]; simp only [vS, forall_const]; omega
 have iV' : yNlt (yNadd 0 (yNat (verC s t f (slotC h)))) (sizeN s t f) = true := by rw [eV, yNatN]; simp only [vS, forall_const]; omega
 have wv := hwu' (nB t f (slotC h)) (by omega)
 have ws := hwu' (nB t f (slotC h) + 1) (by omega)
 have eA : yNadd 0 (yNat (verC s t f (slotC h))) = nB t f (slotC h) := by rw [eV, yNatN]; exact Nat.zero_add _
 have eA' : yNat (verC s t f (slotC h)) = nB t f (slotC h) := by rw [eV, yNatN]
 have pb : yAnd (yAnd (yLe (0 : Int) h) (yLt h (18446744073709551616 : Int))) (yAnd (yLe (0 : Int) (w (yNadd 0 (yNat (verC s t f (slotC h)))))) (yLt (w (yNadd 0 (yNat (verC s t f (slotC h))))) (18446744073709551616 : Int))) = true := by
   rw [eA]; simp only [vS, forall_const]; omega
 refine mstI pv (mstI iV (mstI iV' (mstI pb ?_)))
 obtain ⟨q, hq⟩ : ∃ q, yNat m = q + 1 := ⟨yNat (m - 1), by unfold yNat; omega⟩
 have hq' : yNat (ySub m 1) = q := by unfold yNat ySub; unfold yNat at hq; omega
 rw [eA]
 by_cases cb : beginC h (w (nB t f (slotC h))) = 3
 case neg =>
   refine fork_t (by rw [yEq_f.mpr cb]; rfl) ⟨?_, rfl⟩
   rw [hq]; unfold leafF; rw [eA', if_neg fun e => cb e.2]
 refine fork_f (by rw [yEq_t.mpr cb]; rfl) ?_
 have n1 : yNle (yNadd 0 (sizeN s t f)) (sizeN s t f) = true := by simp only [vS, forall_const]
 have pn : yAnd (rightC s t f l p) (yAnd (yAnd (yLe (0 : Int) (slotC h)) (yLe (slotC h) s)) (yAnd (yNeq (sizeN s t f) (sizeN s t f)) (yAnd (yLe (0 : Int) (ndS t f (slotC h) fun (i : Nat) => w i)) (yLt (ndS t f (slotC h) fun (i : Nat) => w i) (18446744073709551616 : Int))))) = true := by
   unfold ndS; simp only [vS, forall_const, hr]; omega
 refine mstI n1 (mstI yCol1 (mstI pn ?_))
 have cc : hrC h s = true ∧ beginC h (w (yNat (verC s t f (slotC h)))) = 3 := ⟨ch, by rw [eA']; exact cb⟩
 cases ci : ndI t f (slotC h) w with
 | false =>
   refine fork_t rfl ⟨?_, rfl⟩
   rw [hq]; unfold leafF; rw [if_pos cc, ci, if_neg (by decide)]
 | true =>
 have eN : ((ndN t f (slotC h) w : Nat) : Int) ≤ f := by
   have := entC_in (w := w (nB t f (slotC h) + 1)) (f := f) ws.1 (by omega)
   unfold ndN ndS yNat; omega
 refine fork_f rfl ?_
 have hM : ndM true (ndN t f (slotC h) w) = ndN t f (slotC h) w - 1 := rfl
 have g1 : yAnd (yNle (ndM true (ndN t f (slotC h) w)) 1000000) (yNle (ndN t f (slotC h) w) 1000000) = true := by rw [hM]; simp only [vS, forall_const]; omega
 refine mstI yCol1 (mstI yCol1 (mstI g1 ?_))
 cases cr : r13C true (ndM true (ndN t f (slotC h) w)) (ndK t f (slotC h) w) (ndN t f (slotC h) w) with
 | false =>
   refine fork_t rfl ⟨?_, rfl⟩
   rw [hq]; unfold leafF; rw [if_pos cc, ci, if_pos rfl, cr, if_neg (by decide)]
 | true =>
 obtain ⟨_, r1, r2, r3⟩ := r13_t.1 cr
 have hle := leC_le (k := ndK t f (slotC h) w) (x := key) (ndM true (ndN t f (slotC h) w))
 have g2 : yNle (ndM true (ndN t f (slotC h) w)) 1000000 = true := by rw [hM]; simp only [vS, forall_const]; omega
 have g3 : yIn (yInt (leC (ndK t f (slotC h) w) key (ndM true (ndN t f (slotC h) w)))) (ndN t f (slotC h) w) = true := by simp only [vS, forall_const]; omega
 have hcv := hwu' (nB t f (slotC h) + 3 + yNat f + leC (ndK t f (slotC h) w) key (ndM true (ndN t f (slotC h) w))) (by omega)
 have wd : yWrap .i64 (yAdd deep 1) = deep + 1 := wrap64 (n := deep + 1) (by omega) (by omega)
 refine fork_f rfl (mstI yCol1 (mstI yCol1 (mstI g2 (mstI g3 (mstI n1 (mstI yCol1 (mstI ?_ ⟨?_, rfl⟩)))))))
 · rw [yNat_yInt, wd, show wuC (sizeN s t f) (fun (i : Nat) => w i) = true from hwu]
   unfold ndVl
   simp only [vS, forall_const, hr]
   refine ⟨hcv, ?_, ?_, ?_⟩ <;> omega
 · rw [hq, hq', yNat_yInt]
   conv => lhs; unfold leafF
   rw [if_pos cc, ci, if_pos rfl, cr, if_pos rfl]
theorem goalLf_tt : (goalLf) = True := goalLf_eq.trans (eq_true goalLf_vc)
theorem goalLf_ok : goalLf := @ft' goalLf goalLf_tt
end Go.Proofs.YtinijejfhmcmdaaDoor.Ex
end
section
namespace Go.Proofs.YtinijejfhmcmdaaDoor.Ex
open Go
theorem smR13 (hm : Tryd.prog.follows .mixedOrders = true) : SmCall Tryd.prog 26 (fun args h => (ctS gNd fR13 args h).sel) :=
 ctS_ok hm noSm_ok (by decide) (fun ds a hd => by
   unfold fR13 at hd
   split at hd
   · rename_i i kn nk k vn nv v l
     simp only [Option.some.injEq, Prod.mk.injEq] at hd
     obtain ⟨h1, rfl⟩ := hd
     have g := @goalR13_ok
     unfold goalR13 at g
     exact ⟨annR13 nk k, 1000, @g i kn nk k vn nv v l h1⟩
   · cases hd)
theorem smCh13 (hm : Tryd.prog.follows .mixedOrders = true) : SmCall Tryd.prog 27 (fun args h => (ctS gNd2 fCh13 args h).sel) :=
 ctS_ok hm noSm_ok (by decide) (fun ds a hd => by
   unfold fCh13 at hd
   split at hd
   · rename_i i kn nk k vn nv v l x
     simp only [Option.some.injEq, Prod.mk.injEq] at hd
     obtain ⟨h1, rfl⟩ := hd
     have g := @goalCh13_ok
     unfold goalCh13 at g
     exact ⟨annCh13 nk k x, 1000, @g i kn nk k vn nv v l x h1⟩
   · cases hd)
theorem smLnW (hm : Tryd.prog.follows .mixedOrders = true) : SmCall Tryd.prog 13 (fun args h => (ctX [sConf] sConf fLnW args h).sel) :=
 ctX_ok hm (smL_ok (l := lLn) ⟨smRight hm, trivial⟩) (fun ds r post h => by
   unfold fLnW at h
   split at h
   · rename_i s t f l p
     simp only [Option.some.injEq, Prod.mk.injEq] at h
     obtain ⟨h1, rfl, rfl⟩ := h
     have g := @goalLnW_ok
     unfold goalLnW at g
     exact ⟨fun _ => none, 1000, @g s t f l p h1⟩
   · cases h)
theorem smLf_step (hm : Tryd.prog.follows .mixedOrders = true) (m : Int) (ih : SmCall Tryd.prog 9 (fun args h => (ctX [sConf, roU, .sc, .sc, .sc] .sc (fLf (ySub m 1)) args h).sel)) : SmCall Tryd.prog 9 (fun args h => (ctX [sConf, roU, .sc, .sc, .sc] .sc (fLf m) args h).sel) :=
 ctX_ok hm (smL_ok (l := lLf (ySub m 1)) ⟨ih, smSl16 hm @goalSl16R_ok, smHr hm @goalHrR_ok, smBe hm @goalBeR_ok, smVerR hm, smNd hm, smR13 hm, smCh13 hm, trivial⟩) (fun ds r post h => by
   unfold fLf at h
   split at h
   · rename_i s t f l p mn n w hh key deep
     simp only [Option.some.injEq, Prod.mk.injEq] at h
     obtain ⟨h1, rfl, rfl⟩ := h
     have g := @goalLf_ok
     unfold goalLf at g
     exact ⟨fun _ => none, 1000, @g m s t f l p mn n w hh key deep h1⟩
   · cases h)
theorem smLf_neg (hm : Tryd.prog.follows .mixedOrders = true) (m : Int) (hn : m < 0) : SmCall Tryd.prog 9 (fun args h => (ctX [sConf, roU, .sc, .sc, .sc] .sc (fLf m) args h).sel) :=
 ctX_ok hm noSm_ok (fun ds r post h => by
   unfold fLf at h
   split at h
   · rename_i s t f l p mn n w hh key deep
     simp only [Option.some.injEq, Prod.mk.injEq] at h
     obtain ⟨h1, rfl, rfl⟩ := h
     simp only [vS, forall_const] at h1
     exfalso; omega
   · cases h)
theorem smLf_nat (hm : Tryd.prog.follows .mixedOrders = true) : ∀ k : Nat, SmCall Tryd.prog 9 (fun args h => (ctX [sConf, roU, .sc, .sc, .sc] .sc (fLf ((k : Int) - 1)) args h).sel)
 | 0 => smLf_neg hm _ (by omega)
 | k + 1 => smLf_step hm _ (by
   have e : ySub (((k + 1 : Nat) : Int) - 1) 1 = (k : Int) - 1 := by unfold ySub; omega
   rw [e]; exact smLf_nat hm k)
theorem smLf (hm : Tryd.prog.follows .mixedOrders = true) (m : Int) : SmCall Tryd.prog 9 (fun args h => (ctX [sConf, roU, .sc, .sc, .sc] .sc (fLf m) args h).sel) := by
 rcases Int.lt_or_le m 0 with c | c
 · exact smLf_neg hm m c
 · have e : m = ((m.toNat + 1 : Nat) : Int) - 1 := by omega
   rw [e]; exact smLf_nat hm _
theorem ctX_from {P : Program} {f : FuncId} {ss : List Sx} {rs : Sx} {F : List Dx → Option (Bool × Dx × List (List Dx))}
   (hw : ∀ ds r post, F ds = some (true, r, post) → ∃ F', SmCall P f (fun args h => (ctX ss rs F' args h).sel) ∧ F' ds = some (true, r, post)) : SmCall P f (fun args h => (ctX ss rs F args h).sel) := by
 intro args h v h' hg
 obtain ⟨⟨ds, is⟩, e1, e⟩ := T.sel_bind_some hg
 simp only at e
 have e0 := e
 split at e
 case h_2 => cases e
 rename_i pre r post hF
 simp only [hF] at e0
 generalize canXs nmI ss ds [] = can at e
 obtain ⟨cargs, bl⟩ := can
 simp only at e
 generalize lendXs h ss args = L at e
 generalize (flatP (ptrSh ss ds) post && flatX rs r) = flat at e
 generalize (bif flat then ([] : List Nat) else L) = LR at e
 generalize expR (fun j => h.nx + j) (ptrSh ss ds) rs r post = E at e
 obtain ⟨v0, cs, nb⟩ := E
 simp only [Bool.cond_eq_ite] at e
 split at e
 case isFalse => cases e
 obtain ⟨rfl, -⟩ := T.sel_must e
 obtain ⟨F', hs, hF'⟩ := hw ds r post hF
 refine hs args h v h' ?_
 show (ctX ss rs F' args h).sel = some (v, h')
 unfold ctX
 rw [T.sel_bind, e1]
 simp only [Option.bind_some, hF']
 exact e0
theorem smLfT (hm : Tryd.prog.follows .mixedOrders = true) : SmCall Tryd.prog 9 (fun args h => (ctX [sConf, roU, .sc, .sc, .sc] .sc fLfT args h).sel) :=
 ctX_from (fun ds r post h => by
   unfold fLfT at h
   split at h
   · rename_i s t f l p mn n w hh key deep
     simp only [Option.some.injEq, Prod.mk.injEq] at h
     obtain ⟨h1, rfl, rfl⟩ := h
     refine ⟨fLf (yAdd s 1), smLf hm _, ?_⟩
     unfold fLf
     have e : (yAnd (rightC s t f l p) (yAnd (yAnd (yNeq n (sizeN s t f)) (wuC n w)) (yAnd (inU hh) (yAnd (yEq (yAdd deep (yAdd s 1)) (yAdd s 1)) (yAnd (yLe 0 (yAdd s 1)) (yLe 0 deep)))))) = true := by
       have hr := (yAnd_t.mp h1).1
       have hrr := rightC_iff.1 hr
       simp only [vS, forall_const] at h1 ⊢
       obtain ⟨a1, a2, a3, a4⟩ := h1
       refine ⟨a1, a2, a3, ?_, ?_, ?_⟩ <;> omega
     exact congrArg (fun q => some (q, Dx.v (.y .i64 (leafF s t f w key (yNat (yAdd s 1)) hh)), [])) e
   · cases h)
theorem up20 : isY true (callS Tryd.prog noSm 1000 6 []) = true := by kernel_rfl
theorem awake20 (hm : Tryd.prog.follows .mixedOrders = true) : SmCall Tryd.prog 6 (smB true) :=
 smBool_ok Tryd.func6 (by kernel_rfl) (by kernel_rfl) fun w hw => callY_calls hm noSm_ok up20 (us := []) rfl w hw
end Go.Proofs.YtinijejfhmcmdaaDoor.Ex
end
section
namespace Go.Proofs.YtinijejfhmcmdaaDoor.Ex
open Go
/-! Words that are words. -/
def uW (w : Nat → Int) : Prop := ∀ x, 0 ≤ w x ∧ w x < 18446744073709551616
theorem upd_u {w : Nat → Int} {a : Nat} {v : Int} (h : uW w) (hv : 0 ≤ v ∧ v < 18446744073709551616) : uW (updW w a v) := fun x => by
 unfold updW; split
 · exact hv
 · exact h x
theorem newI_u {s t f : Int} : ∀ i, i ≤ 2000 → uW (newI s t f i)
 | 0, _ => by
   unfold newI new0
   refine upd_u (upd_u (upd_u (fun x => by show (0 : Int) ≤ 0 ∧ (0 : Int) < _; omega) (by omega)) (by omega)) (by decide)
 | i + 1, h => by
   have ih := newI_u (s := s) (t := t) (f := f) i (by omega)
   unfold newI; split
   · exact upd_u (upd_u ih (by omega)) (by omega)
   · exact upd_u ih (by omega)
theorem newW_u {s t f : Int} (h : s ≤ 1000) : uW (newW s t f) := by
 have e : yNat s - 1 ≤ 2000 := by unfold yNat; omega
 unfold newW; split
 · exact upd_u (newI_u _ e) (by omega)
 · exact newI_u _ e
theorem doW_u {k a old new : Int} {n : Nat} {w : Nat → Int} (h : uW w) (hv : 0 ≤ new ∧ new < 18446744073709551616) : uW (doW k a old new n w) := by
 unfold doW; split
 · exact upd_u h hv
 · exact h
theorem foldA_u {n : Nat} {w a b : Nat → Int} (h : uW w) : ∀ {i : Nat}, (∀ j, j < i → 0 ≤ b j ∧ b j < 18446744073709551616) → uW (foldA n w a b i)
 | 0, _ => h
 | i + 1, hb => by
   unfold foldA
   exact doW_u (foldA_u h fun j hj => hb j (by omega)) (hb i (by omega))
theorem uW_c {n : Nat} {w : Nat → Int} (h : uW w) : wuC n w = true := wuC_iff.2 fun a _ => h a
theorem doR_u {k a old : Int} {n : Nat} {w : Nat → Int} (h : uW w) : 0 ≤ doR k a old n w ∧ doR k a old n w < 18446744073709551616 := by
 unfold doR
 (repeat' split)
 · exact h _
 all_goals omega
/-! The walk over words that stay. -/
def stC (cs ct cf : Int) (w : Nat → Int) (c : WkS) : WkS := tkX cs cf c (doR (wkK c) (wkA cs ct cf 0 c) 0 (sizeN cs ct cf) w)
def itC (cs ct cf : Int) (w : Nat → Int) (c : WkS) : Nat → WkS
 | 0 => c
 | i + 1 => stC cs ct cf w (itC cs ct cf w c i)
theorem itC_shift {cs ct cf : Int} {w : Nat → Int} {c : WkS} : ∀ i, itC cs ct cf w c (i + 1) = itC cs ct cf w (stC cs ct cf w c) i
 | 0 => rfl
 | i + 1 => congrArg (stC cs ct cf w) (itC_shift i)
def Rch (cs ct cf : Int) (w : Nat → Int) (c : WkS) (T : Nat) (c' : WkS) : Prop := itC cs ct cf w c T = c' ∧ ∀ i, i < T → (itC cs ct cf w c i).st ≠ 0
theorem Rch.refl {cs ct cf : Int} {w : Nat → Int} {c : WkS} : Rch cs ct cf w c 0 c := ⟨rfl, fun i h => absurd h (Nat.not_lt_zero _)⟩
theorem Rch.step {cs ct cf : Int} {w : Nat → Int} {c c' : WkS} {T : Nat} (h : c.st ≠ 0) (r : Rch cs ct cf w (stC cs ct cf w c) T c') : Rch cs ct cf w c (T + 1) c' :=
 ⟨(itC_shift T).trans r.1, fun i hi => by
   cases i with
   | zero => exact h
   | succ i => rw [itC_shift]; exact r.2 i (by omega)⟩
theorem Rch.trans {cs ct cf : Int} {w : Nat → Int} {c' c'' : WkS} {T' : Nat} (s : Rch cs ct cf w c' T' c'') : ∀ {T : Nat} {c : WkS}, Rch cs ct cf w c T c' → Rch cs ct cf w c (T + T') c''
 | 0, c, r => by rw [Nat.zero_add]; obtain rfl : c = c' := r.1; exact s
 | T + 1, c, r => by
   have h0 : c.st ≠ 0 := r.2 0 (by omega)
   have r' : Rch cs ct cf w (stC cs ct cf w c) T c' := ⟨(itC_shift T).symm.trans r.1, fun i hi => by rw [← itC_shift]; exact r.2 (i + 1) (by omega)⟩
   have := Rch.step h0 (Rch.trans s r')
   rw [show T + 1 + T' = T + T' + 1 by omega]; exact this
theorem Rch.one {cs ct cf : Int} {w : Nat → Int} {c c' : WkS} (h : c.st ≠ 0) (e : stC cs ct cf w c = c') : Rch cs ct cf w c 1 c' := Rch.step h ⟨e, fun i h => absurd h (Nat.not_lt_zero _)⟩
section
variable {cs ct cf : Int} {w : Nat → Int} {c : WkS}
theorem st1 (h : c.st = 1) : stC cs ct cf w c = tk1 c (doR 1 (verC cs ct cf 0) 0 (sizeN cs ct cf) w) := by unfold stC tkX wkK wkA; simp [h]
theorem st2 (h : c.st = 2) : stC cs ct cf w c = tk2 cs c (doR 1 (valC cs ct cf 0 0) 0 (sizeN cs ct cf) w) := by unfold stC tkX wkK wkA; simp [h]
theorem st3 (h : c.st = 3) : stC cs ct cf w c = { c with mn := 0, st := 4 } := by unfold stC tkX wkK wkA; simp [h]
theorem st4 (h : c.st = 4) : stC cs ct cf w c = tk4 c (doR 1 (verC cs ct cf (slotC c.h)) 0 (sizeN cs ct cf) w) := by unfold stC tkX wkK wkA; simp [h]
theorem st5 (h : c.st = 5) : stC cs ct cf w c = tk5 c (doR 1 (verC cs ct cf (slotC c.p)) 0 (sizeN cs ct cf) w) := by unfold stC tkX wkK wkA; simp [h]
theorem st6 (h : c.st = 6) : stC cs ct cf w c = tk6 cf c (doR 1 (shapeC cs ct cf (slotC c.h)) 0 (sizeN cs ct cf) w) := by unfold stC tkX wkK wkA; simp [h]
theorem st7 (h : c.st = 7) (h2 : c.sl < c.sh) : stC cs ct cf w c = tk7 c (doR 1 (keyC cs ct cf (slotC c.h) (midX c)) 0 (sizeN cs ct cf) w) := by unfold stC tkX wkK wkA; simp [h, h2]
theorem st8 (h : c.st = 8) : stC cs ct cf w c = { c with mn := 0, ch := doR 1 (valC cs ct cf (slotC c.h) c.at_) 0 (sizeN cs ct cf) w, st := 9 } := by unfold stC tkX wkK wkA; simp [h]
theorem st9 (h : c.st = 9) : stC cs ct cf w c = tk9 cs c (doR 1 (verC cs ct cf (slotC c.h)) 0 (sizeN cs ct cf) w) := by unfold stC tkX wkK wkA; simp [h]
end
section
variable {cs ct cf cl cp s : Int} {w : Nat → Int}
theorem doR1 {a : Nat} {n : Nat} (h : a < n) : doR 1 (a : Int) 0 n w = w a := by
 unfold doR; rw [if_pos (by omega), if_pos rfl]; congr 1
theorem rdV (hr : rightC cs ct cf cl cp = true) (h0 : 0 ≤ s) (h1 : s ≤ cs) : doR 1 (verC cs ct cf s) 0 (sizeN cs ct cf) w = w (nB ct cf s) := by
 obtain ⟨eB, room, h3, hbig, eF, eS, g4, g64⟩ := slot_room hr h0 h1
 rw [verN (cs := cs) eB ⟨h0, h1⟩]; exact doR1 (by omega)
theorem rdS (hr : rightC cs ct cf cl cp = true) (h0 : 0 ≤ s) (h1 : s ≤ cs) : doR 1 (shapeC cs ct cf s) 0 (sizeN cs ct cf) w = ndS ct cf s w := by
 obtain ⟨eB, room, h3, hbig, eF, eS, g4, g64⟩ := slot_room hr h0 h1
 rw [shapeN (cs := cs) eB ⟨h0, h1⟩]; exact doR1 (by omega)
theorem rdK (hr : rightC cs ct cf cl cp = true) (h0 : 0 ≤ s) (h1 : s ≤ cs) {j : Nat} (hj : (j : Int) < cf) : doR 1 (keyC cs ct cf s (j : Int)) 0 (sizeN cs ct cf) w = ndK ct cf s w j := by
 obtain ⟨eB, room, h3, hbig, eF, eS, g4, g64⟩ := slot_room hr h0 h1
 rw [keyN (cs := cs) eB ⟨h0, h1⟩ eF (by omega)]; exact doR1 (by omega)
theorem rdVl (hr : rightC cs ct cf cl cp = true) (h0 : 0 ≤ s) (h1 : s ≤ cs) {j : Nat} (hj : (j : Int) < cf) : doR 1 (valC cs ct cf s (j : Int)) 0 (sizeN cs ct cf) w = ndVl ct cf s w j := by
 obtain ⟨eB, room, h3, hbig, eF, eS, g4, g64⟩ := slot_room hr h0 h1
 rw [valN (cs := cs) eB ⟨h0, h1⟩ eF (by omega)]; exact doR1 (by omega)
end
/-! Where a key is. -/
theorem Rises.up {k : Nat → Int} {n : Nat} (h : Rises k n) {i : Nat} : ∀ {j : Nat}, i ≤ j → j < n → k i ≤ k j
 | 0, h1, _ => by obtain rfl : i = 0 := by omega
                  exact Int.le_refl _
 | j + 1, h1, h2 => by
   by_cases c : i = j + 1
   · subst c; exact Int.le_refl _
   · have := Rises.up h (i := i) (j := j) (by omega) (by omega)
     have := h j h2
     omega
theorem leC_eq {k : Nat → Int} {x : Int} : ∀ {n L : Nat}, L ≤ n → (∀ i, i < L → k i ≤ x) → (∀ i, L ≤ i → i < n → x < k i) → leC k x n = L
 | 0, L, h, _, _ => by unfold leC; omega
 | n + 1, L, h, h1, h2 => by
   unfold leC
   by_cases c : L = n + 1
   · rw [leC_eq (L := n) (Nat.le_refl _) (fun i hi => h1 i (by omega)) (fun i _ _ => by omega), if_pos (h1 n (by omega))]; omega
   · rw [leC_eq (L := L) (by omega) h1 (fun i a b => h2 i a (by omega)), if_neg (by have := h2 n (by omega) (by omega); omega)]; omega
def Sam (c c' : WkS) : Prop := c'.h = c.h ∧ c'.slow = c.slow ∧ c'.chain = c.chain ∧ c'.key = c.key ∧ c'.p = c.p ∧ c'.pv = c.pv
theorem Sam.refl {c : WkS} : Sam c c := ⟨rfl, rfl, rfl, rfl, rfl, rfl⟩
theorem Sam.trans {a b c : WkS} (h : Sam a b) (g : Sam b c) : Sam a c := ⟨g.1.trans h.1, g.2.1.trans h.2.1, g.2.2.1.trans h.2.2.1, g.2.2.2.1.trans h.2.2.2.1, g.2.2.2.2.1.trans h.2.2.2.2.1, g.2.2.2.2.2.trans h.2.2.2.2.2⟩
theorem search {cs ct cf cl cp key : Int} {w : Nat → Int} (hr : rightC cs ct cf cl cp = true) {nk : Nat} {s : Int} (h0 : 0 ≤ s) (h1 : s ≤ cs) (hnk : (nk : Int) ≤ cf) (hris : Rises (ndK ct cf s w) nk) :
   ∀ (j : Nat) (c : WkS), slotC c.h = s → c.st = 7 → 0 ≤ c.sl → c.sl < c.sh → c.sh ≤ nk → c.sh - c.sl < 2 ^ j → c.sk = 2 → c.skey = key →
     (∀ i : Nat, (i : Int) < c.sl → ndK ct cf s w i ≤ key) → (∀ i : Nat, c.sh ≤ i → i < nk → key < ndK ct cf s w i) →
     ∃ T c', T ≤ j ∧ Rch cs ct cf w c T c' ∧ c'.st = 8 ∧ c'.at_ = (leC (ndK ct cf s w) key nk : Nat) ∧ Sam c c' ∧ c'.v = c.v
 | 0, c, _, _, _, b, _, d, _, _, _, _ => by exfalso; simp at d; omega
 | j + 1, c, es, e7, a, b, b2, d, ek, ey, lo, hi => by
   have d2 : c.sh - c.sl < 2 * 2 ^ j := by rw [Int.pow_succ] at d; omega
   obtain ⟨q, hq⟩ : ∃ q : Nat, midX c = (q : Int) := ⟨(midX c).toNat, by unfold midX; omega⟩
   have m1 : c.sl ≤ (q : Int) ∧ (q : Int) < c.sh ∧ (q : Int) - c.sl < 2 ^ j ∧ c.sh - ((q : Int) + 1) < 2 ^ j := by
     rw [← hq]; unfold midX; omega
   have e := st7 (cs := cs) (ct := ct) (cf := cf) (w := w) e7 b
   rw [hq, es, rdK hr h0 h1 (j := q) (by omega)] at e
   unfold tk7 at e
   rw [if_pos b] at e
   by_cases cc : ndK ct cf s w q ≤ key
   · rw [if_pos (.inr ⟨by omega, by omega⟩), hq] at e
     have lo' : ∀ i : Nat, (i : Int) < (q : Int) + 1 → ndK ct cf s w i ≤ key := fun i hi' => by
       have := hris.up (i := i) (j := q) (by omega) (by omega)
       omega
     by_cases c2 : (q : Int) + 1 < c.sh
     · rw [if_pos c2] at e
       obtain ⟨T, c', t1, t2, t3, t4, t5, t6⟩ := search (key := key) hr h0 h1 hnk hris j (stC cs ct cf w c) (by rw [e]; exact es) (by rw [e]) (by rw [e]; show (0 : Int) ≤ (q : Int) + 1; omega) (by rw [e]; exact c2) (by rw [e]; exact b2) (by rw [e]; exact m1.2.2.2) (by rw [e]; exact ek) (by rw [e]; exact ey)
         (fun i hi' => by rw [e] at hi'; exact lo' i hi') (fun i hi' => by rw [e] at hi'; exact hi i hi')
       refine ⟨T + 1, c', by omega, t2.step (by omega), t3, t4, Sam.trans (by rw [e]; exact Sam.refl) t5, t6.trans (by rw [e])⟩
     · rw [if_neg c2] at e
       refine ⟨1, _, by omega, Rch.one (by omega) e, rfl, ?_, Sam.refl, rfl⟩
       rw [leC_eq (L := q + 1) (by omega) (fun i hi' => lo' i (by omega)) (fun i hi' hj => hi i (by omega) hj)]
       show (q : Int) + 1 = _; omega
   · rw [if_neg (by omega), hq] at e
     have hi' : ∀ i : Nat, (q : Int) ≤ i → i < nk → key < ndK ct cf s w i := fun i hq' hj => by
       have := hris.up (i := q) (j := i) (by omega) hj
       omega
     by_cases c2 : c.sl < (q : Int)
     · rw [if_pos c2] at e
       obtain ⟨T, c', t1, t2, t3, t4, t5, t6⟩ := search (key := key) hr h0 h1 hnk hris j (stC cs ct cf w c) (by rw [e]; exact es) (by rw [e]) (by rw [e]; exact a) (by rw [e]; exact c2) (by rw [e]; show (q : Int) ≤ nk; omega) (by rw [e]; exact m1.2.2.1) (by rw [e]; exact ek) (by rw [e]; exact ey)
         (fun i hj => by rw [e] at hj; exact lo i hj) (fun i hj => by rw [e] at hj; exact hi' i hj)
       refine ⟨T + 1, c', by omega, t2.step (by omega), t3, t4, Sam.trans (by rw [e]; exact Sam.refl) t5, t6.trans (by rw [e])⟩
     · rw [if_neg c2] at e
       refine ⟨1, _, by omega, Rch.one (by omega) e, rfl, ?_, Sam.refl, rfl⟩
       rw [leC_eq (L := q) (by omega) (fun i hj => lo i (by omega)) (fun i hj hk => hi' i (by omega) hk)]
       show c.sl = _; omega
end Go.Proofs.YtinijejfhmcmdaaDoor.Ex
end
section
namespace Go.Proofs.YtinijejfhmcmdaaDoor.Ex
open Go
section
variable {cs ct cf cl cp : Int} {w : Nat → Int}
theorem leafF_s {key h : Int} {m : Nat} : leafF cs ct cf w key (m + 1) h = if hrC h cs = true ∧ beginC h (w (yNat (verC cs ct cf (slotC h)))) = 3 then
     (if ndI ct cf (slotC h) w = true then
       (if r13C true (ndM true (ndN ct cf (slotC h) w)) (ndK ct cf (slotC h) w) (ndN ct cf (slotC h) w) = true then leafF cs ct cf w key m (ndVl ct cf (slotC h) w (leC (ndK ct cf (slotC h) w) key (ndM true (ndN ct cf (slotC h) w)))) else 0)
     else slotC h) else 0 := rfl
theorem leafF_slot {key h : Int} {m : Nat} (h0 : leafF cs ct cf w key m h ≠ 0) : ∃ m', m = m' + 1 ∧ hrC h cs = true ∧ beginC h (w (yNat (verC cs ct cf (slotC h)))) = 3 ∧
   ((ndI ct cf (slotC h) w = false ∧ leafF cs ct cf w key m h = slotC h) ∨ (ndI ct cf (slotC h) w = true ∧ r13C true (ndM true (ndN ct cf (slotC h) w)) (ndK ct cf (slotC h) w) (ndN ct cf (slotC h) w) = true ∧
     leafF cs ct cf w key m h = leafF cs ct cf w key m' (ndVl ct cf (slotC h) w (leC (ndK ct cf (slotC h) w) key (ndM true (ndN ct cf (slotC h) w)))))) := by
 cases m with
 | zero => exact absurd rfl h0
 | succ m =>
   refine ⟨m, rfl, ?_⟩
   rw [leafF_s] at h0 ⊢
   by_cases c : hrC h cs = true ∧ beginC h (w (yNat (verC cs ct cf (slotC h)))) = 3
   · rw [if_pos c] at h0 ⊢
     refine ⟨c.1, c.2, ?_⟩
     cases ci : ndI ct cf (slotC h) w with
     | false => exact .inl ⟨rfl, by rw [if_neg (by decide)]⟩
     | true =>
       rw [ci, if_pos rfl] at h0
       by_cases cr : r13C true (ndM true (ndN ct cf (slotC h) w)) (ndK ct cf (slotC h) w) (ndN ct cf (slotC h) w) = true
       · exact .inr ⟨rfl, cr, by rw [if_pos rfl, if_pos cr]⟩
       · rw [if_neg cr] at h0; exact absurd rfl h0
   · rw [if_neg c] at h0; exact absurd rfl h0
theorem comesX_ok {c : WkS} {h : Int} (hh : hrC h cs = true) : comesX cs c h = { c with h := h, st := if c.slow then 3 else 4 } := by unfold comesX; rw [if_pos hh]
theorem ndN_int (hw : uW w) (hf : 0 ≤ cf) {s : Int} : ((ndN ct cf s w : Nat) : Int) = entC (ndS ct cf s w) cf ∧ ((ndN ct cf s w : Nat) : Int) ≤ cf := by
 have := entC_in (w := ndS ct cf s w) (f := cf) (hw _).1 hf
 unfold ndN yNat
 omega
theorem lv1 (hr : rightC cs ct cf cl cp = true) {c : WkS} (hst : c.st = if c.slow then 3 else 4) (hh : hrC c.h cs = true) (hb : beginC c.h (w (nB ct cf (slotC c.h))) = 3)
   (hp : doR 1 (verC cs ct cf (slotC c.p)) 0 (sizeN cs ct cf) w = c.pv) :
   ∃ T c', T ≤ 3 ∧ Rch cs ct cf w c T c' ∧ c'.st = 6 ∧ Sam c c' ∧ c'.v = w (nB ct cf (slotC c.h)) := by
 obtain ⟨h1, h2, h3⟩ := hrC_t.1 hh
 have s1 : slotC c.h = c.h % 65536 := rfl
 have two : ∀ d : WkS, d.st = 4 → Sam c d → ∃ T c', T ≤ 2 ∧ Rch cs ct cf w d T c' ∧ c'.st = 6 ∧ Sam c c' ∧ c'.v = w (nB ct cf (slotC c.h)) := fun d d4 sd => by
   have e := st4 (cs := cs) (ct := ct) (cf := cf) (w := w) d4
   rw [sd.1, rdV hr (by omega) (by omega)] at e
   unfold tk4 at e
   rw [sd.1, if_neg (by omega), if_pos hb] at e
   generalize hd1 : stC cs ct cf w d = d1 at e
   have d5 : d1.st = 5 := by rw [e]
   have sd1 : Sam c d1 := Sam.trans sd (by rw [e]; exact ⟨sd.1.symm ▸ rfl, rfl, rfl, rfl, rfl, rfl⟩)
   have v1 : d1.v = w (nB ct cf (slotC c.h)) := by rw [e]
   have f := st5 (cs := cs) (ct := ct) (cf := cf) (w := w) d5
   rw [sd1.2.2.2.2.1, hp] at f
   unfold tk5 at f
   rw [sd1.2.2.2.2.2, if_pos rfl] at f
   have r : ∃ c', stC cs ct cf w d1 = c' ∧ c'.st = 6 ∧ Sam c c' ∧ c'.v = w (nB ct cf (slotC c.h)) := by
     refine ⟨_, f, ?_⟩
     split
     · exact ⟨rfl, ⟨sd1.1, sd1.2.1, sd1.2.2.1, sd1.2.2.2.1, sd1.2.2.2.2.1, rfl⟩, v1⟩
     · exact ⟨rfl, ⟨sd1.1, sd1.2.1, sd1.2.2.1, sd1.2.2.2.1, sd1.2.2.2.2.1, rfl⟩, v1⟩
   obtain ⟨c', r1, r2, r3, r4⟩ := r
   exact ⟨2, c', by omega, Rch.step (by omega) (hd1.symm ▸ Rch.one (by omega) r1), r2, r3, r4⟩
 cases hs : c.slow with
 | false =>
   rw [hs, if_neg (by decide)] at hst
   obtain ⟨T, c', t1, t2, t3⟩ := two c hst Sam.refl
   exact ⟨T, c', by omega, t2, t3⟩
 | true =>
   rw [hs, if_pos rfl] at hst
   obtain ⟨T, c', t1, t2, t3⟩ := two (stC cs ct cf w c) (by rw [st3 hst]) (by rw [st3 hst]; exact Sam.refl)
   exact ⟨T + 1, c', by omega, t2.step (by omega), t3⟩
theorem lv2 (hr : rightC cs ct cf cl cp = true) (hw : uW w) {c : WkS} (hst : c.st = 6) (hh : hrC c.h cs = true) (hi : ndI ct cf (slotC c.h) w = false) :
   ∃ c', Rch cs ct cf w c 1 c' ∧ c'.st = 0 ∧ c'.out = 1 ∧ Sam c c' ∧ c'.v = c.v ∧ c'.n = (ndN ct cf (slotC c.h) w : Nat) := by
 obtain ⟨h1, h2, h3⟩ := hrC_t.1 hh
 have s1 : slotC c.h = c.h % 65536 := rfl
 have hrr := rightC_iff.1 hr
 have e := st6 (cs := cs) (ct := ct) (cf := cf) (w := w) hst
 rw [rdS hr (by omega) (by omega)] at e
 unfold tk6 at e
 have hi' : innC (ndS ct cf (slotC c.h) w) = false := hi
 rw [hi', if_neg (by decide)] at e
 exact ⟨_, Rch.one (by omega) e, rfl, rfl, Sam.refl, rfl, (ndN_int hw (by omega)).1.symm⟩
theorem lv3 (hr : rightC cs ct cf cl cp = true) (hw : uW w) {c : WkS} (hst : c.st = 6) (hh : hrC c.h cs = true) (hch : c.chain = false) (hi : ndI ct cf (slotC c.h) w = true)
   (hr13 : r13C true (ndM true (ndN ct cf (slotC c.h) w)) (ndK ct cf (slotC c.h) w) (ndN ct cf (slotC c.h) w) = true) :
   ∃ T c', T ≤ 7 ∧ Rch cs ct cf w c T c' ∧ c'.st = 8 ∧ c'.at_ = (leC (ndK ct cf (slotC c.h) w) c.key (ndM true (ndN ct cf (slotC c.h) w)) : Nat) ∧ Sam c c' ∧ c'.v = c.v := by
 obtain ⟨h1, h2, h3⟩ := hrC_t.1 hh
 have s1 : slotC c.h = c.h % 65536 := rfl
 have hrr := rightC_iff.1 hr
 obtain ⟨_, r1, r2, r3⟩ := r13_t.1 hr13
 obtain ⟨n1, n2⟩ := ndN_int (ct := ct) (s := slotC c.h) hw (show 0 ≤ cf by omega)
 have e := st6 (cs := cs) (ct := ct) (cf := cf) (w := w) hst
 rw [rdS hr (by omega) (by omega)] at e
 unfold tk6 at e
 have hi' : innC (ndS ct cf (slotC c.h) w) = true := hi
 rw [hi', if_pos rfl, hch, if_neg (by decide), if_neg (by omega), ← n1] at e
 have hM : ((ndM true (ndN ct cf (slotC c.h) w) : Nat) : Int) = ((ndN ct cf (slotC c.h) w : Nat) : Int) - 1 := by omega
 unfold onX at e
 simp only [← hM, if_neg (show ¬ (((ndM true (ndN ct cf (slotC c.h) w) : Nat) : Int) < 0) by omega)] at e
 unfold searchedX at e
 by_cases c0 : (0 : Int) < (ndM true (ndN ct cf (slotC c.h) w) : Nat)
 · simp only [if_pos c0] at e
   obtain ⟨T, c', t1, t2, t3, t4, t5, t6⟩ := search (key := c.key) hr (s := slotC c.h) (nk := ndM true (ndN ct cf (slotC c.h) w)) (w := w) (by omega) (by omega) (by omega) r3 6 (stC cs ct cf w c) (by rw [e]) (by rw [e]) (by rw [e]; exact Int.le_refl _) (by rw [e]; exact c0) (by rw [e]; exact Int.le_refl _)
     (by rw [e]; show ((ndM true (ndN ct cf (slotC c.h) w) : Nat) : Int) - 0 < 2 ^ 6; omega) (by rw [e]) (by rw [e]) (fun i hi => by rw [e] at hi; exfalso; have hi : (i : Int) < 0 := hi; omega) (fun i h1 h2 => by rw [e] at h1; exfalso; have h1 : ((ndM true (ndN ct cf (slotC c.h) w) : Nat) : Int) ≤ i := h1; omega)
   exact ⟨T + 1, c', by omega, t2.step (by omega), t3, t4, Sam.trans (by rw [e]; exact ⟨rfl, rfl, hch.symm, rfl, rfl, rfl⟩) t5, t6.trans (by rw [e])⟩
 · simp only [if_neg c0] at e
   have z : ndM true (ndN ct cf (slotC c.h) w) = 0 := by omega
   refine ⟨1, _, by omega, Rch.one (by omega) e, rfl, ?_, ⟨rfl, rfl, hch.symm, rfl, rfl, rfl⟩, rfl⟩
   rw [z]; rfl
theorem lv4 (hr : rightC cs ct cf cl cp = true) {c : WkS} {j : Nat} (hst : c.st = 8) (hat : c.at_ = (j : Nat)) (hj : (j : Int) < cf) (hh : hrC c.h cs = true) (hv : c.v = w (nB ct cf (slotC c.h))) (hc : hrC (ndVl ct cf (slotC c.h) w j) cs = true) :
   ∃ c', Rch cs ct cf w c 2 c' ∧ c'.st = (if c'.slow then 3 else 4) ∧ c'.slow = c.slow ∧ c'.chain = c.chain ∧ c'.key = c.key ∧ c'.h = ndVl ct cf (slotC c.h) w j ∧ c'.p = c.h ∧ c'.pv = w (nB ct cf (slotC c.h)) := by
 obtain ⟨h1, h2, h3⟩ := hrC_t.1 hh
 have s1 : slotC c.h = c.h % 65536 := rfl
 have e := st8 (cs := cs) (ct := ct) (cf := cf) (w := w) hst
 rw [hat, rdVl hr (by omega) (by omega) hj] at e
 generalize hd : stC cs ct cf w c = d at e
 have d9 : d.st = 9 := by rw [e]
 have f := st9 (cs := cs) (ct := ct) (cf := cf) (w := w) d9
 rw [show d.h = c.h by rw [e], rdV hr (by omega) (by omega)] at f
 unfold tk9 at f
 rw [show d.v = w (nB ct cf (slotC c.h)) by rw [e]; exact hv, if_pos rfl, show d.ch = ndVl ct cf (slotC c.h) w j by rw [e], comesX_ok hc] at f
 refine ⟨stC cs ct cf w d, Rch.step (by omega) (by rw [hd]; exact Rch.one (by omega) rfl), by rw [f], ?_, ?_, ?_, by rw [f], ?_, by rw [f]⟩
 · rw [f]; show d.slow = c.slow; rw [e]
 · rw [f]; show d.chain = c.chain; rw [e]
 · rw [f]; show d.key = c.key; rw [e]
 · rw [f]; show d.h = c.h; rw [e]
theorem walk_to (hr : rightC cs ct cf cl cp = true) (hw : uW w) : ∀ (m : Nat) (c : WkS), c.st = (if c.slow then 3 else 4) → c.chain = false →
   doR 1 (verC cs ct cf (slotC c.p)) 0 (sizeN cs ct cf) w = c.pv → leafF cs ct cf w c.key m c.h ≠ 0 →
   ∃ T c', T ≤ 16 * m ∧ Rch cs ct cf w c T c' ∧ c'.st = 0 ∧ c'.out = 1 ∧ slotC c'.h = leafF cs ct cf w c.key m c.h ∧ c'.v = w (nB ct cf (slotC c'.h)) ∧ c'.n = (ndN ct cf (slotC c'.h) w : Nat) ∧ hrC c'.h cs = true
 | 0, c, _, _, _, h0 => absurd rfl h0
 | m + 1, c, hst, hch, hp, h0 => by
   obtain ⟨m', em, hh, hb, hd⟩ := leafF_slot h0
   obtain rfl : m' = m := by omega
   obtain ⟨h1, h2, h3⟩ := hrC_t.1 hh
   have s1 : slotC c.h = c.h % 65536 := rfl
   have hrr := rightC_iff.1 hr
   obtain ⟨eB, room, h3', hbig, eF, eS, g4, g64⟩ := slot_room hr (slot := slotC c.h) (by omega) (by omega)
   rw [verN (cs := cs) eB ⟨by omega, by omega⟩, yNatN] at hb
   obtain ⟨T1, c1, a1, a2, a3, a4, a5⟩ := lv1 hr hst hh hb hp
   have hh1 : hrC c1.h cs = true := by rw [a4.1]; exact hh
   rcases hd with ⟨hi, hl⟩ | ⟨hi, hr13, hl⟩
   · obtain ⟨c2, b1, b2, b3, b4, b5, b6⟩ := lv2 hr hw a3 hh1 (by rw [a4.1]; exact hi)
     have eh : c2.h = c.h := b4.1.trans a4.1
     refine ⟨T1 + 1, c2, by omega, Rch.trans b1 a2, b2, b3, ?_, ?_, ?_, ?_⟩
     · rw [eh, hl]
     · rw [b5, a5, eh]
     · rw [b6, eh, a4.1]
     · rw [eh]; exact hh
   · obtain ⟨T2, c2, b1, b2, b3, b4, b5, b6⟩ := lv3 hr hw a3 hh1 (a4.2.2.1.trans hch) (by rw [a4.1]; exact hi) (by rw [a4.1]; exact hr13)
     rw [a4.1, a4.2.2.2.1] at b4
     have eh : c2.h = c.h := b5.1.trans a4.1
     obtain ⟨_, r1, r2, r3⟩ := r13_t.1 hr13
     obtain ⟨n1, n2⟩ := ndN_int (ct := ct) (s := slotC c.h) hw (show 0 ≤ cf by omega)
     have hle := leC_le (k := ndK ct cf (slotC c.h) w) (x := c.key) (ndM true (ndN ct cf (slotC c.h) w))
     rw [hl] at h0
     obtain ⟨_, _, hhc, _⟩ := leafF_slot h0
     obtain ⟨c3, d1, d2, d3, d4, d5, d6, d7, d8⟩ := lv4 hr b3 b4 (by omega) (by rw [eh]; exact hh) (by rw [b6, a5, eh]) (by rw [eh]; exact hhc)
     have key3 : c3.key = c.key := d5.trans (b5.2.2.2.1.trans a4.2.2.2.1)
     rw [eh] at d6 d7 d8
     obtain ⟨T3, c', e1, e2, e3, e4, e5, e6, e7, e8⟩ := walk_to hr hw m' c3 d2 (d4.trans (b5.2.2.1.trans (a4.2.2.1.trans hch))) (by rw [d7, d8]; exact rdV hr (by omega) (by omega)) (by rw [key3, d6]; exact h0)
     refine ⟨T1 + (T2 + (2 + T3)), c', by omega, Rch.trans (Rch.trans (Rch.trans e2 d1) b2) a2, e3, e4, ?_, e6, e7, e8⟩
     rw [e5, key3, d6, hl]
end
end Go.Proofs.YtinijejfhmcmdaaDoor.Ex
end
section
namespace Go.Proofs.YtinijejfhmcmdaaDoor.Ex
open Go
def agW (t : Int) (w w' : Nat → Int) : Prop := ∀ a : Nat, 3 + 3 * t ≤ (a : Int) → w' a = w a
section
variable {cs ct cf cl cp : Int} {w w' : Nat → Int}
theorem node_hi {s : Int} (hs : 0 ≤ s) (hf : 0 ≤ cf) : 3 + 3 * ct ≤ nodeC ct cf s := by
 have := Int.mul_nonneg hs (show 0 ≤ 3 + 2 * cf by omega)
 unfold nodeC; omega
theorem slotC_nn {h : Int} : 0 ≤ slotC h := by unfold slotC; omega
theorem wkA_hi (hf : 0 ≤ cf) {c : WkS} (h3 : c.st ≠ 3) : wkA cs ct cf 0 c = -1 ∨ 3 + 3 * ct ≤ wkA cs ct cf 0 c ∨ wkK c = 0 := by
 have n0 := node_hi (ct := ct) (s := 0) (Int.le_refl _) hf
 have n1 := node_hi (ct := ct) (cf := cf) (s := slotC c.h) slotC_nn hf
 have n2 := node_hi (ct := ct) (cf := cf) (s := slotC c.p) slotC_nn hf
 unfold wkA verC valC shapeC keyC wkK
 generalize nodeC ct cf 0 = a0 at *
 generalize nodeC ct cf (slotC c.h) = a1 at *
 generalize nodeC ct cf (slotC c.p) = a2 at *
 generalize slotC c.h = s1 at *
 generalize slotC c.p = s2 at *
 generalize midX c = md at *
 (repeat' split) <;> omega
theorem doR_ag {k a : Int} {n : Nat} (h : agW ct w w') (ha : a = -1 ∨ 3 + 3 * ct ≤ a) : doR k a 0 n w' = doR k a 0 n w := by
 unfold doR
 by_cases c : 0 ≤ a ∧ a < n
 · have e : w' (yNat a) = w (yNat a) := h _ (by unfold yNat; omega)
   rw [e]
 · rw [if_neg c, if_neg c]
theorem got_ag (hf : 0 ≤ cf) (h : agW ct w w') {c : WkS} : stC cs ct cf w' c = stC cs ct cf w c := by
 by_cases h3 : c.st = 3
 · rw [st3 h3, st3 h3]
 · unfold stC
   congr 1
   rcases wkA_hi (cs := cs) (ct := ct) hf h3 with e | e | e
   · exact doR_ag h (.inl e)
   · exact doR_ag h (.inr e)
   · rw [e]; unfold doR; simp
theorem do_ag (ht : 1 ≤ ct) {c : WkS} {n : Nat} (h : agW ct w w') : agW ct w (doW (wkK c) (wkA cs ct cf 0 c) 0 (wkN c) n w') := fun a ha => by
 unfold doW
 split
 · rename_i hc
   have h3 : c.st = 3 := by
     have := hc.2
     unfold wkK at this
     (repeat' split at this) <;> omega
   have e : wkA cs ct cf 0 c = hazC ct 0 (c.dp % 2) := by unfold wkA; simp [h3]
   rw [e] at hc ⊢
   unfold updW
   rw [if_neg (by unfold hazC at hc ⊢; unfold yNat; split <;> omega)]
   exact h a ha
 · exact h a ha
end
structure InvY (cs ct cf cl cp : Int) (k : Nat) (W : WkS) : Prop where
 r : rightC cs ct cf cl cp = true
 h : inU W.h = true
 p : inU W.p = true
 c : inU W.ch = true
 s : 0 ≤ W.sl ∧ W.sl ≤ 64 ∧ -1 ≤ W.sh ∧ W.sh ≤ 64
 d : 0 ≤ W.dp ∧ W.dp ≤ k
 t : 0 ≤ W.st ∧ W.st ≤ 9
 n : -1 ≤ W.n ∧ W.n ≤ 64
section
variable {cs ct cf cl cp : Int} {w w' : Nat → Int}
theorem InvY.x {k : Nat} {W : WkS} (h : InvY cs ct cf cl cp k W) (hk : k ≤ 1000000) : invX cs ct cf cl cp 0 W = true :=
 invX_iff.2 ⟨h.r, h.h, h.p, h.c, h.s, ⟨h.d.1, by have := h.d; omega⟩, h.t, by have := rightC_iff.1 h.r; omega, h.n⟩
theorem InvY.up {k : Nat} {W : WkS} (h : InvY cs ct cf cl cp k W) : InvY cs ct cf cl cp (k + 1) W := ⟨h.r, h.h, h.p, h.c, h.s, by have := h.d; omega, h.t, h.n⟩
theorem InvY.comes {k : Nat} {W : WkS} {x : Int} (h : InvY cs ct cf cl cp k W) (hx : inU x = true) : InvY cs ct cf cl cp k (comesX cs W x) := by
 obtain ⟨a1, a2, a3, a4, a5, a6, a7, a8⟩ := h
 unfold comesX
 by_cases c : hrC x cs = true
 · rw [if_pos c]; exact ⟨a1, hx, a3, a4, a5, a6, (by cases W.slow <;> decide : 0 ≤ (if W.slow = true then (3 : Int) else 4) ∧ (if W.slow = true then (3 : Int) else 4) ≤ 9), a8⟩
 · rw [if_neg c]; exact ⟨a1, a2, a3, a4, a5, a6, (by decide : (0 : Int) ≤ 0 ∧ (0 : Int) ≤ 9), a8⟩
theorem InvY.searched {k : Nat} {W : WkS} (h : InvY cs ct cf cl cp k W) : InvY cs ct cf cl cp k (searchedX W) := by
 obtain ⟨a1, a2, a3, a4, a5, a6, a7, a8⟩ := h
 unfold searchedX
 split
 · exact ⟨a1, a2, a3, a4, a5, a6, (by decide : (0 : Int) ≤ 7 ∧ (7 : Int) ≤ 9), a8⟩
 · exact ⟨a1, a2, a3, a4, a5, a6, (by decide : (0 : Int) ≤ 8 ∧ (8 : Int) ≤ 9), a8⟩
theorem InvY.tk1 {k : Nat} {W : WkS} {got : Int} (h : InvY cs ct cf cl cp k W) : InvY cs ct cf cl cp k (tk1 W got) := by
 obtain ⟨a1, a2, a3, a4, a5, a6, a7, a8⟩ := h
 unfold Ex.tk1
 split
 · exact ⟨a1, a2, a3, a4, a5, a6, a7, a8⟩
 · exact ⟨a1, a2, a3, a4, a5, a6, (by decide : (0 : Int) ≤ 2 ∧ (2 : Int) ≤ 9), a8⟩
theorem InvY.tk4 {k : Nat} {W : WkS} {got : Int} (h : InvY cs ct cf cl cp k W) : InvY cs ct cf cl cp k (tk4 W got) := by
 obtain ⟨a1, a2, a3, a4, a5, a6, a7, a8⟩ := h
 unfold Ex.tk4
 split
 · exact ⟨a1, a2, a3, a4, a5, a6, (by decide : (0 : Int) ≤ 0 ∧ (0 : Int) ≤ 9), a8⟩
 · split
   · exact ⟨a1, a2, a3, a4, a5, a6, (by decide : (0 : Int) ≤ 5 ∧ (5 : Int) ≤ 9), a8⟩
   · exact ⟨a1, a2, a3, a4, a5, a6, a7, a8⟩
theorem InvY.tk5 {k : Nat} {W : WkS} {got : Int} (h : InvY cs ct cf cl cp k W) : InvY cs ct cf cl cp k (tk5 W got) := by
 obtain ⟨a1, a2, a3, a4, a5, a6, a7, a8⟩ := h
 unfold Ex.tk5
 split
 · split
   · exact ⟨a1, a2, a3, a4, a5, a6, (by decide : (0 : Int) ≤ 6 ∧ (6 : Int) ≤ 9), a8⟩
   · exact ⟨a1, a2, a3, a4, a5, a6, (by decide : (0 : Int) ≤ 6 ∧ (6 : Int) ≤ 9), a8⟩
 · exact ⟨a1, a2, a3, a4, a5, a6, (by decide : (0 : Int) ≤ 0 ∧ (0 : Int) ≤ 9), a8⟩
theorem InvY.tk6 {k : Nat} {W : WkS} {got : Int} (h : InvY cs ct cf cl cp k W) (hg : inU got = true) : InvY cs ct cf cl cp k (tk6 cf W got) := by
 obtain ⟨a1, a2, a3, a4, a5, a6, a7, a8⟩ := h
 have hrr := rightC_iff.1 a1
 have hn := entC_in (w := got) (f := cf) (by simp only [inU, vS, forall_const] at hg; exact hg.1) (by omega)
 have hN : -1 ≤ entC got cf ∧ entC got cf ≤ 64 := by omega
 have n0 : (0 : Int) ≤ 0 ∧ (0 : Int) ≤ 9 := by decide
 unfold Ex.tk6
 by_cases c1 : innC got = true
 · rw [if_pos c1]
   by_cases c2 : W.chain = true
   · rw [if_pos c2]; exact ⟨a1, a2, a3, a4, a5, a6, n0, hN⟩
   · rw [if_neg c2]; unfold onX
     refine InvY.searched ⟨a1, a2, a3, a4, ?_, a6, a7, ?_⟩
     · show 0 ≤ (0 : Int) ∧ (0 : Int) ≤ 64 ∧ -1 ≤ (if (if entC got cf < 1 then (1 : Int) else entC got cf) - 1 < 0 then (0 : Int) else (if entC got cf < 1 then (1 : Int) else entC got cf) - 1) ∧ (if (if entC got cf < 1 then (1 : Int) else entC got cf) - 1 < 0 then (0 : Int) else (if entC got cf < 1 then (1 : Int) else entC got cf) - 1) ≤ 64
       (repeat' split) <;> omega
     · show -1 ≤ (if entC got cf < 1 then (1 : Int) else entC got cf) ∧ (if entC got cf < 1 then (1 : Int) else entC got cf) ≤ 64
       (repeat' split) <;> omega
 · rw [if_neg c1]; exact ⟨a1, a2, a3, a4, a5, a6, n0, hN⟩
theorem InvY.tk7 {k : Nat} {W : WkS} {got : Int} (h : InvY cs ct cf cl cp k W) : InvY cs ct cf cl cp k (tk7 W got) := by
 obtain ⟨a1, a2, a3, a4, a5, a6, a7, a8⟩ := h
 have n7 : (0 : Int) ≤ 7 ∧ (7 : Int) ≤ 9 := by decide
 have n8 : (0 : Int) ≤ 8 ∧ (8 : Int) ≤ 9 := by decide
 unfold Ex.tk7
 by_cases c : W.sl < W.sh
 · have hm : W.sl ≤ midX W ∧ midX W < W.sh := by unfold midX; omega
   generalize midX W = md at hm
   rw [if_pos c]
   have b1 : 0 ≤ md + 1 ∧ md + 1 ≤ 64 ∧ -1 ≤ W.sh ∧ W.sh ≤ 64 := by omega
   have b2 : 0 ≤ W.sl ∧ W.sl ≤ 64 ∧ -1 ≤ md ∧ md ≤ 64 := by omega
   split
   · split
     · exact ⟨a1, a2, a3, a4, b1, a6, n7, a8⟩
     · exact ⟨a1, a2, a3, a4, b1, a6, n8, a8⟩
   · split
     · exact ⟨a1, a2, a3, a4, b2, a6, n7, a8⟩
     · exact ⟨a1, a2, a3, a4, b2, a6, n8, a8⟩
 · rw [if_neg c]; exact ⟨a1, a2, a3, a4, a5, a6, n8, a8⟩
theorem InvY.tk9 {k : Nat} {W : WkS} {got : Int} (h : InvY cs ct cf cl cp k W) : InvY cs ct cf cl cp (k + 1) (tk9 cs W got) := by
 obtain ⟨a1, a2, a3, a4, a5, a6, a7, a8⟩ := h
 unfold Ex.tk9
 split
 · exact InvY.comes ⟨a1, a2, a2, a4, a5, (by omega : 0 ≤ W.dp + 1 ∧ W.dp + 1 ≤ ((k + 1 : Nat) : Int)), a7, a8⟩ a4
 · exact ⟨a1, a2, a3, a4, a5, (by omega : 0 ≤ W.dp ∧ W.dp ≤ ((k + 1 : Nat) : Int)), (by decide : (0 : Int) ≤ 0 ∧ (0 : Int) ≤ 9), a8⟩
theorem InvY.tk {k : Nat} {W : WkS} {got : Int} (h : InvY cs ct cf cl cp k W) (hg : inU got = true) : InvY cs ct cf cl cp (k + 1) (tkX cs cf W got) := by
 have m0 : InvY cs ct cf cl cp k { W with mn := 0 } := ⟨h.r, h.h, h.p, h.c, h.s, h.d, h.t, h.n⟩
 unfold tkX
 split
 · exact h.tk1.up
 split
 · exact (m0.comes hg).up
 split
 · exact (InvY.mk h.r h.h h.p h.c h.s h.d (by decide : (0 : Int) ≤ 4 ∧ (4 : Int) ≤ 9) h.n : InvY cs ct cf cl cp k { W with mn := 0, st := 4 }).up
 split
 · exact h.tk4.up
 split
 · exact h.tk5.up
 split
 · exact (h.tk6 hg).up
 split
 · exact h.tk7.up
 split
 · exact (InvY.mk h.r h.h h.p hg h.s h.d (by decide : (0 : Int) ≤ 9 ∧ (9 : Int) ≤ 9) h.n : InvY cs ct cf cl cp k { W with mn := 0, ch := got, st := 9 }).up
 split
 · exact h.tk9
 · exact m0.up
theorem inU_of {n : Int} (h : 0 ≤ n ∧ n < 18446744073709551616) : inU n = true := by simp only [inU, vS, forall_const]; exact h
theorem of_inU {n : Int} (h : inU n = true) : 0 ≤ n ∧ n < 18446744073709551616 := by simp only [inU, vS, forall_const] at h; exact h
theorem run_fact (hr : rightC cs ct cf cl cp = true) (hS : uW w) {key : Int} {slow : Bool} : ∀ i, (runY cs ct cf (sizeN cs ct cf) ⟨wk0 key slow, 0, w⟩ i).i = i ∧ (runY cs ct cf (sizeN cs ct cf) ⟨wk0 key slow, 0, w⟩ i).c = itC cs ct cf w (wk0 key slow) i ∧
   uW (runY cs ct cf (sizeN cs ct cf) ⟨wk0 key slow, 0, w⟩ i).w ∧ agW ct w (runY cs ct cf (sizeN cs ct cf) ⟨wk0 key slow, 0, w⟩ i).w ∧ InvY cs ct cf cl cp i (runY cs ct cf (sizeN cs ct cf) ⟨wk0 key slow, 0, w⟩ i).c
 | 0 => ⟨rfl, rfl, hS, fun _ _ => rfl, ⟨hr, rfl, rfl, rfl, (by decide : (0 : Int) ≤ 0 ∧ (0 : Int) ≤ 64 ∧ -1 ≤ (0 : Int) ∧ (0 : Int) ≤ 64), (by decide : (0 : Int) ≤ 0 ∧ (0 : Int) ≤ ((0 : Nat) : Int)), (by decide : (0 : Int) ≤ 1 ∧ (1 : Int) ≤ 9), (by decide : -1 ≤ (0 : Int) ∧ (0 : Int) ≤ 64)⟩⟩
 | i + 1 => by
   obtain ⟨e1, e2, e3, e4, e5⟩ := run_fact hr hS (key := key) (slow := slow) i
   have hrr := rightC_iff.1 hr
   unfold runY stpY gotY
   generalize runY cs ct cf (sizeN cs ct cf) ⟨wk0 key slow, 0, w⟩ i = x at e1 e2 e3 e4 e5
   refine ⟨by rw [← e1], ?_, doW_u e3 ?_, do_ag (by omega) e4, e5.tk (inU_of (doR_u e3))⟩
   · show stC cs ct cf x.w x.c = stC cs ct cf w (itC cs ct cf w (wk0 key slow) i)
     rw [got_ag (by omega) e4, e2]
   · have := of_inU e5.h
     unfold wkN; split <;> omega
theorem root_to (hr : rightC cs ct cf cl cp = true) (hw : uW w) {m : Nat} {key : Int} {slow : Bool} (h0 : leafF cs ct cf w key m (w (yNat (valC cs ct cf 0 0))) ≠ 0) (hv : innC (w (yNat (verC cs ct cf 0))) = false) :
   ∃ T c', T ≤ 2 + 16 * m ∧ Rch cs ct cf w (wk0 key slow) T c' ∧ c'.st = 0 ∧ c'.out = 1 ∧ slotC c'.h = leafF cs ct cf w key m (w (yNat (valC cs ct cf 0 0))) ∧ c'.v = w (nB ct cf (slotC c'.h)) ∧ c'.n = (ndN ct cf (slotC c'.h) w : Nat) ∧ hrC c'.h cs = true := by
 have hrr := rightC_iff.1 hr
 obtain ⟨eB, room, h3', hbig, eF, eS, g4, g64⟩ := slot_room hr (slot := 0) (by omega) (by omega)
 have eV : yNat (verC cs ct cf 0) = nB ct cf 0 := by rw [verN (cs := cs) eB ⟨by omega, by omega⟩, yNatN]
 have eL : yNat (valC cs ct cf 0 0) = nB ct cf 0 + 3 + yNat cf := by
   have := valN (cs := cs) eB ⟨by omega, by omega⟩ eF (j := 0) (by omega)
   rw [show ((0 : Nat) : Int) = 0 from rfl] at this
   rw [this, yNatN]; omega
 have e1 := st1 (cs := cs) (ct := ct) (cf := cf) (w := w) (c := wk0 key slow) rfl
 rw [rdV hr (by omega) (by omega), ← eV] at e1
 unfold tk1 at e1
 rw [hv, if_neg (by decide)] at e1
 generalize hd : stC cs ct cf w (wk0 key slow) = d at e1
 have d2 : d.st = 2 := by rw [e1]
 have e2 := st2 (cs := cs) (ct := ct) (cf := cf) (w := w) d2
 have rL := rdVl (w := w) hr (s := 0) (by omega) (by omega) (j := 0) (by omega)
 rw [show ((0 : Nat) : Int) = 0 from rfl] at rL
 rw [rL, show ndVl ct cf 0 w 0 = w (yNat (valC cs ct cf 0 0)) by unfold ndVl; rw [eL]; rfl] at e2
 unfold tk2 at e2
 obtain ⟨_, _, hh, _⟩ := leafF_slot h0
 rw [comesX_ok hh] at e2
 generalize hd2 : stC cs ct cf w d = d' at e2
 have k1 : d.slow = slow := by rw [e1]; rfl
 have k2 : d.chain = false := by rw [e1]; rfl
 have k3 : d.key = key := by rw [e1]; rfl
 have k4 : d.p = 0 := by rw [e1]; rfl
 have k5 : d.pv = w (yNat (verC cs ct cf 0)) := by rw [e1]
 have q1 : d'.st = if d'.slow then 3 else 4 := by rw [e2]
 have q2 : d'.chain = false := by rw [e2]; exact k2
 have q3 : d'.key = key := by rw [e2]; exact k3
 have q4 : d'.p = 0 := by rw [e2]; exact k4
 have q5 : d'.pv = w (yNat (verC cs ct cf 0)) := by rw [e2]; exact k5
 have q6 : d'.h = w (yNat (valC cs ct cf 0 0)) := by rw [e2]
 obtain ⟨T, c', t1, t2, t3, t4, t5, t6, t7, t8⟩ := walk_to hr hw m d' q1 q2 (by rw [q4, q5, show slotC 0 = 0 from rfl, rdV hr (by omega) (by omega), eV]) (by rw [q3, q6]; exact h0)
 refine ⟨2 + T, c', by omega, Rch.trans t2 (Rch.step (show (1 : Int) ≠ 0 by decide) (hd.symm ▸ Rch.one (by omega) hd2)), t3, t4, ?_, t6, t7, t8⟩
 rw [t5, q3, q6]
end
end Go.Proofs.YtinijejfhmcmdaaDoor.Ex
end
section
namespace Go.Proofs.YtinijejfhmcmdaaDoor.Ex
open Go
section
variable {cs ct cf cl cp : Int} {m : Nat} {a b : Nat → Int} {key : Int} {slow : Bool}
theorem wStart_u (hr : rightC cs ct cf cl cp = true) (hb : ∀ i, i < m → inU (b i) = true) : ∀ i, i ≤ m → uW (foldA (sizeN cs ct cf) (newW cs ct cf) a b i) := fun i hi =>
 foldA_u (newW_u (by have := rightC_iff.1 hr; omega)) fun j hj => of_inU (hb j (by omega))
theorem ty_ok (hr : rightC cs ct cf cl cp = true) (hb : ∀ i, i < m → inU (b i) = true) (h0 : wantC cs ct cf m a b key ≠ 0) (hv : innC (wStart cs ct cf m a b (yNat (verC cs ct cf 0))) = false) :
   (tyY cs ct cf m a b key slow : Int) ≤ 2 + 16 * (cs + 1) ∧ ∃ c', Rch cs ct cf (wStart cs ct cf m a b) (wk0 key slow) (tyY cs ct cf m a b key slow) c' ∧ c'.st = 0 ∧ c'.out = 1 ∧ slotC c'.h = wantC cs ct cf m a b key ∧ c'.v = wStart cs ct cf m a b (nB ct cf (slotC c'.h)) ∧ c'.n = (ndN ct cf (slotC c'.h) (wStart cs ct cf m a b) : Nat) ∧ hrC c'.h cs = true := by
 have hrr := rightC_iff.1 hr
 have hS : uW (wStart cs ct cf m a b) := wStart_u hr hb m (Nat.le_refl _)
 obtain ⟨T, c', t1, t2, t3⟩ := root_to (slow := slow) hr hS h0 hv
 have rf := fun i => (run_fact hr hS (key := key) (slow := slow) i).2.1
 have sp : (runY cs ct cf (sizeN cs ct cf) (x0Y cs ct cf m a b key slow) (tyY cs ct cf m a b key slow)).c.st = 0 ∧ ∀ i, i < tyY cs ct cf m a b key slow → (runY cs ct cf (sizeN cs ct cf) (x0Y cs ct cf m a b key slow) i).c.st ≠ 0 :=
   Classical.epsilon_spec (p := fun T => (runY cs ct cf (sizeN cs ct cf) (x0Y cs ct cf m a b key slow) T).c.st = 0 ∧ ∀ i, i < T → (runY cs ct cf (sizeN cs ct cf) (x0Y cs ct cf m a b key slow) i).c.st ≠ 0)
     ⟨T, by show (runY cs ct cf (sizeN cs ct cf) ⟨wk0 key slow, 0, wStart cs ct cf m a b⟩ T).c.st = 0; rw [rf, t2.1]; exact t3.1, fun i hi => by
       show (runY cs ct cf (sizeN cs ct cf) ⟨wk0 key slow, 0, wStart cs ct cf m a b⟩ i).c.st ≠ 0; rw [rf]; exact t2.2 i hi⟩
 have rf' : ∀ i, (runY cs ct cf (sizeN cs ct cf) (x0Y cs ct cf m a b key slow) i).c = itC cs ct cf (wStart cs ct cf m a b) (wk0 key slow) i := rf
 have e : tyY cs ct cf m a b key slow = T := by
   rcases Nat.lt_trichotomy (tyY cs ct cf m a b key slow) T with c | c | c
   · exact absurd (by have := sp.1; rw [rf'] at this; exact this) (t2.2 _ c)
   · exact c
   · exact absurd (by rw [rf', t2.1]; exact t3.1) (sp.2 _ c)
 rw [e]
 have eN : ((yNat (cs + 1) : Nat) : Int) = cs + 1 := by unfold yNat; omega
 exact ⟨by omega, c', t2, t3⟩
structure FinY (cs ct cf cl cp : Int) (want : Int) (x : WmI) : Prop where
 ok : wkOk x.c = true
 dn : wkDn x.c = 1
 hU : yAnd (yLe 0 (zH x.c)) (yLt (zH x.c) 18446744073709551616) = true
 sl : slotC (zH x.c) = want
 w1 : 1 ≤ want ∧ want ≤ cs
 v : zV x.c = x.w (yNat (verC cs ct cf want))
 n : zN x.c = (ndN ct cf want x.w : Nat)
 u : uW x.w
theorem wf_run (hr : rightC cs ct cf cl cp = true) (hb : ∀ i, i < m → inU (b i) = true) (h0 : wantC cs ct cf m a b key ≠ 0) (hv : innC (wStart cs ct cf m a b (yNat (verC cs ct cf 0))) = false)
   {x : WmI} (hx : prY cs ct cf (sizeN cs ct cf) (x0Y cs ct cf m a b key slow) (tyY cs ct cf m a b key slow) x) :
   uW x.w ∧ invX cs ct cf cl cp 0 x.c = true ∧ (wkOk x.c = false → x.i < tyY cs ct cf m a b key slow) ∧ (wkOk x.c = true → x.i = tyY cs ct cf m a b key slow) := by
 have hrr := rightC_iff.1 hr
 have hS : uW (wStart cs ct cf m a b) := wStart_u hr hb m (Nat.le_refl _)
 obtain ⟨q1, c', q2, q3, q4⟩ := ty_ok (slow := slow) hr hb h0 hv
 obtain ⟨x1, x2⟩ := hx
 obtain ⟨f1, f2, f3, f4, f5⟩ := run_fact hr hS (key := key) (slow := slow) x.i
 have x2 : x = runY cs ct cf (sizeN cs ct cf) ⟨wk0 key slow, 0, wStart cs ct cf m a b⟩ x.i := x2
 rw [← x2] at f1 f2 f3 f4 f5
 refine ⟨f3, f5.x (by omega), fun h => ?_, fun h => ?_⟩
 · rcases Nat.lt_or_ge x.i (tyY cs ct cf m a b key slow) with c | c
   · exact c
   · exfalso
     have e : x.i = tyY cs ct cf m a b key slow := by omega
     rw [e, q2.1] at f2
     unfold wkOk at h
     rw [f2, q3] at h; exact absurd h (by decide)
 · rcases Nat.lt_or_ge x.i (tyY cs ct cf m a b key slow) with c | c
   · exfalso
     have := q2.2 _ c
     rw [← f2] at this
     exact this (of_decide_eq_true h)
   · omega
theorem wf_fin (hr : rightC cs ct cf cl cp = true) (hb : ∀ i, i < m → inU (b i) = true) (h0 : wantC cs ct cf m a b key ≠ 0) (hv : innC (wStart cs ct cf m a b (yNat (verC cs ct cf 0))) = false)
   {x : WmI} (hx : prY cs ct cf (sizeN cs ct cf) (x0Y cs ct cf m a b key slow) (tyY cs ct cf m a b key slow) x) (hi : x.i = tyY cs ct cf m a b key slow) : FinY cs ct cf cl cp (wantC cs ct cf m a b key) x := by
 have hrr := rightC_iff.1 hr
 have hS : uW (wStart cs ct cf m a b) := wStart_u hr hb m (Nat.le_refl _)
 obtain ⟨q1, c', q2, q3, q4, q5, q6, q7, q8⟩ := ty_ok (slow := slow) hr hb h0 hv
 obtain ⟨x1, x2⟩ := hx
 obtain ⟨f1, f2, f3, f4, f5⟩ := run_fact hr hS (key := key) (slow := slow) x.i
 have x2 : x = runY cs ct cf (sizeN cs ct cf) ⟨wk0 key slow, 0, wStart cs ct cf m a b⟩ x.i := x2
 rw [← x2] at f1 f2 f3 f4 f5
 rw [hi, q2.1] at f2
 obtain ⟨h1, h2, h3⟩ := hrC_t.1 q8
 have s1 : slotC c'.h = c'.h % 65536 := rfl
 obtain ⟨eB, room, h3', hbig, eF, eS, g4, g64⟩ := slot_room hr (slot := wantC cs ct cf m a b key) (by omega) (by omega)
 have nh := node_hi (ct := ct) (cf := cf) (s := wantC cs ct cf m a b key) (by omega) (by omega)
 refine ⟨?_, ?_, ?_, ?_, by omega, ?_, ?_, f3⟩
 · unfold wkOk; rw [f2, q3]; rfl
 · unfold wkDn; rw [f2, q3, if_pos rfl, q4, if_neg (by decide)]
 · exact f5.h
 · show slotC x.c.h = _; rw [f2]; exact q5
 · show x.c.v = _
   rw [f2, q6, q5, verN (cs := cs) eB ⟨by omega, by omega⟩, yNatN]
   exact (f4 _ (by omega)).symm
 · show x.c.n = _
   rw [f2, q7, q5]
   unfold ndN ndS
   rw [f4 _ (by omega)]
end
end Go.Proofs.YtinijejfhmcmdaaDoor.Ex
end
section
namespace Go.Proofs.YtinijejfhmcmdaaDoor.Ex
open Go
def goalWfV : Prop := (∀ (cs ct cf cl cp : Int) (mn : Bool) (m : Nat) (a b : Nat → Int) (key : Int) (slow : Bool) (x0 : WmI) (T : Nat), rightC cs ct cf cl cp = true → yAnd (yLe 0 key) (yLt key 18446744073709551616) = true → (∀ (i : Nat), i < m → inU (b i) = true) → x0 = x0Y cs ct cf m a b key slow → T = tyY cs ct cf m a b key slow → (yLt 300 (yInt m) = true → true = true) ∧ (yLt 300 (yInt m) = false → mst (rightC cs ct cf cl cp) (mst (rightC cs ct cf cl cp) ((yLt 5000 (sizeC cs ct cf) = true → true = true) ∧ (yLt 5000 (sizeC cs ct cf) = false → mst (rightC cs ct cf cl cp) (true = true ∧ (∃ (i0 : Nat), prFd m i0 ∧ true = true ∧ yInt i0 = (0 : Int) ∧ sizeN cs ct cf = sizeN cs ct cf ∧ (∀ (i : Nat), Nat.succ i ≤ sizeN cs ct cf → foldA (sizeN cs ct cf) (newW cs ct cf) a b i0 i = newW cs ct cf i ∧ True) ∧ true = true) ∧ ∀ (g : Nat → AV) (i : Nat), prFd m i → (yLt (yInt i) (yInt m) = true → mst (yIn (yInt i) m) (mst (yIn (yInt i) m) (mst (yNeq 0 0) (mst (yNeq (sizeN cs ct cf) (sizeN cs ct cf)) (mst (yCol (CK.int IntKind.u64) (sizeN cs ct cf) fun (i_1 : Nat) => AV.y IntKind.u64 (foldA (sizeN cs ct cf) (newW cs ct cf) a b i i_1)) (mst (yNle (sizeN cs ct cf) 1000000) (true = true ∧ ∃ (i' : Nat), prFd m i' ∧ Nat.succ (msFit m i') ≤ msFit m i ∧ true = true ∧ yInt i' = yWrap IntKind.i64 (yAdd (yInt i) 1) ∧ sizeN cs ct cf = sizeN cs ct cf ∧ (∀ (i_1 : Nat), Nat.succ i_1 ≤ sizeN cs ct cf → foldA (sizeN cs ct cf) (newW cs ct cf) a b i' i_1 = doW 2 (a (yNat (yInt i))) 0 (b (yNat (yInt i))) (sizeN cs ct cf) (fun (i_2 : Nat) => foldA (sizeN cs ct cf) (newW cs ct cf) a b i i_2) i_1 ∧ True) ∧ true = true))))))) ∧ (yLt (yInt i) (yInt m) = false → mst (yAnd (yAnd (rightC cs ct cf cl cp) (yAnd (yLe 0 0) (yLe 0 cs))) (yAnd (yLe 0 0) (yLt 0 cf))) (mst (yIn (valC cs ct cf 0 0) (sizeN cs ct cf)) (mst (yNlt (yNadd 0 (yNat (valC cs ct cf 0 0))) (sizeN cs ct cf)) (mst (yNle (yNadd 0 (sizeN cs ct cf)) (sizeN cs ct cf)) (mst (yCol (CK.int IntKind.u64) (sizeN cs ct cf) fun (i_1 : Nat) => AV.y IntKind.u64 (foldA (sizeN cs ct cf) (newW cs ct cf) a b i i_1)) (mst (yAnd (rightC cs ct cf cl cp) (yAnd (yAnd (yNeq (sizeN cs ct cf) (sizeN cs ct cf)) (wuC (sizeN cs ct cf) fun (i_1 : Nat) => foldA (sizeN cs ct cf) (newW cs ct cf) a b i i_1)) (yAnd (yAnd (yLe 0 (foldA (sizeN cs ct cf) (newW cs ct cf) a b i (yNadd 0 (yNat (valC cs ct cf 0 0))))) (yLt (foldA (sizeN cs ct cf) (newW cs ct cf) a b i (yNadd 0 (yNat (valC cs ct cf 0 0)))) 18446744073709551616)) (yEq 0 0)))) ((yEq (leafF cs ct cf (fun (i_1 : Nat) => foldA (sizeN cs ct cf) (newW cs ct cf) a b i i_1) key (yNat (yAdd cs 1)) (foldA (sizeN cs ct cf) (newW cs ct cf) a b i (yNadd 0 (yNat (valC cs ct cf 0 0))))) (0 : Int) = true → true = true) ∧ (yEq (leafF cs ct cf (fun (i_1 : Nat) => foldA (sizeN cs ct cf) (newW cs ct cf) a b i i_1) key (yNat (yAdd cs 1)) (foldA (sizeN cs ct cf) (newW cs ct cf) a b i (yNadd 0 (yNat (valC cs ct cf 0 0))))) (0 : Int) = false → mst (yAnd (rightC cs ct cf cl cp) (yAnd (yLe 0 0) (yLe 0 cs))) (mst (yIn (verC cs ct cf 0) (sizeN cs ct cf)) (mst (yNlt (yNadd 0 (yNat (verC cs ct cf 0))) (sizeN cs ct cf)) ((yEq 2 (0 : Int) = true → False) ∧ (yEq 2 (0 : Int) = false → (yEq (yRem (foldA (sizeN cs ct cf) (newW cs ct cf) a b i (yNadd 0 (yNat (verC cs ct cf 0)))) 2) (1 : Int) = true → true = true) ∧ (yEq (yRem (foldA (sizeN cs ct cf) (newW cs ct cf) a b i (yNadd 0 (yNat (verC cs ct cf 0)))) 2) (1 : Int) = false → mst (rightC cs ct cf cl cp) ((slow = true → mst (yAnd (rightC cs ct cf cl cp) (yAnd (yAnd (yLe 0 0) (yLt 0 ct)) (yEq 1 1))) (mst (true) (true = true ∧ (∃ (i0 : WmI), prY cs ct cf (sizeN cs ct cf) x0 T i0 ∧ true = true ∧ wkOk i0.1 = wkOk { p := (0 : Int), pv := (0 : Int), pn := (0 : Int), i := (0 : Int), h := (0 : Int), v := (0 : Int), n := (0 : Int), inr := false, dp := (0 : Int), key := key, slow := true, chain := false, st := (1 : Int), out := (0 : Int), sk := (0 : Int), sl := (0 : Int), sh := (0 : Int), skey := (0 : Int), at_ := (0 : Int), ch := (0 : Int), k0 := (0 : Int), a0 := (0 : Int), b0 := (0 : Int), k1 := (0 : Int), a1 := (0 : Int), b1 := (0 : Int), mn := (0 : Int) } ∧ yInt i0.2 = (0 : Int) ∧ zP i0.1 = (0 : Int) ∧ zPv i0.1 = (0 : Int) ∧ zPn i0.1 = (0 : Int) ∧ zI i0.1 = (0 : Int) ∧ zH i0.1 = (0 : Int) ∧ zV i0.1 = (0 : Int) ∧ zN i0.1 = (0 : Int) ∧ zInr i0.1 = false ∧ zDp i0.1 = (0 : Int) ∧ cs = cs ∧ ct = ct ∧ cf = cf ∧ cl = cl ∧ cp = cp ∧ (0 : Int) = (0 : Int) ∧ (1 : Int) = (1 : Int) ∧ zKey i0.1 = key ∧ zSlow i0.1 = true ∧ zChain i0.1 = false ∧ zSt i0.1 = (1 : Int) ∧ zOut i0.1 = (0 : Int) ∧ zSk i0.1 = (0 : Int) ∧ zSl i0.1 = (0 : Int) ∧ zSh i0.1 = (0 : Int) ∧ zSkey i0.1 = (0 : Int) ∧ zAt i0.1 = (0 : Int) ∧ zCh i0.1 = (0 : Int) ∧ zK0 i0.1 = (0 : Int) ∧ zA0 i0.1 = (0 : Int) ∧ zB0 i0.1 = (0 : Int) ∧ zK1 i0.1 = (0 : Int) ∧ zA1 i0.1 = (0 : Int) ∧ zB1 i0.1 = (0 : Int) ∧ zMn i0.1 = (0 : Int) ∧ sizeN cs ct cf = sizeN cs ct cf ∧ (∀ (i_1 : Nat), Nat.succ i_1 ≤ sizeN cs ct cf → i0.3 i_1 = foldA (sizeN cs ct cf) (newW cs ct cf) a b i i_1 ∧ True) ∧ true = true) ∧ ∀ (g : Nat → AV) (i_1 : WmI), prY cs ct cf (sizeN cs ct cf) x0 T i_1 → (yLt (yInt i_1.2) (yWrap IntKind.i64 (yAdd 3 (yWrap IntKind.i64 (yMul 16 (yWrap IntKind.i64 (yAdd cs 1)))))) = true → (wkOk i_1.1 = true → mst (true) ((wkOk i_1.1 = true → (yEq (wkDn i_1.1) (1 : Int) = true → mst (yAnd (yLe 0 (zH i_1.1)) (yLt (zH i_1.1) 18446744073709551616)) ((yEq (slotC (zH i_1.1)) (leafF cs ct cf (fun (i_2 : Nat) => foldA (sizeN cs ct cf) (newW cs ct cf) a b i i_2) key (yNat (yAdd cs 1)) (foldA (sizeN cs ct cf) (newW cs ct cf) a b i (yNadd 0 (yNat (valC cs ct cf 0 0))))) = true → mst (yAnd (rightC cs ct cf cl cp) (yAnd (yLe 0 (leafF cs ct cf (fun (i_2 : Nat) => foldA (sizeN cs ct cf) (newW cs ct cf) a b i i_2) key (yNat (yAdd cs 1)) (foldA (sizeN cs ct cf) (newW cs ct cf) a b i (yNadd 0 (yNat (valC cs ct cf 0 0)))))) (yLe (leafF cs ct cf (fun (i_2 : Nat) => foldA (sizeN cs ct cf) (newW cs ct cf) a b i i_2) key (yNat (yAdd cs 1)) (foldA (sizeN cs ct cf) (newW cs ct cf) a b i (yNadd 0 (yNat (valC cs ct cf 0 0))))) cs))) (mst (yIn (verC cs ct cf (leafF cs ct cf (fun (i_2 : Nat) => foldA (sizeN cs ct cf) (newW cs ct cf) a b i i_2) key (yNat (yAdd cs 1)) (foldA (sizeN cs ct cf) (newW cs ct cf) a b i (yNadd 0 (yNat (valC cs ct cf 0 0)))))) (sizeN cs ct cf)) (mst (yNlt (yNadd 0 (yNat (verC cs ct cf (leafF cs ct cf (fun (i_2 : Nat) => foldA (sizeN cs ct cf) (newW cs ct cf) a b i i_2) key (yNat (yAdd cs 1)) (foldA (sizeN cs ct cf) (newW cs ct cf) a b i (yNadd 0 (yNat (valC cs ct cf 0 0)))))))) (sizeN cs ct cf)) ((yEq (zV i_1.1) (i_1.3 (yNadd (0 : Nat) (yNat (verC cs ct cf (leafF cs ct cf (fun (i_2 : Nat) => toI (shiftF (0 : Nat) (colF [Col.int IntKind.u64 (foldA (sizeN cs ct cf) (newW cs ct cf) a b i)]) i_2 (0 : Nat))) key (yNat (yAdd cs 1)) (foldA (sizeN cs ct cf) (newW cs ct cf) a b i (yNadd (0 : Nat) (yNat (valC cs ct cf 0 0))))))))) = true → mst (yNle (yNadd 0 (sizeN cs ct cf)) (sizeN cs ct cf)) (mst (yCol (CK.int IntKind.u64) (sizeN cs ct cf) fun (i : Nat) => AV.y IntKind.u64 (i_1.3 i)) (mst (yAnd (rightC cs ct cf cl cp) (yAnd (yAnd (yLe 0 (leafF cs ct cf (fun (i_2 : Nat) => foldA (sizeN cs ct cf) (newW cs ct cf) a b i i_2) key (yNat (yAdd cs 1)) (foldA (sizeN cs ct cf) (newW cs ct cf) a b i (yNadd 0 (yNat (valC cs ct cf 0 0)))))) (yLe (leafF cs ct cf (fun (i_2 : Nat) => foldA (sizeN cs ct cf) (newW cs ct cf) a b i i_2) key (yNat (yAdd cs 1)) (foldA (sizeN cs ct cf) (newW cs ct cf) a b i (yNadd 0 (yNat (valC cs ct cf 0 0))))) cs)) (yAnd (yNeq (sizeN cs ct cf) (sizeN cs ct cf)) (yAnd (yLe 0 (ndS ct cf (leafF cs ct cf (fun (i_2 : Nat) => foldA (sizeN cs ct cf) (newW cs ct cf) a b i i_2) key (yNat (yAdd cs 1)) (foldA (sizeN cs ct cf) (newW cs ct cf) a b i (yNadd 0 (yNat (valC cs ct cf 0 0))))) fun (i : Nat) => i_1.3 i)) (yLt (ndS ct cf (leafF cs ct cf (fun (i_2 : Nat) => foldA (sizeN cs ct cf) (newW cs ct cf) a b i i_2) key (yNat (yAdd cs 1)) (foldA (sizeN cs ct cf) (newW cs ct cf) a b i (yNadd 0 (yNat (valC cs ct cf 0 0))))) fun (i : Nat) => i_1.3 i) 18446744073709551616))))) ((yEq (zN i_1.1) (yInt (ndN ct cf (leafF cs ct cf (fun (i_2 : Nat) => foldA (sizeN cs ct cf) (newW cs ct cf) a b i i_2) key (yNat (yAdd cs 1)) (foldA (sizeN cs ct cf) (newW cs ct cf) a b i (yNadd 0 (yNat (valC cs ct cf 0 0))))) fun (i : Nat) => i_1.3 i)) = true → true = true) ∧ (yEq (zN i_1.1) (yInt (ndN ct cf (leafF cs ct cf (fun (i_2 : Nat) => foldA (sizeN cs ct cf) (newW cs ct cf) a b i i_2) key (yNat (yAdd cs 1)) (foldA (sizeN cs ct cf) (newW cs ct cf) a b i (yNadd 0 (yNat (valC cs ct cf 0 0))))) fun (i : Nat) => i_1.3 i)) = false → true = false))))) ∧ (yEq (zV i_1.1) (i_1.3 (yNadd (0 : Nat) (yNat (verC cs ct cf (leafF cs ct cf (fun (i_2 : Nat) => toI (shiftF (0 : Nat) (colF [Col.int IntKind.u64 (foldA (sizeN cs ct cf) (newW cs ct cf) a b i)]) i_2 (0 : Nat))) key (yNat (yAdd cs 1)) (foldA (sizeN cs ct cf) (newW cs ct cf) a b i (yNadd (0 : Nat) (yNat (valC cs ct cf 0 0))))))))) = false → true = false))))) ∧ (yEq (slotC (zH i_1.1)) (leafF cs ct cf (fun (i_2 : Nat) => foldA (sizeN cs ct cf) (newW cs ct cf) a b i i_2) key (yNat (yAdd cs 1)) (foldA (sizeN cs ct cf) (newW cs ct cf) a b i (yNadd 0 (yNat (valC cs ct cf 0 0))))) = false → true = false))) ∧ (yEq (wkDn i_1.1) (1 : Int) = false → true = false)) ∧ (wkOk i_1.1 = false → true = false))) ∧ (wkOk i_1.1 = false → mst (yAnd (yEq 1 1) (invX cs ct cf cl cp 0 i_1.1)) (mst (yNeq 0 0) (mst (yNeq (sizeN cs ct cf) (sizeN cs ct cf)) (mst (yCol (CK.int IntKind.u64) (sizeN cs ct cf) fun (i : Nat) => AV.y IntKind.u64 (i_1.3 i)) (mst (yNle (sizeN cs ct cf) 1000000) (mst (yAnd (yAnd (yEq 1 1) (yAnd (yLe 0 (doR (wkK i_1.1) (wkA cs ct cf 0 i_1.1) 0 (sizeN cs ct cf) fun (i : Nat) => i_1.3 i)) (yLt (doR (wkK i_1.1) (wkA cs ct cf 0 i_1.1) 0 (sizeN cs ct cf) fun (i : Nat) => i_1.3 i) 18446744073709551616))) (invX cs ct cf cl cp 0 i_1.1)) (mst (true) (true = true ∧ ∃ (i' : WmI), prY cs ct cf (sizeN cs ct cf) x0 T i' ∧ Nat.succ (msY T i') ≤ msY T i_1 ∧ true = true ∧ wkOk i'.1 = wkOk (tkX cs cf i_1.1 (doR (wkK i_1.1) (wkA cs ct cf 0 i_1.1) 0 (sizeN cs ct cf) fun (i : Nat) => i_1.3 i)) ∧ yInt i'.2 = yWrap IntKind.i64 (yAdd (yInt i_1.2) 1) ∧ zP i'.1 = zP (tkX cs cf i_1.1 (doR (wkK i_1.1) (wkA cs ct cf 0 i_1.1) 0 (sizeN cs ct cf) fun (i : Nat) => i_1.3 i)) ∧ zPv i'.1 = zPv (tkX cs cf i_1.1 (doR (wkK i_1.1) (wkA cs ct cf 0 i_1.1) 0 (sizeN cs ct cf) fun (i : Nat) => i_1.3 i)) ∧ zPn i'.1 = zPn (tkX cs cf i_1.1 (doR (wkK i_1.1) (wkA cs ct cf 0 i_1.1) 0 (sizeN cs ct cf) fun (i : Nat) => i_1.3 i)) ∧ zI i'.1 = zI (tkX cs cf i_1.1 (doR (wkK i_1.1) (wkA cs ct cf 0 i_1.1) 0 (sizeN cs ct cf) fun (i : Nat) => i_1.3 i)) ∧ zH i'.1 = zH (tkX cs cf i_1.1 (doR (wkK i_1.1) (wkA cs ct cf 0 i_1.1) 0 (sizeN cs ct cf) fun (i : Nat) => i_1.3 i)) ∧ zV i'.1 = zV (tkX cs cf i_1.1 (doR (wkK i_1.1) (wkA cs ct cf 0 i_1.1) 0 (sizeN cs ct cf) fun (i : Nat) => i_1.3 i)) ∧ zN i'.1 = zN (tkX cs cf i_1.1 (doR (wkK i_1.1) (wkA cs ct cf 0 i_1.1) 0 (sizeN cs ct cf) fun (i : Nat) => i_1.3 i)) ∧ zInr i'.1 = zInr (tkX cs cf i_1.1 (doR (wkK i_1.1) (wkA cs ct cf 0 i_1.1) 0 (sizeN cs ct cf) fun (i : Nat) => i_1.3 i)) ∧ zDp i'.1 = zDp (tkX cs cf i_1.1 (doR (wkK i_1.1) (wkA cs ct cf 0 i_1.1) 0 (sizeN cs ct cf) fun (i : Nat) => i_1.3 i)) ∧ cs = cs ∧ ct = ct ∧ cf = cf ∧ cl = cl ∧ cp = cp ∧ (0 : Int) = (0 : Int) ∧ (1 : Int) = (1 : Int) ∧ zKey i'.1 = zKey (tkX cs cf i_1.1 (doR (wkK i_1.1) (wkA cs ct cf 0 i_1.1) 0 (sizeN cs ct cf) fun (i : Nat) => i_1.3 i)) ∧ zSlow i'.1 = zSlow (tkX cs cf i_1.1 (doR (wkK i_1.1) (wkA cs ct cf 0 i_1.1) 0 (sizeN cs ct cf) fun (i : Nat) => i_1.3 i)) ∧ zChain i'.1 = zChain (tkX cs cf i_1.1 (doR (wkK i_1.1) (wkA cs ct cf 0 i_1.1) 0 (sizeN cs ct cf) fun (i : Nat) => i_1.3 i)) ∧ zSt i'.1 = zSt (tkX cs cf i_1.1 (doR (wkK i_1.1) (wkA cs ct cf 0 i_1.1) 0 (sizeN cs ct cf) fun (i : Nat) => i_1.3 i)) ∧ zOut i'.1 = zOut (tkX cs cf i_1.1 (doR (wkK i_1.1) (wkA cs ct cf 0 i_1.1) 0 (sizeN cs ct cf) fun (i : Nat) => i_1.3 i)) ∧ zSk i'.1 = zSk (tkX cs cf i_1.1 (doR (wkK i_1.1) (wkA cs ct cf 0 i_1.1) 0 (sizeN cs ct cf) fun (i : Nat) => i_1.3 i)) ∧ zSl i'.1 = zSl (tkX cs cf i_1.1 (doR (wkK i_1.1) (wkA cs ct cf 0 i_1.1) 0 (sizeN cs ct cf) fun (i : Nat) => i_1.3 i)) ∧ zSh i'.1 = zSh (tkX cs cf i_1.1 (doR (wkK i_1.1) (wkA cs ct cf 0 i_1.1) 0 (sizeN cs ct cf) fun (i : Nat) => i_1.3 i)) ∧ zSkey i'.1 = zSkey (tkX cs cf i_1.1 (doR (wkK i_1.1) (wkA cs ct cf 0 i_1.1) 0 (sizeN cs ct cf) fun (i : Nat) => i_1.3 i)) ∧ zAt i'.1 = zAt (tkX cs cf i_1.1 (doR (wkK i_1.1) (wkA cs ct cf 0 i_1.1) 0 (sizeN cs ct cf) fun (i : Nat) => i_1.3 i)) ∧ zCh i'.1 = zCh (tkX cs cf i_1.1 (doR (wkK i_1.1) (wkA cs ct cf 0 i_1.1) 0 (sizeN cs ct cf) fun (i : Nat) => i_1.3 i)) ∧ zK0 i'.1 = zK0 (tkX cs cf i_1.1 (doR (wkK i_1.1) (wkA cs ct cf 0 i_1.1) 0 (sizeN cs ct cf) fun (i : Nat) => i_1.3 i)) ∧ zA0 i'.1 = zA0 (tkX cs cf i_1.1 (doR (wkK i_1.1) (wkA cs ct cf 0 i_1.1) 0 (sizeN cs ct cf) fun (i : Nat) => i_1.3 i)) ∧ zB0 i'.1 = zB0 (tkX cs cf i_1.1 (doR (wkK i_1.1) (wkA cs ct cf 0 i_1.1) 0 (sizeN cs ct cf) fun (i : Nat) => i_1.3 i)) ∧ zK1 i'.1 = zK1 (tkX cs cf i_1.1 (doR (wkK i_1.1) (wkA cs ct cf 0 i_1.1) 0 (sizeN cs ct cf) fun (i : Nat) => i_1.3 i)) ∧ zA1 i'.1 = zA1 (tkX cs cf i_1.1 (doR (wkK i_1.1) (wkA cs ct cf 0 i_1.1) 0 (sizeN cs ct cf) fun (i : Nat) => i_1.3 i)) ∧ zB1 i'.1 = zB1 (tkX cs cf i_1.1 (doR (wkK i_1.1) (wkA cs ct cf 0 i_1.1) 0 (sizeN cs ct cf) fun (i : Nat) => i_1.3 i)) ∧ zMn i'.1 = zMn (tkX cs cf i_1.1 (doR (wkK i_1.1) (wkA cs ct cf 0 i_1.1) 0 (sizeN cs ct cf) fun (i : Nat) => i_1.3 i)) ∧ sizeN cs ct cf = sizeN cs ct cf ∧ (∀ (i : Nat), Nat.succ i ≤ sizeN cs ct cf → i'.3 i = doW (wkK i_1.1) (wkA cs ct cf 0 i_1.1) 0 (wkN i_1.1) (sizeN cs ct cf) (fun (i : Nat) => i_1.3 i) i ∧ True) ∧ true = true))))))))) ∧ (yLt (yInt i_1.2) (yWrap IntKind.i64 (yAdd 3 (yWrap IntKind.i64 (yMul 16 (yWrap IntKind.i64 (yAdd cs 1)))))) = false → mst (true) ((wkOk i_1.1 = true → (yEq (wkDn i_1.1) (1 : Int) = true → mst (yAnd (yLe 0 (zH i_1.1)) (yLt (zH i_1.1) 18446744073709551616)) ((yEq (slotC (zH i_1.1)) (leafF cs ct cf (fun (i_2 : Nat) => foldA (sizeN cs ct cf) (newW cs ct cf) a b i i_2) key (yNat (yAdd cs 1)) (foldA (sizeN cs ct cf) (newW cs ct cf) a b i (yNadd 0 (yNat (valC cs ct cf 0 0))))) = true → mst (yAnd (rightC cs ct cf cl cp) (yAnd (yLe 0 (leafF cs ct cf (fun (i_2 : Nat) => foldA (sizeN cs ct cf) (newW cs ct cf) a b i i_2) key (yNat (yAdd cs 1)) (foldA (sizeN cs ct cf) (newW cs ct cf) a b i (yNadd 0 (yNat (valC cs ct cf 0 0)))))) (yLe (leafF cs ct cf (fun (i_2 : Nat) => foldA (sizeN cs ct cf) (newW cs ct cf) a b i i_2) key (yNat (yAdd cs 1)) (foldA (sizeN cs ct cf) (newW cs ct cf) a b i (yNadd 0 (yNat (valC cs ct cf 0 0))))) cs))) (mst (yIn (verC cs ct cf (leafF cs ct cf (fun (i_2 : Nat) => foldA (sizeN cs ct cf) (newW cs ct cf) a b i i_2) key (yNat (yAdd cs 1)) (foldA (sizeN cs ct cf) (newW cs ct cf) a b i (yNadd 0 (yNat (valC cs ct cf 0 0)))))) (sizeN cs ct cf)) (mst (yNlt (yNadd 0 (yNat (verC cs ct cf (leafF cs ct cf (fun (i_2 : Nat) => foldA (sizeN cs ct cf) (newW cs ct cf) a b i i_2) key (yNat (yAdd cs 1)) (foldA (sizeN cs ct cf) (newW cs ct cf) a b i (yNadd 0 (yNat (valC cs ct cf 0 0)))))))) (sizeN cs ct cf)) ((yEq (zV i_1.1) (i_1.3 (yNadd (0 : Nat) (yNat (verC cs ct cf (leafF cs ct cf (fun (i_2 : Nat) => toI (shiftF (0 : Nat) (colF [Col.int IntKind.u64 (foldA (sizeN cs ct cf) (newW cs ct cf) a b i)]) i_2 (0 : Nat))) key (yNat (yAdd cs 1)) (foldA (sizeN cs ct cf) (newW cs ct cf) a b i (yNadd (0 : Nat) (yNat (valC cs ct cf 0 0))))))))) = true → mst (yNle (yNadd 0 (sizeN cs ct cf)) (sizeN cs ct cf)) (mst (yCol (CK.int IntKind.u64) (sizeN cs ct cf) fun (i : Nat) => AV.y IntKind.u64 (i_1.3 i)) (mst (yAnd (rightC cs ct cf cl cp) (yAnd (yAnd (yLe 0 (leafF cs ct cf (fun (i_2 : Nat) => foldA (sizeN cs ct cf) (newW cs ct cf) a b i i_2) key (yNat (yAdd cs 1)) (foldA (sizeN cs ct cf) (newW cs ct cf) a b i (yNadd 0 (yNat (valC cs ct cf 0 0)))))) (yLe (leafF cs ct cf (fun (i_2 : Nat) => foldA (sizeN cs ct cf) (newW cs ct cf) a b i i_2) key (yNat (yAdd cs 1)) (foldA (sizeN cs ct cf) (newW cs ct cf) a b i (yNadd 0 (yNat (valC cs ct cf 0 0))))) cs)) (yAnd (yNeq (sizeN cs ct cf) (sizeN cs ct cf)) (yAnd (yLe 0 (ndS ct cf (leafF cs ct cf (fun (i_2 : Nat) => foldA (sizeN cs ct cf) (newW cs ct cf) a b i i_2) key (yNat (yAdd cs 1)) (foldA (sizeN cs ct cf) (newW cs ct cf) a b i (yNadd 0 (yNat (valC cs ct cf 0 0))))) fun (i : Nat) => i_1.3 i)) (yLt (ndS ct cf (leafF cs ct cf (fun (i_2 : Nat) => foldA (sizeN cs ct cf) (newW cs ct cf) a b i i_2) key (yNat (yAdd cs 1)) (foldA (sizeN cs ct cf) (newW cs ct cf) a b i (yNadd 0 (yNat (valC cs ct cf 0 0))))) fun (i : Nat) => i_1.3 i) 18446744073709551616))))) ((yEq (zN i_1.1) (yInt (ndN ct cf (leafF cs ct cf (fun (i_2 : Nat) => foldA (sizeN cs ct cf) (newW cs ct cf) a b i i_2) key (yNat (yAdd cs 1)) (foldA (sizeN cs ct cf) (newW cs ct cf) a b i (yNadd 0 (yNat (valC cs ct cf 0 0))))) fun (i : Nat) => i_1.3 i)) = true → true = true) ∧ (yEq (zN i_1.1) (yInt (ndN ct cf (leafF cs ct cf (fun (i_2 : Nat) => foldA (sizeN cs ct cf) (newW cs ct cf) a b i i_2) key (yNat (yAdd cs 1)) (foldA (sizeN cs ct cf) (newW cs ct cf) a b i (yNadd 0 (yNat (valC cs ct cf 0 0))))) fun (i : Nat) => i_1.3 i)) = false → true = false))))) ∧ (yEq (zV i_1.1) (i_1.3 (yNadd (0 : Nat) (yNat (verC cs ct cf (leafF cs ct cf (fun (i_2 : Nat) => toI (shiftF (0 : Nat) (colF [Col.int IntKind.u64 (foldA (sizeN cs ct cf) (newW cs ct cf) a b i)]) i_2 (0 : Nat))) key (yNat (yAdd cs 1)) (foldA (sizeN cs ct cf) (newW cs ct cf) a b i (yNadd (0 : Nat) (yNat (valC cs ct cf 0 0))))))))) = false → true = false))))) ∧ (yEq (slotC (zH i_1.1)) (leafF cs ct cf (fun (i_2 : Nat) => foldA (sizeN cs ct cf) (newW cs ct cf) a b i i_2) key (yNat (yAdd cs 1)) (foldA (sizeN cs ct cf) (newW cs ct cf) a b i (yNadd 0 (yNat (valC cs ct cf 0 0))))) = false → true = false))) ∧ (yEq (wkDn i_1.1) (1 : Int) = false → true = false)) ∧ (wkOk i_1.1 = false → true = false)))))) ∧ (slow = false → mst (yAnd (rightC cs ct cf cl cp) (yAnd (yAnd (yLe 0 0) (yLt 0 ct)) (yEq 1 1))) (mst (true) (true = true ∧ (∃ (i0 : WmI), prY cs ct cf (sizeN cs ct cf) x0 T i0 ∧ true = true ∧ wkOk i0.1 = wkOk { p := (0 : Int), pv := (0 : Int), pn := (0 : Int), i := (0 : Int), h := (0 : Int), v := (0 : Int), n := (0 : Int), inr := false, dp := (0 : Int), key := key, slow := false, chain := false, st := (1 : Int), out := (0 : Int), sk := (0 : Int), sl := (0 : Int), sh := (0 : Int), skey := (0 : Int), at_ := (0 : Int), ch := (0 : Int), k0 := (0 : Int), a0 := (0 : Int), b0 := (0 : Int), k1 := (0 : Int), a1 := (0 : Int), b1 := (0 : Int), mn := (0 : Int) } ∧ yInt i0.2 = (0 : Int) ∧ zP i0.1 = (0 : Int) ∧ zPv i0.1 = (0 : Int) ∧ zPn i0.1 = (0 : Int) ∧ zI i0.1 = (0 : Int) ∧ zH i0.1 = (0 : Int) ∧ zV i0.1 = (0 : Int) ∧ zN i0.1 = (0 : Int) ∧ zInr i0.1 = false ∧ zDp i0.1 = (0 : Int) ∧ cs = cs ∧ ct = ct ∧ cf = cf ∧ cl = cl ∧ cp = cp ∧ (0 : Int) = (0 : Int) ∧ (1 : Int) = (1 : Int) ∧ zKey i0.1 = key ∧ zSlow i0.1 = false ∧ zChain i0.1 = false ∧ zSt i0.1 = (1 : Int) ∧ zOut i0.1 = (0 : Int) ∧ zSk i0.1 = (0 : Int) ∧ zSl i0.1 = (0 : Int) ∧ zSh i0.1 = (0 : Int) ∧ zSkey i0.1 = (0 : Int) ∧ zAt i0.1 = (0 : Int) ∧ zCh i0.1 = (0 : Int) ∧ zK0 i0.1 = (0 : Int) ∧ zA0 i0.1 = (0 : Int) ∧ zB0 i0.1 = (0 : Int) ∧ zK1 i0.1 = (0 : Int) ∧ zA1 i0.1 = (0 : Int) ∧ zB1 i0.1 = (0 : Int) ∧ zMn i0.1 = (0 : Int) ∧ sizeN cs ct cf = sizeN cs ct cf ∧ (∀ (i_1 : Nat), Nat.succ i_1 ≤ sizeN cs ct cf → i0.3 i_1 = foldA (sizeN cs ct cf) (newW cs ct cf) a b i i_1 ∧ True) ∧ true = true) ∧ ∀ (g : Nat → AV) (i_1 : WmI), prY cs ct cf (sizeN cs ct cf) x0 T i_1 → (yLt (yInt i_1.2) (yWrap IntKind.i64 (yAdd 3 (yWrap IntKind.i64 (yMul 16 (yWrap IntKind.i64 (yAdd cs 1)))))) = true → (wkOk i_1.1 = true → mst (true) ((wkOk i_1.1 = true → (yEq (wkDn i_1.1) (1 : Int) = true → mst (yAnd (yLe 0 (zH i_1.1)) (yLt (zH i_1.1) 18446744073709551616)) ((yEq (slotC (zH i_1.1)) (leafF cs ct cf (fun (i_2 : Nat) => foldA (sizeN cs ct cf) (newW cs ct cf) a b i i_2) key (yNat (yAdd cs 1)) (foldA (sizeN cs ct cf) (newW cs ct cf) a b i (yNadd 0 (yNat (valC cs ct cf 0 0))))) = true → mst (yAnd (rightC cs ct cf cl cp) (yAnd (yLe 0 (leafF cs ct cf (fun (i_2 : Nat) => foldA (sizeN cs ct cf) (newW cs ct cf) a b i i_2) key (yNat (yAdd cs 1)) (foldA (sizeN cs ct cf) (newW cs ct cf) a b i (yNadd 0 (yNat (valC cs ct cf 0 0)))))) (yLe (leafF cs ct cf (fun (i_2 : Nat) => foldA (sizeN cs ct cf) (newW cs ct cf) a b i i_2) key (yNat (yAdd cs 1)) (foldA (sizeN cs ct cf) (newW cs ct cf) a b i (yNadd 0 (yNat (valC cs ct cf 0 0))))) cs))) (mst (yIn (verC cs ct cf (leafF cs ct cf (fun (i_2 : Nat) => foldA (sizeN cs ct cf) (newW cs ct cf) a b i i_2) key (yNat (yAdd cs 1)) (foldA (sizeN cs ct cf) (newW cs ct cf) a b i (yNadd 0 (yNat (valC cs ct cf 0 0)))))) (sizeN cs ct cf)) (mst (yNlt (yNadd 0 (yNat (verC cs ct cf (leafF cs ct cf (fun (i_2 : Nat) => foldA (sizeN cs ct cf) (newW cs ct cf) a b i i_2) key (yNat (yAdd cs 1)) (foldA (sizeN cs ct cf) (newW cs ct cf) a b i (yNadd 0 (yNat (valC cs ct cf 0 0)))))))) (sizeN cs ct cf)) ((yEq (zV i_1.1) (i_1.3 (yNadd (0 : Nat) (yNat (verC cs ct cf (leafF cs ct cf (fun (i_2 : Nat) => toI (shiftF (0 : Nat) (colF [Col.int IntKind.u64 (foldA (sizeN cs ct cf) (newW cs ct cf) a b i)]) i_2 (0 : Nat))) key (yNat (yAdd cs 1)) (foldA (sizeN cs ct cf) (newW cs ct cf) a b i (yNadd (0 : Nat) (yNat (valC cs ct cf 0 0))))))))) = true → mst (yNle (yNadd 0 (sizeN cs ct cf)) (sizeN cs ct cf)) (mst (yCol (CK.int IntKind.u64) (sizeN cs ct cf) fun (i : Nat) => AV.y IntKind.u64 (i_1.3 i)) (mst (yAnd (rightC cs ct cf cl cp) (yAnd (yAnd (yLe 0 (leafF cs ct cf (fun (i_2 : Nat) => foldA (sizeN cs ct cf) (newW cs ct cf) a b i i_2) key (yNat (yAdd cs 1)) (foldA (sizeN cs ct cf) (newW cs ct cf) a b i (yNadd 0 (yNat (valC cs ct cf 0 0)))))) (yLe (leafF cs ct cf (fun (i_2 : Nat) => foldA (sizeN cs ct cf) (newW cs ct cf) a b i i_2) key (yNat (yAdd cs 1)) (foldA (sizeN cs ct cf) (newW cs ct cf) a b i (yNadd 0 (yNat (valC cs ct cf 0 0))))) cs)) (yAnd (yNeq (sizeN cs ct cf) (sizeN cs ct cf)) (yAnd (yLe 0 (ndS ct cf (leafF cs ct cf (fun (i_2 : Nat) => foldA (sizeN cs ct cf) (newW cs ct cf) a b i i_2) key (yNat (yAdd cs 1)) (foldA (sizeN cs ct cf) (newW cs ct cf) a b i (yNadd 0 (yNat (valC cs ct cf 0 0))))) fun (i : Nat) => i_1.3 i)) (yLt (ndS ct cf (leafF cs ct cf (fun (i_2 : Nat) => foldA (sizeN cs ct cf) (newW cs ct cf) a b i i_2) key (yNat (yAdd cs 1)) (foldA (sizeN cs ct cf) (newW cs ct cf) a b i (yNadd 0 (yNat (valC cs ct cf 0 0))))) fun (i : Nat) => i_1.3 i) 18446744073709551616))))) ((yEq (zN i_1.1) (yInt (ndN ct cf (leafF cs ct cf (fun (i_2 : Nat) => foldA (sizeN cs ct cf) (newW cs ct cf) a b i i_2) key (yNat (yAdd cs 1)) (foldA (sizeN cs ct cf) (newW cs ct cf) a b i (yNadd 0 (yNat (valC cs ct cf 0 0))))) fun (i : Nat) => i_1.3 i)) = true → true = true) ∧ (yEq (zN i_1.1) (yInt (ndN ct cf (leafF cs ct cf (fun (i_2 : Nat) => foldA (sizeN cs ct cf) (newW cs ct cf) a b i i_2) key (yNat (yAdd cs 1)) (foldA (sizeN cs ct cf) (newW cs ct cf) a b i (yNadd 0 (yNat (valC cs ct cf 0 0))))) fun (i : Nat) => i_1.3 i)) = false → true = false))))) ∧ (yEq (zV i_1.1) (i_1.3 (yNadd (0 : Nat) (yNat (verC cs ct cf (leafF cs ct cf (fun (i_2 : Nat) => toI (shiftF (0 : Nat) (colF [Col.int IntKind.u64 (foldA (sizeN cs ct cf) (newW cs ct cf) a b i)]) i_2 (0 : Nat))) key (yNat (yAdd cs 1)) (foldA (sizeN cs ct cf) (newW cs ct cf) a b i (yNadd (0 : Nat) (yNat (valC cs ct cf 0 0))))))))) = false → true = false))))) ∧ (yEq (slotC (zH i_1.1)) (leafF cs ct cf (fun (i_2 : Nat) => foldA (sizeN cs ct cf) (newW cs ct cf) a b i i_2) key (yNat (yAdd cs 1)) (foldA (sizeN cs ct cf) (newW cs ct cf) a b i (yNadd 0 (yNat (valC cs ct cf 0 0))))) = false → true = false))) ∧ (yEq (wkDn i_1.1) (1 : Int) = false → true = false)) ∧ (wkOk i_1.1 = false → true = false))) ∧ (wkOk i_1.1 = false → mst (yAnd (yEq 1 1) (invX cs ct cf cl cp 0 i_1.1)) (mst (yNeq 0 0) (mst (yNeq (sizeN cs ct cf) (sizeN cs ct cf)) (mst (yCol (CK.int IntKind.u64) (sizeN cs ct cf) fun (i : Nat) => AV.y IntKind.u64 (i_1.3 i)) (mst (yNle (sizeN cs ct cf) 1000000) (mst (yAnd (yAnd (yEq 1 1) (yAnd (yLe 0 (doR (wkK i_1.1) (wkA cs ct cf 0 i_1.1) 0 (sizeN cs ct cf) fun (i : Nat) => i_1.3 i)) (yLt (doR (wkK i_1.1) (wkA cs ct cf 0 i_1.1) 0 (sizeN cs ct cf) fun (i : Nat) => i_1.3 i) 18446744073709551616))) (invX cs ct cf cl cp 0 i_1.1)) (mst (true) (true = true ∧ ∃ (i' : WmI), prY cs ct cf (sizeN cs ct cf) x0 T i' ∧ Nat.succ (msY T i') ≤ msY T i_1 ∧ true = true ∧ wkOk i'.1 = wkOk (tkX cs cf i_1.1 (doR (wkK i_1.1) (wkA cs ct cf 0 i_1.1) 0 (sizeN cs ct cf) fun (i : Nat) => i_1.3 i)) ∧ yInt i'.2 = yWrap IntKind.i64 (yAdd (yInt i_1.2) 1) ∧ zP i'.1 = zP (tkX cs cf i_1.1 (doR (wkK i_1.1) (wkA cs ct cf 0 i_1.1) 0 (sizeN cs ct cf) fun (i : Nat) => i_1.3 i)) ∧ zPv i'.1 = zPv (tkX cs cf i_1.1 (doR (wkK i_1.1) (wkA cs ct cf 0 i_1.1) 0 (sizeN cs ct cf) fun (i : Nat) => i_1.3 i)) ∧ zPn i'.1 = zPn (tkX cs cf i_1.1 (doR (wkK i_1.1) (wkA cs ct cf 0 i_1.1) 0 (sizeN cs ct cf) fun (i : Nat) => i_1.3 i)) ∧ zI i'.1 = zI (tkX cs cf i_1.1 (doR (wkK i_1.1) (wkA cs ct cf 0 i_1.1) 0 (sizeN cs ct cf) fun (i : Nat) => i_1.3 i)) ∧ zH i'.1 = zH (tkX cs cf i_1.1 (doR (wkK i_1.1) (wkA cs ct cf 0 i_1.1) 0 (sizeN cs ct cf) fun (i : Nat) => i_1.3 i)) ∧ zV i'.1 = zV (tkX cs cf i_1.1 (doR (wkK i_1.1) (wkA cs ct cf 0 i_1.1) 0 (sizeN cs ct cf) fun (i : Nat) => i_1.3 i)) ∧ zN i'.1 = zN (tkX cs cf i_1.1 (doR (wkK i_1.1) (wkA cs ct cf 0 i_1.1) 0 (sizeN cs ct cf) fun (i : Nat) => i_1.3 i)) ∧ zInr i'.1 = zInr (tkX cs cf i_1.1 (doR (wkK i_1.1) (wkA cs ct cf 0 i_1.1) 0 (sizeN cs ct cf) fun (i : Nat) => i_1.3 i)) ∧ zDp i'.1 = zDp (tkX cs cf i_1.1 (doR (wkK i_1.1) (wkA cs ct cf 0 i_1.1) 0 (sizeN cs ct cf) fun (i : Nat) => i_1.3 i)) ∧ cs = cs ∧ ct = ct ∧ cf = cf ∧ cl = cl ∧ cp = cp ∧ (0 : Int) = (0 : Int) ∧ (1 : Int) = (1 : Int) ∧ zKey i'.1 = zKey (tkX cs cf i_1.1 (doR (wkK i_1.1) (wkA cs ct cf 0 i_1.1) 0 (sizeN cs ct cf) fun (i : Nat) => i_1.3 i)) ∧ zSlow i'.1 = zSlow (tkX cs cf i_1.1 (doR (wkK i_1.1) (wkA cs ct cf 0 i_1.1) 0 (sizeN cs ct cf) fun (i : Nat) => i_1.3 i)) ∧ zChain i'.1 = zChain (tkX cs cf i_1.1 (doR (wkK i_1.1) (wkA cs ct cf 0 i_1.1) 0 (sizeN cs ct cf) fun (i : Nat) => i_1.3 i)) ∧ zSt i'.1 = zSt (tkX cs cf i_1.1 (doR (wkK i_1.1) (wkA cs ct cf 0 i_1.1) 0 (sizeN cs ct cf) fun (i : Nat) => i_1.3 i)) ∧ zOut i'.1 = zOut (tkX cs cf i_1.1 (doR (wkK i_1.1) (wkA cs ct cf 0 i_1.1) 0 (sizeN cs ct cf) fun (i : Nat) => i_1.3 i)) ∧ zSk i'.1 = zSk (tkX cs cf i_1.1 (doR (wkK i_1.1) (wkA cs ct cf 0 i_1.1) 0 (sizeN cs ct cf) fun (i : Nat) => i_1.3 i)) ∧ zSl i'.1 = zSl (tkX cs cf i_1.1 (doR (wkK i_1.1) (wkA cs ct cf 0 i_1.1) 0 (sizeN cs ct cf) fun (i : Nat) => i_1.3 i)) ∧ zSh i'.1 = zSh (tkX cs cf i_1.1 (doR (wkK i_1.1) (wkA cs ct cf 0 i_1.1) 0 (sizeN cs ct cf) fun (i : Nat) => i_1.3 i)) ∧ zSkey i'.1 = zSkey (tkX cs cf i_1.1 (doR (wkK i_1.1) (wkA cs ct cf 0 i_1.1) 0 (sizeN cs ct cf) fun (i : Nat) => i_1.3 i)) ∧ zAt i'.1 = zAt (tkX cs cf i_1.1 (doR (wkK i_1.1) (wkA cs ct cf 0 i_1.1) 0 (sizeN cs ct cf) fun (i : Nat) => i_1.3 i)) ∧ zCh i'.1 = zCh (tkX cs cf i_1.1 (doR (wkK i_1.1) (wkA cs ct cf 0 i_1.1) 0 (sizeN cs ct cf) fun (i : Nat) => i_1.3 i)) ∧ zK0 i'.1 = zK0 (tkX cs cf i_1.1 (doR (wkK i_1.1) (wkA cs ct cf 0 i_1.1) 0 (sizeN cs ct cf) fun (i : Nat) => i_1.3 i)) ∧ zA0 i'.1 = zA0 (tkX cs cf i_1.1 (doR (wkK i_1.1) (wkA cs ct cf 0 i_1.1) 0 (sizeN cs ct cf) fun (i : Nat) => i_1.3 i)) ∧ zB0 i'.1 = zB0 (tkX cs cf i_1.1 (doR (wkK i_1.1) (wkA cs ct cf 0 i_1.1) 0 (sizeN cs ct cf) fun (i : Nat) => i_1.3 i)) ∧ zK1 i'.1 = zK1 (tkX cs cf i_1.1 (doR (wkK i_1.1) (wkA cs ct cf 0 i_1.1) 0 (sizeN cs ct cf) fun (i : Nat) => i_1.3 i)) ∧ zA1 i'.1 = zA1 (tkX cs cf i_1.1 (doR (wkK i_1.1) (wkA cs ct cf 0 i_1.1) 0 (sizeN cs ct cf) fun (i : Nat) => i_1.3 i)) ∧ zB1 i'.1 = zB1 (tkX cs cf i_1.1 (doR (wkK i_1.1) (wkA cs ct cf 0 i_1.1) 0 (sizeN cs ct cf) fun (i : Nat) => i_1.3 i)) ∧ zMn i'.1 = zMn (tkX cs cf i_1.1 (doR (wkK i_1.1) (wkA cs ct cf 0 i_1.1) 0 (sizeN cs ct cf) fun (i : Nat) => i_1.3 i)) ∧ sizeN cs ct cf = sizeN cs ct cf ∧ (∀ (i : Nat), Nat.succ i ≤ sizeN cs ct cf → i'.3 i = doW (wkK i_1.1) (wkA cs ct cf 0 i_1.1) 0 (wkN i_1.1) (sizeN cs ct cf) (fun (i : Nat) => i_1.3 i) i ∧ True) ∧ true = true))))))))) ∧ (yLt (yInt i_1.2) (yWrap IntKind.i64 (yAdd 3 (yWrap IntKind.i64 (yMul 16 (yWrap IntKind.i64 (yAdd cs 1)))))) = false → mst (true) ((wkOk i_1.1 = true → (yEq (wkDn i_1.1) (1 : Int) = true → mst (yAnd (yLe 0 (zH i_1.1)) (yLt (zH i_1.1) 18446744073709551616)) ((yEq (slotC (zH i_1.1)) (leafF cs ct cf (fun (i_2 : Nat) => foldA (sizeN cs ct cf) (newW cs ct cf) a b i i_2) key (yNat (yAdd cs 1)) (foldA (sizeN cs ct cf) (newW cs ct cf) a b i (yNadd 0 (yNat (valC cs ct cf 0 0))))) = true → mst (yAnd (rightC cs ct cf cl cp) (yAnd (yLe 0 (leafF cs ct cf (fun (i_2 : Nat) => foldA (sizeN cs ct cf) (newW cs ct cf) a b i i_2) key (yNat (yAdd cs 1)) (foldA (sizeN cs ct cf) (newW cs ct cf) a b i (yNadd 0 (yNat (valC cs ct cf 0 0)))))) (yLe (leafF cs ct cf (fun (i_2 : Nat) => foldA (sizeN cs ct cf) (newW cs ct cf) a b i i_2) key (yNat (yAdd cs 1)) (foldA (sizeN cs ct cf) (newW cs ct cf) a b i (yNadd 0 (yNat (valC cs ct cf 0 0))))) cs))) (mst (yIn (verC cs ct cf (leafF cs ct cf (fun (i_2 : Nat) => foldA (sizeN cs ct cf) (newW cs ct cf) a b i i_2) key (yNat (yAdd cs 1)) (foldA (sizeN cs ct cf) (newW cs ct cf) a b i (yNadd 0 (yNat (valC cs ct cf 0 0)))))) (sizeN cs ct cf)) (mst (yNlt (yNadd 0 (yNat (verC cs ct cf (leafF cs ct cf (fun (i_2 : Nat) => foldA (sizeN cs ct cf) (newW cs ct cf) a b i i_2) key (yNat (yAdd cs 1)) (foldA (sizeN cs ct cf) (newW cs ct cf) a b i (yNadd 0 (yNat (valC cs ct cf 0 0)))))))) (sizeN cs ct cf)) ((yEq (zV i_1.1) (i_1.3 (yNadd (0 : Nat) (yNat (verC cs ct cf (leafF cs ct cf (fun (i_2 : Nat) => toI (shiftF (0 : Nat) (colF [Col.int IntKind.u64 (foldA (sizeN cs ct cf) (newW cs ct cf) a b i)]) i_2 (0 : Nat))) key (yNat (yAdd cs 1)) (foldA (sizeN cs ct cf) (newW cs ct cf) a b i (yNadd (0 : Nat) (yNat (valC cs ct cf 0 0))))))))) = true → mst (yNle (yNadd 0 (sizeN cs ct cf)) (sizeN cs ct cf)) (mst (yCol (CK.int IntKind.u64) (sizeN cs ct cf) fun (i : Nat) => AV.y IntKind.u64 (i_1.3 i)) (mst (yAnd (rightC cs ct cf cl cp) (yAnd (yAnd (yLe 0 (leafF cs ct cf (fun (i_2 : Nat) => foldA (sizeN cs ct cf) (newW cs ct cf) a b i i_2) key (yNat (yAdd cs 1)) (foldA (sizeN cs ct cf) (newW cs ct cf) a b i (yNadd 0 (yNat (valC cs ct cf 0 0)))))) (yLe (leafF cs ct cf (fun (i_2 : Nat) => foldA (sizeN cs ct cf) (newW cs ct cf) a b i i_2) key (yNat (yAdd cs 1)) (foldA (sizeN cs ct cf) (newW cs ct cf) a b i (yNadd 0 (yNat (valC cs ct cf 0 0))))) cs)) (yAnd (yNeq (sizeN cs ct cf) (sizeN cs ct cf)) (yAnd (yLe 0 (ndS ct cf (leafF cs ct cf (fun (i_2 : Nat) => foldA (sizeN cs ct cf) (newW cs ct cf) a b i i_2) key (yNat (yAdd cs 1)) (foldA (sizeN cs ct cf) (newW cs ct cf) a b i (yNadd 0 (yNat (valC cs ct cf 0 0))))) fun (i : Nat) => i_1.3 i)) (yLt (ndS ct cf (leafF cs ct cf (fun (i_2 : Nat) => foldA (sizeN cs ct cf) (newW cs ct cf) a b i i_2) key (yNat (yAdd cs 1)) (foldA (sizeN cs ct cf) (newW cs ct cf) a b i (yNadd 0 (yNat (valC cs ct cf 0 0))))) fun (i : Nat) => i_1.3 i) 18446744073709551616))))) ((yEq (zN i_1.1) (yInt (ndN ct cf (leafF cs ct cf (fun (i_2 : Nat) => foldA (sizeN cs ct cf) (newW cs ct cf) a b i i_2) key (yNat (yAdd cs 1)) (foldA (sizeN cs ct cf) (newW cs ct cf) a b i (yNadd 0 (yNat (valC cs ct cf 0 0))))) fun (i : Nat) => i_1.3 i)) = true → true = true) ∧ (yEq (zN i_1.1) (yInt (ndN ct cf (leafF cs ct cf (fun (i_2 : Nat) => foldA (sizeN cs ct cf) (newW cs ct cf) a b i i_2) key (yNat (yAdd cs 1)) (foldA (sizeN cs ct cf) (newW cs ct cf) a b i (yNadd 0 (yNat (valC cs ct cf 0 0))))) fun (i : Nat) => i_1.3 i)) = false → true = false))))) ∧ (yEq (zV i_1.1) (i_1.3 (yNadd (0 : Nat) (yNat (verC cs ct cf (leafF cs ct cf (fun (i_2 : Nat) => toI (shiftF (0 : Nat) (colF [Col.int IntKind.u64 (foldA (sizeN cs ct cf) (newW cs ct cf) a b i)]) i_2 (0 : Nat))) key (yNat (yAdd cs 1)) (foldA (sizeN cs ct cf) (newW cs ct cf) a b i (yNadd (0 : Nat) (yNat (valC cs ct cf 0 0))))))))) = false → true = false))))) ∧ (yEq (slotC (zH i_1.1)) (leafF cs ct cf (fun (i_2 : Nat) => foldA (sizeN cs ct cf) (newW cs ct cf) a b i i_2) key (yNat (yAdd cs 1)) (foldA (sizeN cs ct cf) (newW cs ct cf) a b i (yNadd 0 (yNat (valC cs ct cf 0 0))))) = false → true = false))) ∧ (yEq (wkDn i_1.1) (1 : Int) = false → true = false)) ∧ (wkOk i_1.1 = false → true = false))))))))))))))))))))))))))
theorem goalWf_eq : goalWf = goalWfV := by kernel_rfl
set_option maxHeartbeats 8000000 in
theorem goalWf_vc : goalWfV := by
 unfold goalWfV
 intro cs ct cf cl cp mn m a b key slow x0 T hr hk hb hx0 hT
 subst hx0 hT
 have hrr := rightC_iff.1 hr
 by_cases q0 : (300 : Int) < (m : Int)
 · exact fork_t (yLt_t.mpr q0) rfl
 refine fork_f (yLt_f.mpr (Int.not_lt.mp q0)) (mstI hr (mstI hr ?_))
 by_cases q1 : 5000 < sizeC cs ct cf
 · exact fork_t (yLt_t.mpr q1) rfl
 refine fork_f (yLt_f.mpr (Int.not_lt.mp q1)) (mstI hr ⟨rfl, ⟨0, Nat.zero_le _, rfl, rfl, rfl, fun i hi => ⟨rfl, trivial⟩, rfl⟩, fun _ i hi => ?_⟩)
 have hi : i ≤ m := hi
 obtain ⟨eB, room, h3', hbig, eF, eS, g4, g64⟩ := slot_room hr (slot := 0) (by omega) (by omega)
 have z0 : ∀ z, yNadd 0 z = z := Nat.zero_add
 by_cases qi : i < m
 · refine fork_t (yLt_t.mpr (show (i : Int) < (m : Int) by omega)) ?_
   have i1 : yIn (yInt i) m = true := by simp only [vS, forall_const]; omega
   have s1 : yNle (sizeN cs ct cf) 1000000 = true := by simp only [vS, forall_const]; omega
   refine mstI i1 (mstI i1 (mstI rfl (mstI (yNeq_t.mpr rfl) (mstI yCol1 (mstI s1 ⟨rfl, i + 1, qi, ?_, rfl, ?_, rfl, fun j hj => ⟨?_, trivial⟩, rfl⟩)))))
   · unfold msFit; omega
   · show ((i + 1 : Nat) : Int) = yWrap .i64 ((i : Int) + 1)
     rw [wrap64 (by omega) (by omega)]; omega
   · rw [yNat_yInt]; rfl
 obtain rfl : i = m := by omega
 refine fork_f (yLt_f.mpr (Int.le_refl _)) ?_
 have hS := wStart_u (a := a) hr hb i (Nat.le_refl _)
 have eL : valC cs ct cf 0 0 = ((nB ct cf 0 + 3 + yNat cf : Nat) : Int) := by
   have := valN (cs := cs) eB ⟨by omega, by omega⟩ eF (j := 0) (by omega)
   rw [show ((0 : Nat) : Int) = 0 from rfl] at this
   rw [this]; rfl
 have eV := verN (cs := cs) eB ⟨by omega, by omega⟩
 have pL : yAnd (yAnd (rightC cs ct cf cl cp) (yAnd (yLe (0 : Int) 0) (yLe 0 cs))) (yAnd (yLe (0 : Int) 0) (yLt 0 cf)) = true := by simp only [vS, forall_const, hr]; omega
 have iL : yIn (valC cs ct cf 0 0) (sizeN cs ct cf) = true := by rw [eL]; simp only [vS, forall_const]; omega
 have iL' : yNlt (yNadd 0 (yNat (valC cs ct cf 0 0))) (sizeN cs ct cf) = true := by rw [eL, yNatN]; simp only [vS, forall_const]; omega
 have n1 : yNle (yNadd 0 (sizeN cs ct cf)) (sizeN cs ct cf) = true := by simp only [vS, forall_const]
 have pf : yAnd (rightC cs ct cf cl cp) (yAnd (yAnd (yNeq (sizeN cs ct cf) (sizeN cs ct cf)) (wuC (sizeN cs ct cf) fun (i_1 : Nat) => foldA (sizeN cs ct cf) (newW cs ct cf) a b i i_1)) (yAnd (yAnd (yLe (0 : Int) (foldA (sizeN cs ct cf) (newW cs ct cf) a b i (yNadd 0 (yNat (valC cs ct cf 0 0))))) (yLt (foldA (sizeN cs ct cf) (newW cs ct cf) a b i (yNadd 0 (yNat (valC cs ct cf 0 0)))) (18446744073709551616 : Int))) (yEq (0 : Int) 0))) = true := by
   have h2 := uW_c (n := sizeN cs ct cf) hS
   have h3 := hS (yNadd 0 (yNat (valC cs ct cf 0 0)))
   rw [z0] at h3
   simp only [vS, forall_const, hr]
   exact ⟨h2, h3⟩
 have pv0 : yAnd (rightC cs ct cf cl cp) (yAnd (yLe (0 : Int) 0) (yLe 0 cs)) = true := by simp only [vS, forall_const, hr]; omega
 have iV : yIn (verC cs ct cf 0) (sizeN cs ct cf) = true := by rw [eV]; simp only [vS, forall_const]; omega
 have iV' : yNlt (yNadd 0 (yNat (verC cs ct cf 0))) (sizeN cs ct cf) = true := by rw [eV, yNatN]; simp only [vS, forall_const]; omega
 refine mstI pL (mstI iL (mstI iL' (mstI n1 (mstI yCol1 (mstI pf ?_)))))
 have eW : leafF cs ct cf (fun (i_1 : Nat) => foldA (sizeN cs ct cf) (newW cs ct cf) a b i i_1) key (yNat (yAdd cs 1)) (foldA (sizeN cs ct cf) (newW cs ct cf) a b i (yNadd 0 (yNat (valC cs ct cf 0 0)))) = wantC cs ct cf i a b key := by
   rw [z0]; rfl
 rw [eW]
 by_cases h0 : wantC cs ct cf i a b key = 0
 · exact fork_t (yEq_t.mpr h0) rfl
 refine fork_f (yEq_f.mpr h0) (mstI pv0 (mstI iV (mstI iV' ⟨fun e => absurd e (by decide), fun _ => ?_⟩)))
 rw [z0]
 by_cases hv : yEq (yRem (foldA (sizeN cs ct cf) (newW cs ct cf) a b i (yNat (verC cs ct cf 0))) 2) 1 = true
 · exact fork_t hv rfl
 have hv' : innC (wStart cs ct cf i a b (yNat (verC cs ct cf 0))) = false := by
   have h := hS (yNat (verC cs ct cf 0))
   unfold innC
   rw [decide_eq_false_iff_not]
   intro e
   apply hv
   rw [yEq_t]
   unfold yRem
   show (foldA (sizeN cs ct cf) (newW cs ct cf) a b i (yNat (verC cs ct cf 0))).tmod 2 = 1
   rw [Int.tmod_eq_emod_of_nonneg h.1]; exact e
 refine fork_f (Bool.eq_false_iff.mpr hv) (mstI hr ?_)
 have ph : yAnd (rightC cs ct cf cl cp) (yAnd (yAnd (yLe (0 : Int) 0) (yLt 0 ct)) (yEq (1 : Int) 1)) = true := by simp only [vS, forall_const, hr]; omega
 have s1 : yNle (sizeN cs ct cf) 1000000 = true := by simp only [vS, forall_const]; omega
 have lim : yWrap .i64 (yAdd 3 (yWrap .i64 (yMul 16 (yWrap .i64 (yAdd cs 1))))) = 3 + 16 * (cs + 1) := by
   have w1 : yWrap .i64 (yAdd cs 1) = cs + 1 := wrap64 (n := cs + 1) (by omega) (by omega)
   have w2 : yWrap .i64 (yMul 16 (cs + 1)) = 16 * (cs + 1) := wrap64 (n := 16 * (cs + 1)) (by omega) (by omega)
   rw [w1, w2]
   exact wrap64 (n := 3 + 16 * (cs + 1)) (by omega) (by omega)
 cases slow
 all_goals first | refine ⟨fun _ => ?_, fun e => absurd e (by decide)⟩ | refine ⟨fun e => absurd e (by decide), fun _ => ?_⟩
 all_goals
   refine mstI ph (mstI rfl ⟨rfl, ⟨x0Y cs ct cf i a b key _, ⟨Nat.zero_le _, rfl⟩, ?_⟩, fun _ x hx => ?_⟩)
   · repeat' (first | apply And.intro | intro _)
     all_goals first | rfl | trivial
   · obtain ⟨ru, ri, rlt, req⟩ := wf_run hr hb h0 hv' hx
     have ty0 := (ty_ok (slow := false) hr hb h0 hv').1
     have ty1 := (ty_ok (slow := true) hr hb h0 hv').1
     rw [lim]
     refine ⟨fun hA => ⟨fun hB => ?_, fun hB => ?_⟩, fun hA => ?_⟩
     · have F := wf_fin hr hb h0 hv' hx (req hB)
       obtain ⟨eBw, roomw, hw3, _, eFw, eSw, _, _⟩ := slot_room hr (slot := wantC cs ct cf i a b key) (by have := F.w1; omega) F.w1.2
       have w1 := F.w1
       have eVw := verN (cs := cs) eBw ⟨by omega, by omega⟩
       have pw : yAnd (rightC cs ct cf cl cp) (yAnd (yLe 0 (wantC cs ct cf i a b key)) (yLe (wantC cs ct cf i a b key) cs)) = true := by simp only [vS, forall_const, hr]; omega
       have iw : yIn (verC cs ct cf (wantC cs ct cf i a b key)) (sizeN cs ct cf) = true := by rw [eVw]; simp only [vS, forall_const]; omega
       have iw' : yNlt (yNadd 0 (yNat (verC cs ct cf (wantC cs ct cf i a b key)))) (sizeN cs ct cf) = true := by rw [eVw, yNatN]; simp only [vS, forall_const]; omega
       have ev : yEq (zV x.c) (x.w (yNat (verC cs ct cf (wantC cs ct cf i a b key)))) = true := yEq_t.mpr F.v
       have pn : yAnd (rightC cs ct cf cl cp) (yAnd (yAnd (yLe 0 (wantC cs ct cf i a b key)) (yLe (wantC cs ct cf i a b key) cs)) (yAnd (yNeq (sizeN cs ct cf) (sizeN cs ct cf)) (yAnd (yLe (0 : Int) (ndS ct cf (wantC cs ct cf i a b key) fun (i : Nat) => x.w i)) (yLt (ndS ct cf (wantC cs ct cf i a b key) fun (i : Nat) => x.w i) (18446744073709551616 : Int))))) = true := by
         have hu := F.u (nB ct cf (wantC cs ct cf i a b key) + 1)
         unfold ndS; simp only [vS, forall_const, hr]; omega
       refine mstI rfl (fork_t F.ok (fork_t (yEq_t.mpr F.dn) (mstI F.hU (fork_t (yEq_t.mpr F.sl) (mstI pw (mstI iw (mstI iw' (fork_t ?_ (mstI n1 (mstI yCol1 (mstI pn (fork_t (yEq_t.mpr F.n) rfl))))))))))))
       simp only [z0]
       exact ev
     · have lt := rlt hB
       have got := doR_u (k := wkK x.c) (a := wkA cs ct cf 0 x.c) (old := 0) (n := sizeN cs ct cf) ru
       have pi : yAnd (yEq (1 : Int) 1) (invX cs ct cf cl cp 0 x.c) = true := by rw [ri]; rfl
       have pg : yAnd (yAnd (yEq (1 : Int) 1) (yAnd (yLe (0 : Int) (doR (wkK x.c) (wkA cs ct cf 0 x.c) 0 (sizeN cs ct cf) fun (i : Nat) => x.w i)) (yLt (doR (wkK x.c) (wkA cs ct cf 0 x.c) 0 (sizeN cs ct cf) fun (i : Nat) => x.w i) (18446744073709551616 : Int)))) (invX cs ct cf cl cp 0 x.c) = true := by
         simp only [vS, forall_const, ri]; exact got
       refine mstI pi (mstI rfl (mstI (yNeq_t.mpr rfl) (mstI yCol1 (mstI s1 (mstI pg (mstI rfl ⟨rfl, stpY cs ct cf (sizeN cs ct cf) x, ⟨lt, ?_⟩, ?_, ?_⟩))))))
       · show stpY _ _ _ _ x = stpY _ _ _ _ (runY _ _ _ _ _ x.i)
         rw [← hx.2]
       · unfold msY
         show Nat.succ (_ - (x.i + 1)) ≤ _ - x.i
         omega
       · repeat' (first | apply And.intro | intro _)
         all_goals first
           | rfl
           | trivial
           | (show ((x.i + 1 : Nat) : Int) = yWrap .i64 ((x.i : Int) + 1); rw [wrap64 (by omega) (by omega)]; omega)
     · have hA : 3 + 16 * (cs + 1) ≤ (x.i : Int) := yLt_f.mp hA
       have hx1 := hx.1
       have F := wf_fin hr hb h0 hv' hx (by omega)
       obtain ⟨eBw, roomw, hw3, _, eFw, eSw, _, _⟩ := slot_room hr (slot := wantC cs ct cf i a b key) (by have := F.w1; omega) F.w1.2
       have w1 := F.w1
       have eVw := verN (cs := cs) eBw ⟨by omega, by omega⟩
       have pw : yAnd (rightC cs ct cf cl cp) (yAnd (yLe 0 (wantC cs ct cf i a b key)) (yLe (wantC cs ct cf i a b key) cs)) = true := by simp only [vS, forall_const, hr]; omega
       have iw : yIn (verC cs ct cf (wantC cs ct cf i a b key)) (sizeN cs ct cf) = true := by rw [eVw]; simp only [vS, forall_const]; omega
       have iw' : yNlt (yNadd 0 (yNat (verC cs ct cf (wantC cs ct cf i a b key)))) (sizeN cs ct cf) = true := by rw [eVw, yNatN]; simp only [vS, forall_const]; omega
       have ev : yEq (zV x.c) (x.w (yNat (verC cs ct cf (wantC cs ct cf i a b key)))) = true := yEq_t.mpr F.v
       have pn : yAnd (rightC cs ct cf cl cp) (yAnd (yAnd (yLe 0 (wantC cs ct cf i a b key)) (yLe (wantC cs ct cf i a b key) cs)) (yAnd (yNeq (sizeN cs ct cf) (sizeN cs ct cf)) (yAnd (yLe (0 : Int) (ndS ct cf (wantC cs ct cf i a b key) fun (i : Nat) => x.w i)) (yLt (ndS ct cf (wantC cs ct cf i a b key) fun (i : Nat) => x.w i) (18446744073709551616 : Int))))) = true := by
         have hu := F.u (nB ct cf (wantC cs ct cf i a b key) + 1)
         unfold ndS; simp only [vS, forall_const, hr]; omega
       refine mstI rfl (fork_t F.ok (fork_t (yEq_t.mpr F.dn) (mstI F.hU (fork_t (yEq_t.mpr F.sl) (mstI pw (mstI iw (mstI iw' (fork_t ?_ (mstI n1 (mstI yCol1 (mstI pn (fork_t (yEq_t.mpr F.n) rfl))))))))))))
       simp only [z0]
       exact ev
theorem goalWf_tt : (goalWf) = True := goalWf_eq.trans (eq_true goalWf_vc)
theorem goalWf_ok : goalWf := @ft' goalWf goalWf_tt
end Go.Proofs.YtinijejfhmcmdaaDoor.Ex
end
section
namespace Go.Proofs.YtinijejfhmcmdaaDoor.Ex
open Go Go.RowKit
def avDl : Dc → AV
 | .v a => a
 | .rows nil n cols => .lst false nil 1 n (colF cols)
theorem gwl_u64 {w : World} (gw : GW w) (gl : ∀ g c, GL g = some c → ∀ (j : Nat) (a : AV), c[j]? = some a → ∀ (n : Int), ¬ a.R noM (.int .u64 n)) {b j : Nat} {cs : Array Value} {e : TypeId} {fr : Nat × Nat} {n : Int} (hb : w.heap[b]? = some (.cells cs e fr)) (hj : cs[j]? = some (.int .u64 n)) : GL b = none := by
 cases hg : GL b with
 | none => rfl
 | some c =>
   obtain ⟨vs, e2, fr2, h1, h2⟩ := gw b c hg
   rw [hb, Option.some.injEq] at h1
   obtain ⟨rfl, -, -⟩ : cs = vs.toArray ∧ _ ∧ _ := by simpa [Obj.cells.injEq] using h1
   exfalso
   have aux : ∀ (c : List AV) (vs : List Value) (j : Nat) (v : Value), AV.RL noM c vs → vs[j]? = some v → ∃ a, c[j]? = some a ∧ a.R noM v := by
     intro c
     induction c with
     | nil => intro vs j v r hv; simp only [AV.RL] at r; subst r; simp at hv
     | cons a c ih =>
       intro vs j v r hv
       simp only [AV.RL] at r
       obtain ⟨u, us, r1, r2, rfl⟩ := r
       cases j with
       | zero => simp only [List.getElem?_cons_zero, Option.some.injEq] at hv; subst hv; exact ⟨a, rfl, r1⟩
       | succ j => simp only [List.getElem?_cons_succ] at hv ⊢; exact ih us j v r2 hv
   obtain ⟨a, q1, q2⟩ := aux c vs j _ h2 (by simpa using hj)
   exact gl b c hg j a q1 n q2
theorem DcR_lstl {w : World} (gw : GW w) (gl : ∀ g c, GL g = some c → ∀ (j : Nat) (a : AV), c[j]? = some a → ∀ (n : Int), ¬ a.R noM (.int .u64 n)) {nil : Bool} {n : Nat} {k : Nat → Int} {u : Value} (h : DcR w cU (.rows nil n [.int .u64 k]) u) :
   (AV.lst false nil 1 n (colF [.int .u64 k])).R (Mw w) u := by
 rcases h with ⟨rfl, rfl, rfl⟩ | ⟨rfl, p, c, rfl, hnc, h⟩
 · simp only [AV.R]; exact .inl ⟨trivial, trivial, trivial⟩
 · simp only [AV.R]
   by_cases h0 : n = 0
   · exact .inr (.inl ⟨trivial, h0, p, c, by rw [h0], fun e => by cases e⟩)
   · obtain ⟨b, off, rfl, cs, e, fr, hb, hel⟩ := h.resolve_left h0
     obtain ⟨v, hv, -, hvr⟩ := hel 0 (by omega) 0 (by simp)
     have hv2 : v = .int .u64 (k 0) := hvr
     subst hv2
     have hg := gwl_u64 gw gl hb hv
     refine .inr (.inr ⟨trivial, Nat.pos_of_ne_zero h0, b, off, c, cs, rfl, hnc, (fun e => by cases e), by simp only [Mw, hg, cellsW, hb], fun i hi j hj => ?_⟩)
     obtain ⟨v, q1, q2, q3⟩ := hel i hi j (by simpa using hj)
     exact ⟨v, by simpa using q1, q2, AV.R.mono (Le_noM _) _ _ q3⟩
def rowsUl : Dc → Prop
 | .v _ => True
 | .rows _ _ cols => ∃ k, cols = [.int .u64 k]
theorem dcs_lstl {w : World} (gw : GW w) (gl : ∀ g c, GL g = some c → ∀ (j : Nat) (a : AV), c[j]? = some a → ∀ (n : Int), ¬ a.R noM (.int .u64 n)) : ∀ {cs : List Cs} {ds : List Dc} {us : List Value}, DcRs w cs ds us → (∀ c ∈ cs, c = none ∨ c = cU) → (∀ d ∈ ds, rowsUl d) →
   AV.RL (Mw w) (ds.map avDl) us
 | [], _, _, h, _, _ => by obtain ⟨rfl, rfl⟩ := h; exact rfl
 | c :: cs, _, _, h, hc, hd => by
   obtain ⟨d, ds, u, us, rfl, rfl, h1, h2⟩ := h
   have r1 := dcs_lstl gw gl h2 (fun c h => hc c (List.mem_cons_of_mem _ h)) (fun d h => hd d (List.mem_cons_of_mem _ h))
   have hd0 := hd d (List.mem_cons_self ..)
   rcases hc c (List.mem_cons_self ..) with rfl | rfl
   · cases d with
     | v a => exact ⟨u, us, AV.R.mono (Le_noM _) _ _ h1, r1, rfl⟩
     | rows => exact h1.elim
   · cases d with
     | v a => exact h1.elim
     | rows nil n cols =>
       obtain ⟨k, rfl⟩ := hd0
       exact ⟨u, us, DcR_lstl gw gl h1, r1, rfl⟩
theorem dc_cell {w : World} {a : AV} {u : Value} (h : DcR w none (.v a) u) : a.R (Mw w) u := AV.R.mono (Le_noM _) _ _ h
theorem gll_u8 {g : Nat} {c : List AV} (hg : GL g = some c) {j : Nat} {a : AV} (ha : c[j]? = some a) : ∃ z, True ∧ a = .i .u8 z := by
 have h0 : g = 0 := by
   unfold GL at hg
   cases hb : Nat.beq g 0 with
   | true => exact Nat.eq_of_beq_eq_true hb
   | false => rw [hb] at hg; cases hg
 subst h0
 rw [Go.Proofs.YtinijejfhmcmdaaDoor.LaidD.gl0, Option.some.injEq] at hg
 subst hg
 obtain ⟨z, _, rfl⟩ := List.mem_map.1 (List.mem_of_getElem? ha)
 exact ⟨z, trivial, rfl⟩
theorem gl_not {g : Nat} {c : List AV} (h : GL g = some c) (j : Nat) (a : AV) (ha : c[j]? = some a) (n : Int) : ¬ a.R noM (.int .u64 n) := fun hr => by
 obtain ⟨z, _, rfl⟩ : ∃ z, True ∧ a = .i .u8 z := gll_u8 h ha
 simp only [AV.R] at hr
 cases hr
section
open Go.ChangeShapes
variable {H : Type} {enc : TypeId × Value → H} {P : Program} {w : World} {base : Nat} {spare : Nat → Bool} {held : Bool}
end
end Go.Proofs.YtinijejfhmcmdaaDoor.Ex
end
section
namespace Go.Proofs.YtinijejfhmcmdaaDoor.Ex
open Go Go.RowKit
theorem lWf_ok (hm : Tryd.prog.follows .mixedOrders = true) : SmAll Tryd.prog lWf :=
 ⟨smWrgT hm, smSz hm, awake20 hm, smNw hm, smDo hm, smValR hm, smLfT hm, smVerR hm, smLnW hm, smXn hm, smXd hm, smXw hm, smXt hm, smSl16 hm @goalSl16R_ok, smNd hm, trivial⟩
theorem lWfF_ok (m : Nat) (hm : Tryd.prog.follows .mixedOrders = true) : SmAll Tryd.prog (lWfF m) := ⟨smWrgK m hm, awake20 hm, trivial⟩
theorem DcR_lst2 {w : World} (gw : GW w) (gl : ∀ g c, GL g = some c → ∀ (j : Nat) (a : AV), c[j]? = some a → ∀ (n : Int), ¬ a.R noM (.int .u64 n)) {t : TypeId} {nil : Bool} {n : Nat} {x y : Nat → Int} {u : Value} (h : DcR w (some (t, [.int .i64, .int .u64])) (.rows nil n [.int .i64 x, .int .u64 y]) u) :
   (AV.lst false nil 2 n (colF [.int .i64 x, .int .u64 y])).R (Mw w) u := by
 rcases h with ⟨rfl, rfl, rfl⟩ | ⟨rfl, p, c, rfl, hnc, h⟩
 · simp only [AV.R]; exact .inl ⟨trivial, trivial, trivial⟩
 · simp only [AV.R]
   by_cases h0 : n = 0
   · exact .inr (.inl ⟨trivial, h0, p, c, by rw [h0], fun e => by cases e⟩)
   · obtain ⟨b, off, rfl, cs, e, fr, hb, hel⟩ := h.resolve_left h0
     obtain ⟨v, hv, -, hvr⟩ := hel 0 (by omega) 1 (by simp)
     have hv2 : v = .int .u64 (y 0) := hvr
     subst hv2
     have hg := gwl_u64 gw gl hb hv
     refine .inr (.inr ⟨trivial, Nat.pos_of_ne_zero h0, b, off, c, cs, rfl, hnc, (fun e => by cases e), by simp only [Mw, hg, cellsW, hb], fun i hi j hj => ?_⟩)
     obtain ⟨v, q1, q2, q3⟩ := hel i hi j (by simpa using hj)
     exact ⟨v, by simpa using q1, q2, AV.R.mono (Le_noM _) _ _ q3⟩
end Go.Proofs.YtinijejfhmcmdaaDoor.Ex
end
