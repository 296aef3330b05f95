/- The texts Mf, Mg, Mh, Mp, Mi, Mj, Mk: The words of a memory, and a leaf that is changed: the conditions of the contracts are true. The words of a memory, and a leaf that is changed: more conditions of the contracts. A leaf that is .. -/
import Derived.Test.YtinijejfhmcmdaaGreatDoorU5
set_option linter.all false
set_option maxRecDepth 100000
section
namespace Go.Proofs.YtinijejfhmcmdaaGreatDoor.Ex
open Go
def goalSzV : Prop := (∀ (s t f l p : Int), rightC s t f l p = true → (rightC s t f l p = true → sizeC s t f = yWrap IntKind.i64 (yAdd (yWrap IntKind.i64 (yAdd 3 (yWrap IntKind.i64 (yMul 3 t)))) (yWrap IntKind.i64 (yMul (yWrap IntKind.i64 (yAdd s 1)) (yWrap IntKind.i64 (yAdd 3 (yWrap IntKind.i64 (yMul 2 f)))))))) ∧ (rightC s t f l p = false → False))
theorem goalSz_eq : goalSz = goalSzV := by kernel_rfl
set_option maxHeartbeats 8000000 in
theorem goalSz_vc : goalSzV := by
 unfold goalSzV
 intro s t f l p hr
 have h := rightC_iff.1 hr
 have hp : 0 ≤ (s + 1) * (3 + 2 * f) ∧ (s + 1) * (3 + 2 * f) ≤ 131131 := prod_le' (A := 1001) (B := 131) (by omega) (by omega) (by omega) (by omega)
 simp only [vS, forall_const]
 refine ⟨fun _ => ?_, fun e => by rw [hr] at e; cases e⟩
 unfold sizeC
 simp (disch := omega) only [wrap64]
theorem goalSz_tt : (goalSz) = True := goalSz_eq.trans (eq_true goalSz_vc)
theorem goalSz_ok : goalSz := @ft' goalSz goalSz_tt
def goalN8V : Prop := (∀ (s t f l p slot : Int), yAnd (rightC s t f l p) (yAnd (yLe 0 slot) (yLe slot (yAdd s 1))) = true → nodeC t f slot = yWrap IntKind.i64 (yAdd (yWrap IntKind.i64 (yAdd 3 (yWrap IntKind.i64 (yMul 3 t)))) (yWrap IntKind.i64 (yMul slot (yWrap IntKind.i64 (yAdd 3 (yWrap IntKind.i64 (yMul 2 f))))))))
theorem goalN8_eq : goalN8 = goalN8V := by kernel_rfl
set_option maxHeartbeats 8000000 in
theorem goalN8_vc : goalN8V := by
 unfold goalN8V
 intro s t f l p slot hr
 simp only [yAnd_t, yLe_t, yLt_t, yAdd_e] at hr
 have h := rightC_iff.1 hr.1
 have hr2 := hr.2
 have hp : 0 ≤ slot * (3 + 2 * f) ∧ slot * (3 + 2 * f) ≤ 131131 := prod_le' (A := 1001) (B := 131) (by omega) (by omega) (by omega) (by omega)
 simp only [vS, forall_const]
 unfold nodeC
 simp (disch := omega) only [wrap64]
theorem goalN8_tt : (goalN8) = True := goalN8_eq.trans (eq_true goalN8_vc)
theorem goalN8_ok : goalN8 := @ft' goalN8 goalN8_tt
def goalLk8V : Prop := (∀ (s t f l p slot : Int), yAnd (rightC s t f l p) (yAnd (yLe 0 slot) (yLe slot s)) = true → lkC s t f slot = yWrap IntKind.i64 (yAdd (yWrap IntKind.i64 (yAdd (yWrap IntKind.i64 (yAdd 3 (yWrap IntKind.i64 (yMul 3 t)))) (yWrap IntKind.i64 (yMul slot (yWrap IntKind.i64 (yAdd 3 (yWrap IntKind.i64 (yMul 2 f)))))))) 2))
theorem goalLk8_eq : goalLk8 = goalLk8V := by kernel_rfl
set_option maxHeartbeats 8000000 in
theorem goalLk8_vc : goalLk8V := by
 unfold goalLk8V
 intro s t f l p slot hr
 simp only [yAnd_t, yLe_t, yLt_t] at hr
 have h := rightC_iff.1 hr.1
 have hp := lay_prod (slot := slot) hr.1
 have hr2 := hr.2
 simp only [vS, forall_const]
 have hq := hp (by omega) (by omega)
 unfold lkC nodeC
 rw [if_pos (by omega)]
 simp (disch := omega) only [wrap64]
theorem goalLk8_tt : (goalLk8) = True := goalLk8_eq.trans (eq_true goalLk8_vc)
theorem goalLk8_ok : goalLk8 := @ft' goalLk8 goalLk8_tt
def goalWdV : Prop := (∀ (l d : Bool) (c g : Int), yAnd (yAnd (yLe 0 c) (yLt c 18446744073709551616)) (yAnd (yLe 0 g) (yLt g 18446744073709551616)) = true → (yEq 16777216 (0 : Int) = true → False) ∧ (yEq 16777216 (0 : Int) = false → (yEq 274877906944 (0 : Int) = true → False) ∧ (yEq 274877906944 (0 : Int) = false → (d = true → (l = true → wordC l d c g = yWrap IntKind.u64 (yAdd (yWrap IntKind.u64 (yAdd (yWrap IntKind.u64 (yAdd (yWrap IntKind.u64 (yMul (yRem g 16777216) 1099511627776)) (yWrap IntKind.u64 (yMul (yRem c 274877906944) 4)))) 2)) 1)) ∧ (l = false → wordC l d c g = yWrap IntKind.u64 (yAdd (yWrap IntKind.u64 (yAdd (yWrap IntKind.u64 (yMul (yRem g 16777216) 1099511627776)) (yWrap IntKind.u64 (yMul (yRem c 274877906944) 4)))) 2))) ∧ (d = false → (l = true → wordC l d c g = yWrap IntKind.u64 (yAdd (yWrap IntKind.u64 (yAdd (yWrap IntKind.u64 (yMul (yRem g 16777216) 1099511627776)) (yWrap IntKind.u64 (yMul (yRem c 274877906944) 4)))) 1)) ∧ (l = false → wordC l d c g = yWrap IntKind.u64 (yAdd (yWrap IntKind.u64 (yMul (yRem g 16777216) 1099511627776)) (yWrap IntKind.u64 (yMul (yRem c 274877906944) 4))))))))
theorem goalWd_eq : goalWd = goalWdV := by kernel_rfl
set_option maxHeartbeats 8000000 in
theorem goalWd_vc : goalWdV := by
 unfold goalWdV
 intro l d c g h
 rw [yAnd_t] at h
 obtain ⟨n, rfl, hn⟩ := inU_nat (w := c) h.1
 obtain ⟨m, rfl, hm⟩ := inU_nat (w := g) h.2
 have a5 : yRem (n : Int) 274877906944 = ((n % 274877906944 : Nat) : Int) := rem_u (c := 274877906944)
 have a6 : yRem (m : Int) 16777216 = ((m % 16777216 : Nat) : Int) := rem_u (c := 16777216)
 simp only [a5, a6]
 have b1 : yWrap .u64 (yMul ((m % 16777216 : Nat) : Int) 1099511627776) = ((m % 16777216 * 1099511627776 : Nat) : Int) := yWrapN (n := m % 16777216 * 1099511627776) (by omega)
 have b2 : yWrap .u64 (yMul ((n % 274877906944 : Nat) : Int) 4) = ((n % 274877906944 * 4 : Nat) : Int) := yWrapN (n := n % 274877906944 * 4) (by omega)
 have b3 : yWrap .u64 (yAdd ((m % 16777216 * 1099511627776 : Nat) : Int) ((n % 274877906944 * 4 : Nat) : Int)) = ((m % 16777216 * 1099511627776 + n % 274877906944 * 4 : Nat) : Int) := yWrapN (n := m % 16777216 * 1099511627776 + n % 274877906944 * 4) (by omega)
 have b4 : yWrap .u64 (yAdd ((m % 16777216 * 1099511627776 + n % 274877906944 * 4 : Nat) : Int) 2) = ((m % 16777216 * 1099511627776 + n % 274877906944 * 4 + 2 : Nat) : Int) := yWrapN (n := m % 16777216 * 1099511627776 + n % 274877906944 * 4 + 2) (by omega)
 have b5 : yWrap .u64 (yAdd ((m % 16777216 * 1099511627776 + n % 274877906944 * 4 : Nat) : Int) 1) = ((m % 16777216 * 1099511627776 + n % 274877906944 * 4 + 1 : Nat) : Int) := yWrapN (n := m % 16777216 * 1099511627776 + n % 274877906944 * 4 + 1) (by omega)
 have b6 : yWrap .u64 (yAdd ((m % 16777216 * 1099511627776 + n % 274877906944 * 4 + 2 : Nat) : Int) 1) = ((m % 16777216 * 1099511627776 + n % 274877906944 * 4 + 2 + 1 : Nat) : Int) := yWrapN (n := m % 16777216 * 1099511627776 + n % 274877906944 * 4 + 2 + 1) (by omega)
 simp only [b1, b2, b3, b4, b5, b6]
 simp only [vS, forall_const]
 clear b1 b2 b3 b4 b5 b6 a5 a6
 unfold wordC
 cases l <;> cases d <;> (repeat' (first | apply And.intro | intro _)) <;> first | (exfalso; omega) | (simp at *; done) | (simp; done) | (simp; omega)
theorem goalWd_tt : (goalWd) = True := goalWd_eq.trans (eq_true goalWd_vc)
theorem goalWd_ok : goalWd := @ft' goalWd goalWd_tt
def goalDoV : Prop := (∀ (mn : Bool) (n : Nat) (w : Nat → Int) (k a o v : Int), yNle n (nat_lit 1000000) = true → (yLt a (0 : Int) = true → doR k a o n w = (0 : Int) ∧ n = n ∧ (∀ (i : Nat), Nat.succ i ≤ n → doW k a o v n w i = w i ∧ True) ∧ true = true) ∧ (yLt a (0 : Int) = false → (yLe (yInt n) a = true → doR k a o n w = (0 : Int) ∧ n = n ∧ (∀ (i : Nat), Nat.succ i ≤ n → doW k a o v n w i = w i ∧ True) ∧ true = true) ∧ (yLe (yInt n) a = false → (yLt k (1 : Int) = true → doR k a o n w = (0 : Int) ∧ n = n ∧ (∀ (i : Nat), Nat.succ i ≤ n → doW k a o v n w i = w i ∧ True) ∧ true = true) ∧ (yLt k (1 : Int) = false → (yLt 3 k = true → doR k a o n w = (0 : Int) ∧ n = n ∧ (∀ (i : Nat), Nat.succ i ≤ n → doW k a o v n w i = w i ∧ True) ∧ true = true) ∧ (yLt 3 k = false → mst (yIn a n) (mst (yNlt (yNadd 0 (yNat a)) n) ((yEq k (1 : Int) = true → doR k a o n w = w (yNadd 0 (yNat a)) ∧ n = n ∧ (∀ (i : Nat), Nat.succ i ≤ n → doW k a o v n w i = w i ∧ True) ∧ true = true) ∧ (yEq k (1 : Int) = false → (yEq k (2 : Int) = true → mst (yIn a n) (mst (yNlt (yNadd 0 (yNat a)) n) (doR k a o n w = (0 : Int) ∧ n = n ∧ (∀ (i : Nat), Nat.succ i ≤ n → doW k a o v n w i = ySel (yNeq i (yNadd 0 (yNat a))) v (w i) ∧ True) ∧ true = true))) ∧ (yEq k (2 : Int) = false → (yNot (yEq (w (yNadd 0 (yNat a))) o) = true → doR k a o n w = (0 : Int) ∧ n = n ∧ (∀ (i : Nat), Nat.succ i ≤ n → doW k a o v n w i = w i ∧ True) ∧ true = true) ∧ (yNot (yEq (w (yNadd 0 (yNat a))) o) = false → mst (yIn a n) (mst (yNlt (yNadd 0 (yNat a)) n) (doR k a o n w = (1 : Int) ∧ n = n ∧ (∀ (i : Nat), Nat.succ i ≤ n → doW k a o v n w i = ySel (yNeq i (yNadd 0 (yNat a))) v (w i) ∧ True) ∧ true = true))))))))))))
theorem goalDo_eq : goalDo = goalDoV := by kernel_rfl
set_option maxHeartbeats 8000000 in
theorem goalDo_vc : goalDoV := by
 unfold goalDoV
 intro mn n w k a o v hn
 have e : ∀ i, updW w (yNat a) v i = ySel (yNeq i (yNat a)) v (w i) := fun i => by
   unfold updW ySel yNeq
   by_cases h : i = yNat a <;> simp [h]
 simp only [vS, forall_const] at hn ⊢
 repeat' (first | apply And.intro | intro _)
 all_goals first
   | (exfalso; omega)
   | (exfalso; unfold yNat at *; omega)
   | skip
 all_goals first
   | (unfold doW; rw [if_neg (by omega)]; done)
   | (unfold doR; rw [if_neg (by omega)]; done)
   | (unfold doR; rw [if_pos (by omega), if_pos (by omega)]; done)
   | (unfold doR; rw [if_pos (by omega), if_neg (by omega), if_neg (by omega)]; done)
   | (unfold doR; rw [if_pos (by omega), if_neg (by omega), if_pos ⟨by omega, by assumption⟩]; done)
   | (unfold doW; rw [if_neg (by rintro ⟨_, _, h | ⟨h, h2⟩⟩ <;> first | omega | exact absurd h2 (by assumption))]; done)
   | (unfold doW; rw [if_pos ⟨by omega, by omega, .inl (by omega)⟩]; exact e _)
   | (unfold doW; rw [if_pos ⟨by omega, by omega, .inr ⟨by omega, by assumption⟩⟩]; exact e _)
theorem goalDo_tt : (goalDo) = True := goalDo_eq.trans (eq_true goalDo_vc)
theorem goalDo_ok : goalDo := @ft' goalDo goalDo_tt
def goalCpV : Prop := (∀ (mn : Bool) (n : Nat) (w : Nat → Int), yNle n (nat_lit 1000000) = true → (yNle (yNadd 0 n) n = true → (yNeq n (nat_lit 0) = true → false = false ∧ n = nat_lit 0 ∧ true = true) ∧ (yNeq n (nat_lit 0) = false → (yGrow (yNadd 0 n) (nat_lit 8) = true → false = false ∧ n = yNadd 0 n ∧ yNadd 0 (yNadd 0 n) ≤ yNadd 0 n ∧ (∀ (i : Nat), Nat.succ i ≤ n → w i = w (yNadd 0 (yNadd 0 i)) ∧ True) ∧ true = true) ∧ (yGrow (yNadd 0 n) (nat_lit 8) = false → False))) ∧ (yNle (yNadd 0 n) n = false → False))
theorem goalCp_eq : goalCp = goalCpV := by kernel_rfl
set_option maxHeartbeats 8000000 in
theorem goalCp_vc : goalCpV := by
 unfold goalCpV
 intro mn n w hn
 simp only [vS, forall_const] at hn ⊢
 repeat' (first | apply And.intro | intro _)
 all_goals first
   | trivial
   | omega
   | assumption
   | (exfalso; omega)
theorem goalCp_tt : (goalCp) = True := goalCp_eq.trans (eq_true goalCp_vc)
theorem goalCp_ok : goalCp := @ft' goalCp goalCp_tt
def goalInV : Prop := (∀ (w : Int), yAnd (yLe 0 w) (yLt w 18446744073709551616) = true → (yEq 2 (0 : Int) = true → False) ∧ (yEq 2 (0 : Int) = false → innC w = yEq (yRem w 2) 1))
theorem goalIn_eq : goalIn = goalInV := by kernel_rfl
set_option maxHeartbeats 8000000 in
theorem goalIn_vc : goalInV := by
 unfold goalInV
 intro w h
 obtain ⟨n, rfl, hn⟩ := inU_nat h
 have a1 : yRem (n : Int) 2 = ((n % 2 : Nat) : Int) := rem_u (c := 2)
 simp only [a1, vS, forall_const]
 refine ⟨fun e => by omega, fun _ => ?_⟩
 unfold innC yEq
 rw [decide_eq_decide]; omega
theorem goalIn_tt : (goalIn) = True := goalIn_eq.trans (eq_true goalIn_vc)
theorem goalIn_ok : goalIn := @ft' goalIn goalIn_tt
def goalEnV : Prop := (∀ (w f : Int), yAnd (yLe 0 w) (yLt w 18446744073709551616) = true → (yEq 2 (0 : Int) = true → False) ∧ (yEq 2 (0 : Int) = false → (yEq 256 (0 : Int) = true → False) ∧ (yEq 256 (0 : Int) = false → (yLt f (0 : Int) = true → entC w f = (0 : Int)) ∧ (yLt f (0 : Int) = false → (yLt f (yWrap IntKind.i64 (yRem (yQuo IntKind.u64 w 2) 256)) = true → entC w f = f) ∧ (yLt f (yWrap IntKind.i64 (yRem (yQuo IntKind.u64 w 2) 256)) = false → entC w f = yWrap IntKind.i64 (yRem (yQuo IntKind.u64 w 2) 256))))))
theorem goalEn_eq : goalEn = goalEnV := by kernel_rfl
set_option maxHeartbeats 8000000 in
theorem goalEn_vc : goalEnV := by
 unfold goalEnV
 intro w f h
 obtain ⟨n, rfl, hn⟩ := inU_nat h
 have a1 : yQuo .u64 (n : Int) 2 = ((n / 2 : Nat) : Int) := quo_u (c := 2) hn
 have a2 : yRem ((n / 2 : Nat) : Int) 256 = ((n / 2 % 256 : Nat) : Int) := rem_u (c := 256)
 simp only [a1, a2]
 rw [wrap64 (n := ((n / 2 % 256 : Nat) : Int)) (by omega) (by omega)]
 simp only [vS, forall_const]
 unfold entC
 repeat' (first | apply And.intro | intro _)
 all_goals first
   | (exfalso; omega)
   | (rw [if_pos (by omega)]; done)
   | (rw [if_neg (by omega), if_pos (by omega)]; done)
   | (rw [if_neg (by omega), if_neg (by omega)]; omega)
theorem goalEn_tt : (goalEn) = True := goalEn_eq.trans (eq_true goalEn_vc)
theorem goalEn_ok : goalEn := @ft' goalEn goalEn_tt
theorem eqW_t {n : Nat} {a : Nat → Int} {m : Nat} {b : Nat → Int} : eqW n a m b = true ↔ (n = m ∧ ∀ j, j < n → a j = b j) := decide_eq_true_iff
theorem eqW_f {n : Nat} {a : Nat → Int} {m : Nat} {b : Nat → Int} : eqW n a m b = false ↔ ¬ (n = m ∧ ∀ j, j < n → a j = b j) := decide_eq_false_iff_not
def goalWsV : Prop := (∀ (an : Bool) (n : Nat) (a : Nat → Int) (bn : Bool) (m : Nat) (b : Nat → Int), yNle n (nat_lit 1000000) = true → (yNot (yEq (yInt n) (yInt m)) = true → eqW n a m b = false) ∧ (yNot (yEq (yInt n) (yInt m)) = false → true = true ∧ (∃ (i0 : Nat), prWs n a b i0 ∧ true = true ∧ yInt i0 = (0 : Int) ∧ true = true) ∧ ∀ (g : Nat → AV) (i : Nat), prWs n a b i → (yLt (yInt i) (yInt n) = true → mst (yIn (yInt i) n) (mst (yNlt (yNadd 0 (yNat (yInt i))) n) (mst (yIn (yInt i) m) (mst (yNlt (yNadd 0 (yNat (yInt i))) m) ((yNot (yEq (a (yNadd 0 (yNat (yInt i)))) (b (yNadd 0 (yNat (yInt i))))) = true → eqW n a m b = false) ∧ (yNot (yEq (a (yNadd 0 (yNat (yInt i)))) (b (yNadd 0 (yNat (yInt i))))) = false → true = true ∧ ∃ (i' : Nat), prWs n a b i' ∧ Nat.succ (msFit n i') ≤ msFit n i ∧ true = true ∧ yInt i' = yWrap IntKind.i64 (yAdd (yInt i) 1) ∧ true = true)))))) ∧ (yLt (yInt i) (yInt n) = false → eqW n a m b = true)))
theorem goalWs_eq : goalWs = goalWsV := by kernel_rfl
set_option maxHeartbeats 8000000 in
theorem goalWs_vc : goalWsV := by
 unfold goalWsV
 intro an n a bn m b hn
 simp only [vS, forall_const, eqW_t, eqW_f, msFit, prWs] at hn ⊢
 repeat' (first | apply And.intro | intro (_ : Nat → AV) i hi | intro _)
 all_goals first
   | (exfalso; omega)
   | exact fun h => by omega
   | exact ⟨0, ⟨by omega, fun j hj => absurd hj (by omega)⟩, rfl⟩
   | (rename_i h; exact absurd (h.2 i (by omega)) (by assumption))
   | (refine ⟨i + 1, ⟨by omega, fun j hj => ?_⟩, by omega, by rw [wrap64 (by omega) (by omega)]; omega⟩
      by_cases e : j = i
      · rw [e]; assumption
      · exact hi.2 j (by omega))
   | omega
   | exact hi.2 _ (by omega)
   | (trace_state; fail)
theorem goalWs_tt : (goalWs) = True := goalWs_eq.trans (eq_true goalWs_vc)
theorem goalWs_ok : goalWs := @ft' goalWs goalWs_tt
def goalNNV : Prop := (∀ (i kn : Bool) (nk : Nat) (k : Nat → Int) (vn : Bool) (nv : Nat) (v : Nat → Int) (l : Int) (i' kn' : Bool) (nk' : Nat) (k' : Nat → Int) (vn' : Bool) (nv' : Nat) (v' : Nat → Int) (l' : Int), yAnd (yNle nk 1000000) (yNle nv 1000000) = true → (yIff i i' = true → mst (yNle (yNadd 0 nk) nk) (mst (yCol (CK.int IntKind.u64) nk fun (i : Nat) => AV.y IntKind.u64 (k i)) (mst (yNle (yNadd 0 nk') nk') (mst (yCol (CK.int IntKind.u64) nk' fun (i : Nat) => AV.y IntKind.u64 (k' i)) (mst (yNle nk 1000000) (((eqW nk (fun (i : Nat) => k i) nk' fun (i : Nat) => k' i) = true → mst (yNle (yNadd 0 nv) nv) (mst (yCol (CK.int IntKind.u64) nv fun (i : Nat) => AV.y IntKind.u64 (v i)) (mst (yNle (yNadd 0 nv') nv') (mst (yCol (CK.int IntKind.u64) nv' fun (i : Nat) => AV.y IntKind.u64 (v' i)) (mst (yNle nv 1000000) (((eqW nv (fun (i : Nat) => v i) nv' fun (i : Nat) => v' i) = true → yAnd (yIff i i') (yAnd (eqW nk k nk' k') (yAnd (eqW nv v nv' v') (yEq l l'))) = yEq l l') ∧ ((eqW nv (fun (i : Nat) => v i) nv' fun (i : Nat) => v' i) = false → yAnd (yIff i i') (yAnd (eqW nk k nk' k') (yAnd (eqW nv v nv' v') (yEq l l'))) = false))))))) ∧ ((eqW nk (fun (i : Nat) => k i) nk' fun (i : Nat) => k' i) = false → yAnd (yIff i i') (yAnd (eqW nk k nk' k') (yAnd (eqW nv v nv' v') (yEq l l'))) = false))))))) ∧ (yIff i i' = false → yAnd (yIff i i') (yAnd (eqW nk k nk' k') (yAnd (eqW nv v nv' v') (yEq l l'))) = false))
theorem goalNN_eq : goalNN = goalNNV := by kernel_rfl
set_option maxHeartbeats 8000000 in
theorem goalNN_vc : goalNNV := by
 unfold goalNNV
 intro i kn nk k vn nv v l i' kn' nk' k' vn' nv' v' l' hn
 have c1 : ∀ (n : Nat) (f : Nat → Int), (yCol (CK.int IntKind.u64) n fun (i : Nat) => AV.y IntKind.u64 (f i)) = true := fun n f => yCol_int
 simp only [vS, forall_const, c1] at hn ⊢
 have f1 : ∀ x : Bool, yAnd false x = false := fun _ => rfl
 have f2 : ∀ x : Bool, yAnd true x = x := fun _ => rfl
 repeat' (first | apply And.intro | intro _)
 all_goals first
   | (exfalso; omega)
   | (simp_all [yAnd, yIff]; done)
theorem goalNN_tt : (goalNN) = True := goalNN_eq.trans (eq_true goalNN_vc)
theorem goalNN_ok : goalNN := @ft' goalNN goalNN_tt
def goalFdV : Prop := (∀ (i kn : Bool) (nk : Nat) (k : Nat → Int) (vn : Bool) (nv : Nat) (v : Nat → Int) (l x : Int), yNle nk (nat_lit 1000000) = true → true = true ∧ (∃ (i0 : Nat), prFd nk i0 ∧ true = true ∧ yInt (atC k x i0) = (0 : Int) ∧ isC k x i0 = false ∧ yInt i0 = (0 : Int) ∧ true = true) ∧ ∀ (g : Nat → AV) (i : Nat), prFd nk i → (yLt (yInt i) (yInt nk) = true → mst (yIn (yInt i) nk) (mst (yNlt (yNadd 0 (yNat (yInt i))) nk) ((yLt (k (yNadd 0 (yNat (yInt i)))) x = true → mst (yIn (yInt i) nk) (mst (yNlt (yNadd 0 (yNat (yInt i))) nk) ((yEq (k (yNadd 0 (yNat (yInt i)))) x = true → true = true ∧ ∃ (i' : Nat), prFd nk i' ∧ Nat.succ (msFit nk i') ≤ msFit nk i ∧ true = true ∧ yInt (atC k x i') = yWrap IntKind.i64 (yAdd (yInt (atC k x i)) 1) ∧ isC k x i' = true ∧ yInt i' = yWrap IntKind.i64 (yAdd (yInt i) 1) ∧ true = true) ∧ (yEq (k (yNadd 0 (yNat (yInt i)))) x = false → true = true ∧ ∃ (i' : Nat), prFd nk i' ∧ Nat.succ (msFit nk i') ≤ msFit nk i ∧ true = true ∧ yInt (atC k x i') = yWrap IntKind.i64 (yAdd (yInt (atC k x i)) 1) ∧ isC k x i' = isC k x i ∧ yInt i' = yWrap IntKind.i64 (yAdd (yInt i) 1) ∧ true = true)))) ∧ (yLt (k (yNadd 0 (yNat (yInt i)))) x = false → mst (yIn (yInt i) nk) (mst (yNlt (yNadd 0 (yNat (yInt i))) nk) ((yEq (k (yNadd 0 (yNat (yInt i)))) x = true → true = true ∧ ∃ (i' : Nat), prFd nk i' ∧ Nat.succ (msFit nk i') ≤ msFit nk i ∧ true = true ∧ yInt (atC k x i') = yInt (atC k x i) ∧ isC k x i' = true ∧ yInt i' = yWrap IntKind.i64 (yAdd (yInt i) 1) ∧ true = true) ∧ (yEq (k (yNadd 0 (yNat (yInt i)))) x = false → true = true ∧ ∃ (i' : Nat), prFd nk i' ∧ Nat.succ (msFit nk i') ≤ msFit nk i ∧ true = true ∧ yInt (atC k x i') = yInt (atC k x i) ∧ isC k x i' = isC k x i ∧ yInt i' = yWrap IntKind.i64 (yAdd (yInt i) 1) ∧ true = true))))))) ∧ (yLt (yInt i) (yInt nk) = false → (isC k x i = true → yInt (atC k x nk) = yInt (atC k x i) ∧ isC k x nk = true ∧ true = true) ∧ (isC k x i = false → yInt (atC k x nk) = yInt (atC k x i) ∧ isC k x nk = false ∧ true = true)))
theorem goalFd_eq : goalFd = goalFdV := by kernel_rfl
set_option maxHeartbeats 8000000 in
theorem goalFd_vc : goalFdV := by
 unfold goalFdV
 intro i kn nk k vn nv v l x hn
 simp only [vS, forall_const, msFit, prFd] at hn ⊢
 have hle := fun i => atC_le (k := k) (x := x) i
 repeat' (first | apply And.intro | intro (_ : Nat → AV) i hi | intro _)
 all_goals first
   | (exfalso; omega)
   | exact ⟨0, by omega, rfl, rfl, rfl⟩
   | (have e : yNat (i : Int) = i := by unfold yNat; omega
      have hl := hle i
      refine ⟨i + 1, by omega, by omega, ?_, ?_, by rw [wrap64 (by omega) (by omega)]; omega⟩
      · show ((atC k x i + if k i < x then 1 else 0 : Nat) : Int) = _
        first
          | (rw [if_pos (by assumption), wrap64 (by omega) (by omega)]; omega)
          | (rw [if_neg (by omega)]; omega)
      · show (isC k x i || decide (k i = x)) = _
        first
          | (simp [*]; done)
          | (rw [decide_eq_false (by assumption), Bool.or_false]; done))
   | (have e : i = nk := by omega
      subst e
      first | rfl | assumption)
   | (trace_state; fail)
theorem goalFd_tt : (goalFd) = True := goalFd_eq.trans (eq_true goalFd_vc)
theorem goalFd_ok : goalFd := @ft' goalFd goalFd_tt
end Go.Proofs.YtinijejfhmcmdaaGreatDoor.Ex
end
section
namespace Go.Proofs.YtinijejfhmcmdaaGreatDoor.Ex
open Go
section
variable {cs ct cf s : Int} {B F : Nat}
theorem verN (hB : (B : Int) = nodeC ct cf s) (hs : 0 ≤ s ∧ s ≤ cs) : verC cs ct cf s = B := by unfold verC; rw [if_pos hs]; omega
theorem shapeN (hB : (B : Int) = nodeC ct cf s) (hs : 0 ≤ s ∧ s ≤ cs) : shapeC cs ct cf s = (B + 1 : Nat) := by unfold shapeC; rw [if_pos hs]; omega
theorem lkN (hB : (B : Int) = nodeC ct cf s) (hs : 0 ≤ s ∧ s ≤ cs) : lkC cs ct cf s = (B + 2 : Nat) := by unfold lkC; rw [if_pos hs]; omega
theorem keyN (hB : (B : Int) = nodeC ct cf s) (hs : 0 ≤ s ∧ s ≤ cs) (hF : (F : Int) = cf) {j : Nat} (hj : j < F) : keyC cs ct cf s j = (B + 3 + j : Nat) := by
 unfold keyC; rw [if_pos ⟨hs, by omega, by omega⟩]; omega
theorem valN (hB : (B : Int) = nodeC ct cf s) (hs : 0 ≤ s ∧ s ≤ cs) (hF : (F : Int) = cf) {j : Nat} (hj : j < F) : valC cs ct cf s j = (B + 3 + F + j : Nat) := by
 unfold valC; rw [if_pos ⟨hs, by omega, by omega⟩]; omega
theorem yNatN {n : Nat} : yNat (n : Int) = n := by unfold yNat; omega
end
theorem slot_room {s t f l p slot : Int} (hr : rightC s t f l p = true) (h0 : 0 ≤ slot) (h1 : slot ≤ s) :
   ((nB t f slot : Nat) : Int) = nodeC t f slot ∧ nB t f slot + 3 + 2 * yNat f ≤ sizeN s t f ∧ 3 ≤ nB t f slot ∧ sizeN s t f ≤ 131400 ∧ ((yNat f : Nat) : Int) = f ∧ ((sizeN s t f : Nat) : Int) = sizeC s t f ∧ 4 ≤ yNat f ∧ yNat f ≤ 64 := by
 have h := rightC_iff.1 hr
 have hp := lay_prod (slot := slot) hr h0 h1
 have h2 : slot * (3 + 2 * f) ≤ s * (3 + 2 * f) := Int.mul_le_mul_of_nonneg_right h1 (by omega)
 have h3 : (s + 1) * (3 + 2 * f) = s * (3 + 2 * f) + (3 + 2 * f) := by rw [Int.add_mul, Int.one_mul]
 have h4 : 0 ≤ (s + 1) * (3 + 2 * f) ∧ (s + 1) * (3 + 2 * f) ≤ 131131 := prod_le' (A := 1001) (B := 131) (by omega) (by omega) (by omega) (by omega)
 have eB : (nB t f slot : Int) = nodeC t f slot := by
   have : 0 ≤ nodeC t f slot := by unfold nodeC; omega
   unfold nB yNat; omega
 have eS : (sizeN s t f : Int) = sizeC s t f := by
   have : 0 ≤ sizeC s t f := by unfold sizeC; omega
   unfold sizeN yNat; omega
 have eF : ((yNat f : Nat) : Int) = f := by unfold yNat; omega
 have eN : nodeC t f slot = 3 + 3 * t + slot * (3 + 2 * f) := rfl
 have eC : sizeC s t f = 3 + 3 * t + (s + 1) * (3 + 2 * f) := rfl
 refine ⟨eB, by omega, by omega, by omega, eF, eS, by omega, by omega⟩
theorem span_0 {w : Nat → Int} {K : Nat} {k : Nat → Int} {a : Nat} : spanW w K 0 k a = w a := by unfold spanW; rw [if_neg (by omega)]
theorem span_s {w : Nat → Int} {K i : Nat} {k : Nat → Int} {a : Nat} : spanW w K (i + 1) k a = ySel (yNeq a (K + i)) (k i) (spanW w K i k a) := by
 unfold spanW ySel yNeq
 by_cases h : a = K + i
 · rw [if_pos (by omega)]; simp only [decide_eq_true h, if_true]; congr 1; omega
 · simp only [decide_eq_false h]
   by_cases h2 : K ≤ a ∧ a < K + i
   · rw [if_pos (by omega), if_pos h2]; rfl
   · rw [if_neg (by omega), if_neg h2]; rfl
theorem updSel {w : Nat → Int} {a i : Nat} {v : Int} : updW w a v i = ySel (yNeq i a) v (w i) := by
 unfold updW ySel yNeq
 by_cases h : i = a <;> simp [h]
def goalPtV : Prop := (∀ (s t f l p slot : Int) (mn : Bool) (n : Nat) (w : Nat → Int) (i kn : Bool) (nk : Nat) (k : Nat → Int) (vn : Bool) (nv : Nat) (v : Nat → Int) (link : Int), yAnd (rightC s t f l p) (yAnd (yAnd (yLe 0 slot) (yLe slot s)) (yAnd (yNeq n (sizeN s t f)) (yAnd (yLe (yInt nk) f) (yLe (yInt nv) f)))) = true → true = true ∧ (∃ (i0 : Nat), prFd nk i0 ∧ true = true ∧ yInt i0 = (0 : Int) ∧ n = n ∧ (∀ (i : Nat), Nat.succ i ≤ n → spanW w (yNadd (nB t f slot) 3) i0 k i = w i ∧ True) ∧ true = true) ∧ ∀ (g : Nat → AV) (i_1 : Nat), prFd nk i_1 → (yLt (yInt i_1) (yInt nk) = true → mst (yAnd (yAnd (rightC s t f l p) (yAnd (yLe 0 slot) (yLe slot s))) (yAnd (yLe 0 (yInt i_1)) (yLt (yInt i_1) f))) (mst (yIn (yInt i_1) nk) (mst (yIn (keyC s t f slot (yInt i_1)) n) (mst (yNlt (yNadd 0 (yNat (keyC s t f slot (yInt i_1)))) n) (true = true ∧ ∃ (i' : Nat), prFd nk i' ∧ Nat.succ (msFit nk i') ≤ msFit nk i_1 ∧ true = true ∧ yInt i' = yWrap IntKind.i64 (yAdd (yInt i_1) 1) ∧ n = n ∧ (∀ (i : Nat), Nat.succ i ≤ n → spanW w (yNadd (nB t f slot) 3) i' k i = ySel (yNeq i (yNadd 0 (yNat (keyC s t f slot (yInt i_1))))) (k (yNat (yInt i_1))) (spanW w (yNadd (nB t f slot) 3) i_1 k i) ∧ True) ∧ true = true))))) ∧ (yLt (yInt i_1) (yInt nk) = false → true = true ∧ (∃ (i0 : Nat), prFd nv i0 ∧ true = true ∧ yInt i0 = (0 : Int) ∧ n = n ∧ (∀ (i : Nat), Nat.succ i ≤ n → spanW (spanW w (yNadd (nB t f slot) 3) nk k) (yNadd (yNadd (nB t f slot) 3) (yNat f)) i0 v i = spanW w (yNadd (nB t f slot) 3) i_1 k i ∧ True) ∧ true = true) ∧ ∀ (g : Nat → AV) (i_2 : Nat), prFd nv i_2 → (yLt (yInt i_2) (yInt nv) = true → mst (yAnd (yAnd (rightC s t f l p) (yAnd (yLe 0 slot) (yLe slot s))) (yAnd (yLe 0 (yInt i_2)) (yLt (yInt i_2) f))) (mst (yIn (yInt i_2) nv) (mst (yIn (valC s t f slot (yInt i_2)) n) (mst (yNlt (yNadd 0 (yNat (valC s t f slot (yInt i_2)))) n) (true = true ∧ ∃ (i' : Nat), prFd nv i' ∧ Nat.succ (msFit nv i') ≤ msFit nv i_2 ∧ true = true ∧ yInt i' = yWrap IntKind.i64 (yAdd (yInt i_2) 1) ∧ n = n ∧ (∀ (i : Nat), Nat.succ i ≤ n → spanW (spanW w (yNadd (nB t f slot) 3) nk k) (yNadd (yNadd (nB t f slot) 3) (yNat f)) i' v i = ySel (yNeq i (yNadd 0 (yNat (valC s t f slot (yInt i_2))))) (v (yNat (yInt i_2))) (spanW (spanW w (yNadd (nB t f slot) 3) nk k) (yNadd (yNadd (nB t f slot) 3) (yNat f)) i_2 v i) ∧ True) ∧ true = true))))) ∧ (yLt (yInt i_2) (yInt nv) = false → mst (yAnd (rightC s t f l p) (yAnd (yLe 0 slot) (yLe slot s))) (mst (yIn (lkC s t f slot) n) (mst (yNlt (yNadd 0 (yNat (lkC s t f slot))) n) (mst (yAnd (rightC s t f l p) (yAnd (yLe 0 slot) (yLe slot s))) (mst (true) (mst (yIn (shapeC s t f slot) n) (mst (yNlt (yNadd 0 (yNat (shapeC s t f slot))) n) (n = n ∧ (∀ (i_3 : Nat), Nat.succ i_3 ≤ n → putW t f slot i nk k nv v link w i_3 = ySel (yNeq i_3 (yNadd 0 (yNat (shapeC s t f slot)))) (packC i (yInt nv)) (ySel (yNeq i_3 (yNadd 0 (yNat (lkC s t f slot)))) link (spanW (spanW w (yNadd (nB t f slot) 3) nk k) (yNadd (yNadd (nB t f slot) 3) (yNat f)) i_2 v i_3)) ∧ True) ∧ true = true))))))))))
theorem goalPt_eq : goalPt = goalPtV := by kernel_rfl
set_option maxHeartbeats 8000000 in
theorem goalPt_vc : goalPtV := by
 unfold goalPtV
 intro s t f l p slot mn n w i kn nk k vn nv v link hpre
 simp only [vS, forall_const, prFd, msFit] at hpre
 obtain ⟨hr, ⟨h0, h1⟩, rfl, hk, hv⟩ := hpre
 simp only [vS, forall_const, prFd, msFit, hr, false_or]
 obtain ⟨eB, room, h3, hbig, eF, eS, f4, f64⟩ := slot_room hr h0 h1
 have hs : 0 ≤ slot ∧ slot ≤ s := ⟨h0, h1⟩
 have ek : ∀ j : Nat, j < nk → keyC s t f slot j = (nB t f slot + 3 + j : Nat) := fun j hj => keyN eB hs eF (by omega)
 have ev : ∀ j : Nat, j < nv → valC s t f slot j = (nB t f slot + 3 + yNat f + j : Nat) := fun j hj => valN eB hs eF (by omega)
 have el := lkN eB hs
 have es := shapeN eB hs
 clear eS
 repeat' (first | apply And.intro | intro (_ : Nat → AV) i hi | intro _)
 all_goals first
   | trivial
   | assumption
   | omega
   | (exfalso; omega)
   | (have e1 := ek i (by omega); exfalso; unfold yNat at *; omega)
   | (have e1 := ev i (by omega); exfalso; unfold yNat at *; omega)
   | (exfalso; unfold yNat at *; omega)
   | (have e1 := ek i (by omega)
      refine ⟨i + 1, by omega, by omega, by rw [wrap64 (by omega) (by omega)]; omega, fun a _ => ?_⟩
      rw [e1, yNatN]; exact span_s)
   | (have e1 := ev i (by omega)
      refine ⟨i + 1, by omega, by omega, by rw [wrap64 (by omega) (by omega)]; omega, fun a _ => ?_⟩
      rw [e1, yNatN]; exact span_s)
   | (have e : i = nk := by omega
      subst e
      refine ⟨0, by omega, rfl, fun a _ => ?_⟩; exact span_0)
   | (have e : i = nv := by omega
      subst e
      rw [el, es, yNatN, yNatN, ← updSel, ← updSel]; rfl)
   | (refine ⟨0, by omega, rfl, fun a _ => ?_⟩; exact span_0)
   | (trace_state; fail)
theorem goalPt_tt : (goalPt) = True := goalPt_eq.trans (eq_true goalPt_vc)
theorem goalPt_ok : goalPt := @ft' goalPt goalPt_tt
theorem ver_in {s t f l p slot : Int} (hr : rightC s t f l p = true) (h0 : 0 ≤ slot) (h1 : slot ≤ s) : 0 ≤ verC s t f slot ∧ verC s t f slot < sizeC s t f := by
 obtain ⟨eB, room, h3, hbig, eF, eS, f4, f64⟩ := slot_room hr h0 h1
 rw [verN eB ⟨h0, h1⟩]; omega
theorem lk_in {s t f l p slot : Int} (hr : rightC s t f l p = true) (h0 : 0 ≤ slot) (h1 : slot ≤ s) : 0 ≤ lkC s t f slot ∧ lkC s t f slot < sizeC s t f := by
 obtain ⟨eB, room, h3, hbig, eF, eS, f4, f64⟩ := slot_room hr h0 h1
 rw [lkN eB ⟨h0, h1⟩]; omega
def goalNwV : Prop := (∀ (s t f l p : Int), rightC s t f l p = true → mst (rightC s t f l p) (mst (yLe 0 (sizeC s t f)) (mst (yEq (sizeC s t f) (sizeC s t f)) (mst (yGrow (yNat (sizeC s t f)) 8) ((yEq (yInt (yNat (sizeC s t f))) (0 : Int) = true → false = false ∧ nat_lit 0 = nat_lit 0 ∧ sizeN s t f = yNat (sizeC s t f) ∧ sizeN s t f = yNat (sizeC s t f) ∧ (∀ (i : Nat), Nat.succ i ≤ sizeN s t f → newW s t f i = (0 : Int) ∧ True) ∧ true = true) ∧ (yEq (yInt (yNat (sizeC s t f))) (0 : Int) = false → mst (yAnd (rightC s t f l p) (yAnd (yLe 0 0) (yLe 0 s))) (mst (yIn (shapeC s t f 0) (yNat (sizeC s t f))) (mst (yNlt (yNadd 0 (yNat (shapeC s t f 0))) (yNat (sizeC s t f))) (mst (yAnd (yAnd (rightC s t f l p) (yAnd (yLe 0 0) (yLe 0 s))) (yAnd (yLe 0 0) (yLt 0 f))) (mst (yIn (valC s t f 0 0) (yNat (sizeC s t f))) (mst (yNlt (yNadd 0 (yNat (valC s t f 0 0))) (yNat (sizeC s t f))) (mst (yAnd (rightC s t f l p) (yAnd (yLe 0 1) (yLe 1 s))) (mst (yAnd (yAnd (yLe 0 0) (yLt 0 18446744073709551616)) (yAnd (yLe 0 1) (yLt 1 18446744073709551616))) (mst (yIn (verC s t f 1) (yNat (sizeC s t f))) (mst (yNlt (yNadd 0 (yNat (verC s t f 1))) (yNat (sizeC s t f))) (true = true ∧ (∃ (i0 : Nat), prNw s i0 ∧ true = true ∧ yInt (yNadd 2 i0) = (2 : Int) ∧ sizeN s t f = yNat (sizeC s t f) ∧ (∀ (i : Nat), Nat.succ i ≤ sizeN s t f → newI s t f i0 i = ySel (yNeq i (yNadd 0 (yNat (verC s t f 1)))) (wordC false false 0 1) (ySel (yNeq i (yNadd 0 (yNat (valC s t f 0 0)))) 65537 (ySel (yNeq i (yNadd 0 (yNat (shapeC s t f 0)))) 3 0)) ∧ True) ∧ true = true) ∧ ∀ (g : Nat → AV) (i : Nat), prNw s i → (yLe (yInt (yNadd 2 i)) s = true → mst (yAnd (rightC s t f l p) (yAnd (yLe 0 (yInt (yNadd 2 i))) (yLe (yInt (yNadd 2 i)) s))) (mst (yIn (verC s t f (yInt (yNadd 2 i))) (yNat (sizeC s t f))) (mst (yNlt (yNadd 0 (yNat (verC s t f (yInt (yNadd 2 i))))) (sizeN s t f)) ((yLt (yInt (yNadd 2 i)) s = true → mst (yAnd (rightC s t f l p) (yAnd (yLe 0 (yInt (yNadd 2 i))) (yLe (yInt (yNadd 2 i)) s))) (mst (yIn (lkC s t f (yInt (yNadd 2 i))) (yNat (sizeC s t f))) (mst (yNlt (yNadd 0 (yNat (lkC s t f (yInt (yNadd 2 i))))) (sizeN s t f)) (true = true ∧ ∃ (i' : Nat), prNw s i' ∧ Nat.succ (msNw s i') ≤ msNw s i ∧ true = true ∧ yInt (yNadd 2 i') = yWrap IntKind.i64 (yAdd (yInt (yNadd 2 i)) 1) ∧ sizeN s t f = sizeN s t f ∧ (∀ (i_1 : Nat), Nat.succ i_1 ≤ sizeN s t f → newI s t f i' i_1 = ySel (yNeq i_1 (yNadd 0 (yNat (lkC s t f (yInt (yNadd 2 i)))))) (yWrap IntKind.u64 (yAdd (yWrap IntKind.u64 (yInt (yNadd 2 i))) 1)) (ySel (yNeq i_1 (yNadd 0 (yNat (verC s t f (yInt (yNadd 2 i)))))) 2 (newI s t f i i_1)) ∧ True) ∧ true = true)))) ∧ (yLt (yInt (yNadd 2 i)) s = false → true = true ∧ ∃ (i' : Nat), prNw s i' ∧ Nat.succ (msNw s i') ≤ msNw s i ∧ true = true ∧ yInt (yNadd 2 i') = yWrap IntKind.i64 (yAdd (yInt (yNadd 2 i)) 1) ∧ sizeN s t f = sizeN s t f ∧ (∀ (i_1 : Nat), Nat.succ i_1 ≤ sizeN s t f → newI s t f i' i_1 = ySel (yNeq i_1 (yNadd 0 (yNat (verC s t f (yInt (yNadd 2 i)))))) 2 (newI s t f i i_1) ∧ True) ∧ true = true))))) ∧ (yLe (yInt (yNadd 2 i)) s = false → (yLe 2 s = true → mst (yIn 2 (yNat (sizeC s t f))) (mst (yNlt (yNadd 0 2) (sizeN s t f)) (false = false ∧ nat_lit 0 = nat_lit 0 ∧ sizeN s t f = yNat (sizeC s t f) ∧ sizeN s t f = sizeN s t f ∧ (∀ (i_1 : Nat), Nat.succ i_1 ≤ sizeN s t f → newW s t f i_1 = ySel (yNeq i_1 (yNadd 0 2)) 2 (newI s t f i i_1) ∧ True) ∧ true = true))) ∧ (yLe 2 s = false → false = false ∧ nat_lit 0 = nat_lit 0 ∧ sizeN s t f = yNat (sizeC s t f) ∧ sizeN s t f = sizeN s t f ∧ (∀ (i_1 : Nat), Nat.succ i_1 ≤ sizeN s t f → newW s t f i_1 = newI s t f i i_1 ∧ True) ∧ true = true))))))))))))))))))
theorem goalNw_eq : goalNw = goalNwV := by kernel_rfl
set_option maxHeartbeats 8000000 in
theorem goalNw_vc : goalNwV := by
 unfold goalNwV
 intro s t f l p hr
 have h := rightC_iff.1 hr
 obtain ⟨eB, room, h3, hbig, eF, eS, f4, f64⟩ := slot_room hr (slot := 0) (by omega) (by omega)
 have z1 : 0 ≤ shapeC s t f 0 ∧ shapeC s t f 0 < sizeC s t f := by rw [shapeN eB ⟨by omega, by omega⟩]; omega
 have z2 : 0 ≤ valC s t f 0 0 ∧ valC s t f 0 0 < sizeC s t f := by
   have := valN eB ⟨by omega, by omega⟩ eF (j := 0) (cs := s) (by omega)
   have e0 : ((0 : Nat) : Int) = 0 := rfl
   rw [e0] at this; rw [this]; omega
 have z3 := ver_in hr (slot := 1) (by omega) (by omega)
 have hv : ∀ i : Nat, (i : Int) + 2 ≤ s → 0 ≤ verC s t f ((2 + i : Nat) : Int) ∧ verC s t f ((2 + i : Nat) : Int) < sizeC s t f := fun i hi => ver_in hr (by omega) (by omega)
 have hl : ∀ i : Nat, (i : Int) + 2 ≤ s → 0 ≤ lkC s t f ((2 + i : Nat) : Int) ∧ lkC s t f ((2 + i : Nat) : Int) < sizeC s t f := fun i hi => lk_in hr (by omega) (by omega)
 have eY : yNat (sizeC s t f) = sizeN s t f := rfl
 have h5 : 3 < sizeN s t f := by omega
 clear eB room h3
 simp only [vS, forall_const, prNw, msNw, hr, false_or, eY]
 repeat' (first | apply And.intro | intro (_ : Nat → AV) i hi | intro _)
 all_goals first
   | trivial
   | assumption
   | omega
   | (exfalso; omega)
   | (exfalso; unfold yNat at *; omega)
   | (have a1 := hv i (by omega); exfalso; unfold yNat at *; omega)
   | (have a1 := hl i (by omega); exfalso; unfold yNat at *; omega)
   | (refine ⟨0, by omega, rfl, fun a _ => ?_⟩
      show new0 s t f a = _
      unfold new0
      rw [updSel, updSel, updSel])
   | (refine ⟨i + 1, by omega, by unfold yNat; omega, by rw [wrap64 (by omega) (by omega)]; omega, fun a _ => ?_⟩
      have w1 : yWrap .u64 ((2 + i : Nat) : Int) = ((2 + i : Nat) : Int) := yWrapN (n := 2 + i) (by omega)
      have w2 : yWrap .u64 (((2 + i : Nat) : Int) + 1) = ((2 + i : Nat) : Int) + 1 := yWrapN (n := 2 + i + 1) (by omega)
      rw [newI]
      first
        | (rw [if_pos (by omega), updSel, updSel, w1, w2])
        | (rw [if_neg (by omega), updSel]))
   | (have e : i = yNat s - 1 := by unfold yNat; omega
      unfold newW
      first
        | (rw [if_pos (by omega), updSel, e]; done)
        | (rw [if_neg (by omega), e]))
   | (trace_state; fail)
theorem goalNw_tt : (goalNw) = True := goalNw_eq.trans (eq_true goalNw_vc)
theorem goalNw_ok : goalNw := @ft' goalNw goalNw_tt
theorem entC_in {w f : Int} (hw : 0 ≤ w) (hf : 0 ≤ f) : 0 ≤ entC w f ∧ entC w f ≤ f := by unfold entC; (repeat' split) <;> omega
theorem ySelAt {q n : Nat} {f : Nat → Int} {x : Int} (h : ¬ q < n → f q = x) : f q = ySel (yNlt q n) (f q) x := by
 by_cases hq : q < n
 · simp [ySel, yNlt, hq]
 · simp [ySel, yNlt, hq, h hq]
theorem nilStep' {a b : Nat} (h : a ≠ 0) : yNeq a 0 = yAnd (yNeq b 0) (yNeq 1 0) := by simp [yAnd, yNeq, h]
def goalNdV : Prop := (∀ (s t f l p slot : Int) (mn : Bool) (n : Nat) (w : Nat → Int), yAnd (rightC s t f l p) (yAnd (yAnd (yLe 0 slot) (yLe slot s)) (yAnd (yNeq n (sizeN s t f)) (yAnd (yLe 0 (ndS t f slot w)) (yLt (ndS t f slot w) 18446744073709551616)))) = true → (yEq (yInt n) (0 : Int) = true → ndI t f slot w = false ∧ yNeq (ndM (ndI t f slot w) (ndN t f slot w)) (nat_lit 0) = true ∧ ndM (ndI t f slot w) (ndN t f slot w) = nat_lit 0 ∧ yNeq (ndN t f slot w) (nat_lit 0) = true ∧ ndN t f slot w = nat_lit 0 ∧ ndL t f slot w = (0 : Int) ∧ true = true) ∧ (yEq (yInt n) (0 : Int) = false → (yLt slot (0 : Int) = true → ndI t f slot w = false ∧ yNeq (ndM (ndI t f slot w) (ndN t f slot w)) (nat_lit 0) = true ∧ ndM (ndI t f slot w) (ndN t f slot w) = nat_lit 0 ∧ yNeq (ndN t f slot w) (nat_lit 0) = true ∧ ndN t f slot w = nat_lit 0 ∧ ndL t f slot w = (0 : Int) ∧ true = true) ∧ (yLt slot (0 : Int) = false → (yLt s slot = true → ndI t f slot w = false ∧ yNeq (ndM (ndI t f slot w) (ndN t f slot w)) (nat_lit 0) = true ∧ ndM (ndI t f slot w) (ndN t f slot w) = nat_lit 0 ∧ yNeq (ndN t f slot w) (nat_lit 0) = true ∧ ndN t f slot w = nat_lit 0 ∧ ndL t f slot w = (0 : Int) ∧ true = true) ∧ (yLt s slot = false → mst (yAnd (rightC s t f l p) (yAnd (yLe 0 slot) (yLe slot s))) (mst (yIn (shapeC s t f slot) n) (mst (yNlt (yNadd 0 (yNat (shapeC s t f slot))) n) (mst (yAnd (yLe 0 (w (yNadd 0 (yNat (shapeC s t f slot))))) (yLt (w (yNadd 0 (yNat (shapeC s t f slot)))) 18446744073709551616)) (mst (yAnd (yLe 0 (w (yNadd 0 (yNat (shapeC s t f slot))))) (yLt (w (yNadd 0 (yNat (shapeC s t f slot)))) 18446744073709551616)) (mst (yAnd (rightC s t f l p) (yAnd (yLe 0 slot) (yLe slot s))) (mst (yIn (lkC s t f slot) n) (mst (yNlt (yNadd 0 (yNat (lkC s t f slot))) n) (true = true ∧ (∃ (i0 : Nat), prFd (ndN t f slot w) i0 ∧ true = true ∧ yInt i0 = (0 : Int) ∧ ndI t f slot w = innC (w (yNadd 0 (yNat (shapeC s t f slot)))) ∧ yNeq (ndM (ndI t f slot w) i0) (nat_lit 0) = true ∧ ndM (ndI t f slot w) i0 = nat_lit 0 ∧ yNeq i0 (nat_lit 0) = true ∧ i0 = nat_lit 0 ∧ ndL t f slot w = w (yNadd 0 (yNat (lkC s t f slot))) ∧ ndM (ndI t f slot w) i0 = nat_lit 0 ∧ i0 = nat_lit 0 ∧ true = true ∧ true = true ∧ true = true) ∧ ∀ (g : Nat → AV) (i : Nat), prFd (ndN t f slot w) i → (yLt (yInt i) (entC (w (yNadd 0 (yNat (shapeC s t f slot)))) f) = true → mst (yAnd (yAnd (rightC s t f l p) (yAnd (yLe 0 slot) (yLe slot s))) (yAnd (yLe 0 (yInt i)) (yLt (yInt i) f))) (mst (yIn (valC s t f slot (yInt i)) n) (mst (yNlt (yNadd 0 (yNat (valC s t f slot (yInt i)))) n) (mst (yNeq i i) (mst (yGrow (yNadd i 1) 8) ((yNot (ndI t f slot w) = true → mst (yAnd (yAnd (rightC s t f l p) (yAnd (yLe 0 slot) (yLe slot s))) (yAnd (yLe 0 (yInt (ndM (ndI t f slot w) i))) (yLt (yInt (ndM (ndI t f slot w) i)) f))) (mst (yIn (keyC s t f slot (yInt (ndM (ndI t f slot w) i))) n) (mst (yNlt (yNadd 0 (yNat (keyC s t f slot (yInt (ndM (ndI t f slot w) i))))) n) (mst (yNeq (ndM (ndI t f slot w) i) (ndM (ndI t f slot w) i)) (mst (yGrow (yNadd (ndM (ndI t f slot w) i) 1) 8) (true = true ∧ ∃ (i' : Nat), prFd (ndN t f slot w) i' ∧ Nat.succ (msFit (ndN t f slot w) i') ≤ msFit (ndN t f slot w) i ∧ true = true ∧ yInt i' = yWrap IntKind.i64 (yAdd (yInt i) 1) ∧ ndI t f slot w = ndI t f slot w ∧ yNeq (ndM (ndI t f slot w) i') (nat_lit 0) = yAnd (yNeq (ndM (ndI t f slot w) i) 0) (yNeq 1 0) ∧ nat_lit 0 = nat_lit 0 ∧ ndM (ndI t f slot w) i' = yNadd (ndM (ndI t f slot w) i) 1 ∧ yNeq i' (nat_lit 0) = yAnd (yNeq i 0) (yNeq 1 0) ∧ nat_lit 0 = nat_lit 0 ∧ i' = yNadd i 1 ∧ ndL t f slot w = ndL t f slot w ∧ ndM (ndI t f slot w) i' = yNadd (ndM (ndI t f slot w) i) 1 ∧ (∀ (i_1 : Nat), Nat.succ i_1 ≤ ndM (ndI t f slot w) i' → ndK t f slot w i_1 = ySel (yNlt i_1 (ndM (ndI t f slot w) i)) (ndK t f slot w i_1) (w (yNadd 0 (yNat (keyC s t f slot (yInt (ndM (ndI t f slot w) i)))))) ∧ True) ∧ i' = yNadd i 1 ∧ (∀ (i_1 : Nat), Nat.succ i_1 ≤ i' → ndVl t f slot w i_1 = ySel (yNlt i_1 i) (ndVl t f slot w i_1) (w (yNadd 0 (yNat (valC s t f slot (yInt i))))) ∧ True) ∧ true = true)))))) ∧ (yNot (ndI t f slot w) = false → (yLt 0 (yInt i) = true → mst (yAnd (yAnd (rightC s t f l p) (yAnd (yLe 0 slot) (yLe slot s))) (yAnd (yLe 0 (yInt (ndM (ndI t f slot w) i))) (yLt (yInt (ndM (ndI t f slot w) i)) f))) (mst (yIn (keyC s t f slot (yInt (ndM (ndI t f slot w) i))) n) (mst (yNlt (yNadd 0 (yNat (keyC s t f slot (yInt (ndM (ndI t f slot w) i))))) n) (mst (yNeq (ndM (ndI t f slot w) i) (ndM (ndI t f slot w) i)) (mst (yGrow (yNadd (ndM (ndI t f slot w) i) 1) 8) (true = true ∧ ∃ (i' : Nat), prFd (ndN t f slot w) i' ∧ Nat.succ (msFit (ndN t f slot w) i') ≤ msFit (ndN t f slot w) i ∧ true = true ∧ yInt i' = yWrap IntKind.i64 (yAdd (yInt i) 1) ∧ ndI t f slot w = ndI t f slot w ∧ yNeq (ndM (ndI t f slot w) i') (nat_lit 0) = yAnd (yNeq (ndM (ndI t f slot w) i) 0) (yNeq 1 0) ∧ nat_lit 0 = nat_lit 0 ∧ ndM (ndI t f slot w) i' = yNadd (ndM (ndI t f slot w) i) 1 ∧ yNeq i' (nat_lit 0) = yAnd (yNeq i 0) (yNeq 1 0) ∧ nat_lit 0 = nat_lit 0 ∧ i' = yNadd i 1 ∧ ndL t f slot w = ndL t f slot w ∧ ndM (ndI t f slot w) i' = yNadd (ndM (ndI t f slot w) i) 1 ∧ (∀ (i_1 : Nat), Nat.succ i_1 ≤ ndM (ndI t f slot w) i' → ndK t f slot w i_1 = ySel (yNlt i_1 (ndM (ndI t f slot w) i)) (ndK t f slot w i_1) (w (yNadd 0 (yNat (keyC s t f slot (yInt (ndM (ndI t f slot w) i)))))) ∧ True) ∧ i' = yNadd i 1 ∧ (∀ (i_1 : Nat), Nat.succ i_1 ≤ i' → ndVl t f slot w i_1 = ySel (yNlt i_1 i) (ndVl t f slot w i_1) (w (yNadd 0 (yNat (valC s t f slot (yInt i))))) ∧ True) ∧ true = true)))))) ∧ (yLt 0 (yInt i) = false → true = true ∧ ∃ (i' : Nat), prFd (ndN t f slot w) i' ∧ Nat.succ (msFit (ndN t f slot w) i') ≤ msFit (ndN t f slot w) i ∧ true = true ∧ yInt i' = yWrap IntKind.i64 (yAdd (yInt i) 1) ∧ ndI t f slot w = ndI t f slot w ∧ yNeq (ndM (ndI t f slot w) i') (nat_lit 0) = yNeq (ndM (ndI t f slot w) i) 0 ∧ nat_lit 0 = nat_lit 0 ∧ ndM (ndI t f slot w) i' = ndM (ndI t f slot w) i ∧ yNeq i' (nat_lit 0) = yAnd (yNeq i 0) (yNeq 1 0) ∧ nat_lit 0 = nat_lit 0 ∧ i' = yNadd i 1 ∧ ndL t f slot w = ndL t f slot w ∧ ndM (ndI t f slot w) i' = ndM (ndI t f slot w) i ∧ (∀ (i : Nat), Nat.succ i ≤ ndM (ndI t f slot w) i' → ndK t f slot w i = ndK t f slot w i ∧ True) ∧ i' = yNadd i 1 ∧ (∀ (i_1 : Nat), Nat.succ i_1 ≤ i' → ndVl t f slot w i_1 = ySel (yNlt i_1 i) (ndVl t f slot w i_1) (w (yNadd 0 (yNat (valC s t f slot (yInt i))))) ∧ True) ∧ true = true)))))))) ∧ (yLt (yInt i) (entC (w (yNadd 0 (yNat (shapeC s t f slot)))) f) = false → ndI t f slot w = ndI t f slot w ∧ yNeq (ndM (ndI t f slot w) (ndN t f slot w)) (nat_lit 0) = yNeq (ndM (ndI t f slot w) i) 0 ∧ ndM (ndI t f slot w) (ndN t f slot w) = ndM (ndI t f slot w) i ∧ yNadd 0 (ndM (ndI t f slot w) i) ≤ ndM (ndI t f slot w) i ∧ (∀ (i : Nat), Nat.succ i ≤ ndM (ndI t f slot w) (ndN t f slot w) → ndK t f slot w i = ndK t f slot w (yNadd 0 i) ∧ True) ∧ yNeq (ndN t f slot w) (nat_lit 0) = yNeq i 0 ∧ ndN t f slot w = i ∧ yNadd 0 i ≤ i ∧ (∀ (i : Nat), Nat.succ i ≤ ndN t f slot w → ndVl t f slot w i = ndVl t f slot w (yNadd 0 i) ∧ True) ∧ ndL t f slot w = ndL t f slot w ∧ true = true)))))))))))))
theorem goalNd_eq : goalNd = goalNdV := by kernel_rfl
set_option maxHeartbeats 8000000 in
theorem goalNd_vc : goalNdV := by
 unfold goalNdV
 intro s t f l p slot mn n w hpre
 simp only [vS, forall_const] at hpre
 obtain ⟨hr, ⟨h0, h1⟩, rfl, hu⟩ := hpre
 obtain ⟨eB, room, h3, hbig, eF, eS, f4, f64⟩ := slot_room hr h0 h1
 have hs : 0 ≤ slot ∧ slot ≤ s := ⟨h0, h1⟩
 have ek : ∀ j : Nat, j < yNat f → keyC s t f slot j = (nB t f slot + 3 + j : Nat) := fun j hj => keyN eB hs eF hj
 have ev : ∀ j : Nat, j < yNat f → valC s t f slot j = (nB t f slot + 3 + yNat f + j : Nat) := fun j hj => valN eB hs eF hj
 have el := lkN eB hs
 have es := shapeN eB hs
 obtain ⟨x0, x1⟩ := entC_in (w := ndS t f slot w) (f := f) hu.1 (by omega)
 have eN : ((ndN t f slot w : Nat) : Int) = entC (ndS t f slot w) f := by unfold ndN yNat; omega
 have g1 : w (nB t f slot + 1) = ndS t f slot w := rfl
 have g2 : w (nB t f slot + 2) = ndL t f slot w := rfl
 have g3 : innC (ndS t f slot w) = ndI t f slot w := rfl
 have n0 : sizeN s t f ≠ 0 := by omega
 clear eS
 have hK : ∀ j, ndK t f slot w j = w (nB t f slot + 3 + j) := fun _ => rfl
 have hV : ∀ j, ndVl t f slot w j = w (nB t f slot + 3 + yNat f + j) := fun _ => rfl
 simp only [vS, forall_const, prFd, msFit, hr, false_or, es, el, yNatN, g1, g2, g3]
 revert eN x0 x1
 generalize entC (ndS t f slot w) f = X
 generalize ndN t f slot w = N
 generalize ndI t f slot w = I
 generalize ndK t f slot w = KK at hK ⊢
 generalize ndVl t f slot w = VV at hV ⊢
 generalize ndL t f slot w = LL at g2 ⊢
 intro x0 x1 eN
 have key : ∀ i j : Nat, i < N → j ≤ i → 0 ≤ keyC s t f slot j ∧ keyC s t f slot j < (sizeN s t f : Int) ∧ w (yNat (keyC s t f slot j)) = KK j := fun i j h h' => by rw [ek j (by omega), yNatN, hK]; exact ⟨by omega, by omega, rfl⟩
 have val : ∀ i : Nat, i < N → 0 ≤ valC s t f slot i ∧ valC s t f slot i < (sizeN s t f : Int) ∧ w (yNat (valC s t f slot i)) = VV i := fun i h => by rw [ev i (by omega), yNatN, hV]; exact ⟨by omega, by omega, rfl⟩
 cases I with
 | true =>
   have m1 : ∀ i, ndM true i = i - 1 := fun _ => rfl
   simp only [m1]
   repeat' (first | apply And.intro | intro (_ : Nat → AV) i hi | intro _)
   all_goals first
     | trivial
     | assumption
     | omega
     | (exfalso; omega)
     | exact ⟨0, by omega, rfl, by omega, by omega, by omega, by omega, by omega, by omega⟩
     | (have a1 := key i (i - 1) (by omega) (by omega); have a2 := val i (by omega); exfalso; unfold yNat at *; omega)
     | (have a2 := val i (by omega)
        refine ⟨i + 1, by omega, by omega, by rw [wrap64 (by omega) (by omega)]; omega, ?_⟩
        repeat' (first | apply And.intro | intro q hq)
        all_goals first
          | rfl
          | omega
          | trivial
          | exact nilStep' (by omega)
          | (congr 1; omega)
          | (show yNeq _ _ = yAnd _ _; simp [yNeq, yAnd]; omega)
          | (refine ySelAt fun h => ?_
             have e : q = i := by omega
             rw [e]; exact a2.2.2.symm)
          | (refine ySelAt fun h => ?_
             have e : q = i - 1 := by omega
             rw [e]; exact (key i (i - 1) (by omega) (by omega)).2.2.symm))
     | (have e : N = i := by omega
        subst e
        repeat' (first | apply And.intro | intro q hq)
        all_goals first | rfl | omega | trivial)
     | (trace_state; fail)
 | false =>
   have m1 : ∀ i, ndM false i = i := fun _ => rfl
   simp only [m1]
   repeat' (first | apply And.intro | intro (_ : Nat → AV) i hi | intro _)
   all_goals first
     | trivial
     | assumption
     | omega
     | (exfalso; omega)
     | exact ⟨0, by omega, rfl, by omega, by omega, by omega, by omega, by omega, by omega⟩
     | (have a1 := key i (i) (by omega) (by omega); have a2 := val i (by omega); exfalso; unfold yNat at *; omega)
     | (have a2 := val i (by omega)
        refine ⟨i + 1, by omega, by omega, by rw [wrap64 (by omega) (by omega)]; omega, ?_⟩
        repeat' (first | apply And.intro | intro q hq)
        all_goals first
          | rfl
          | omega
          | trivial
          | exact nilStep' (by omega)
          | (congr 1; omega)
          | (show yNeq _ _ = yAnd _ _; simp [yNeq, yAnd]; omega)
          | (refine ySelAt fun h => ?_
             have e : q = i := by omega
             rw [e]; exact a2.2.2.symm)
          | (refine ySelAt fun h => ?_
             have e : q = i := by omega
             rw [e]; exact (key i (i) (by omega) (by omega)).2.2.symm))
     | (have e : N = i := by omega
        subst e
        repeat' (first | apply And.intro | intro q hq)
        all_goals first | rfl | omega | trivial)
     | (trace_state; fail)
theorem goalNd_tt : (goalNd) = True := goalNd_eq.trans (eq_true goalNd_vc)
theorem goalNd_ok : goalNd := @ft' goalNd goalNd_tt
/-! Where a key stands. -/
theorem isC_iff {k : Nat → Int} {x : Int} : ∀ n, isC k x n = true ↔ ∃ j, j < n ∧ k j = x
 | 0 => Iff.intro (fun h => by cases h) (fun ⟨_, h, _⟩ => absurd h (Nat.not_lt_zero _))
 | n + 1 => by
   unfold isC
   rw [Bool.or_eq_true, isC_iff n, decide_eq_true_iff]
   constructor
   · rintro (⟨j, h, e⟩ | e)
     · exact ⟨j, by omega, e⟩
     · exact ⟨n, by omega, e⟩
   · rintro ⟨j, h, e⟩
     by_cases hj : j = n
     · subst hj; exact .inr e
     · exact .inl ⟨j, by omega, e⟩
theorem rises_lt {k : Nat → Int} {n : Nat} (h : Rises k n) : ∀ {i j : Nat}, i < j → j < n → k i < k j := by
 intro i j hij
 induction j with
 | zero => omega
 | succ j ih =>
   intro hj
   have h1 := h j hj
   by_cases e : i = j
   · subst e; exact h1
   · have := ih (by omega) (by omega); omega
theorem rises_le {k : Nat → Int} {m n : Nat} (h : Rises k n) (hm : m ≤ n) : Rises k m := fun j hj => h j (by omega)
theorem atC_at {k : Nat → Int} {x : Int} : ∀ {n}, Rises k n → ∀ j, j < n → (k j < x ↔ j < atC k x n)
 | 0, _, _, hj => absurd hj (Nat.not_lt_zero _)
 | n + 1, h, j, hj => by
   have ih := atC_at (x := x) (rises_le h (Nat.le_succ n))
   have hle := atC_le (k := k) (x := x) n
   unfold atC
   by_cases hn : k n < x
   · rw [if_pos hn]
     have full : atC k x n = n := by
       rcases Nat.eq_zero_or_pos n with e | e
       · subst e; rfl
       · have h1 : k (n - 1) < x := by have := rises_lt h (i := n - 1) (j := n) (by omega) (by omega); omega
         have := (ih (n - 1) (by omega)).1 h1
         omega
     rw [full]
     constructor
     · intro _; exact hj
     · intro _
       by_cases e : j = n
       · subst e; exact hn
       · exact (ih j (by omega)).2 (by omega)
   · rw [if_neg hn, Nat.add_zero]
     by_cases e : j = n
     · subst e; exact ⟨fun h => absurd h hn, fun h => by omega⟩
     · exact ih j (by omega)
theorem isC_at {k : Nat → Int} {x : Int} {n : Nat} (h : Rises k n) (hi : isC k x n = true) : atC k x n < n ∧ k (atC k x n) = x := by
 obtain ⟨j, hj, e⟩ := (isC_iff n).1 hi
 have hle := atC_le (k := k) (x := x) n
 have h1 := (atC_at (x := x) h j hj)
 have : atC k x n = j := by
   rcases Nat.lt_trichotomy (atC k x n) j with c | c | c
   · have h2 := atC_at (x := x) h (atC k x n) (by omega)
     have := rises_lt h c hj
     have := h2.1 (by omega); omega
   · exact c
   · have := h1.2 c; omega
 rw [this]; exact ⟨hj, e⟩
theorem isC_not {k : Nat → Int} {x : Int} {n : Nat} (h : Rises k n) (hi : isC k x n = false) : (atC k x n = 0 ∨ k (atC k x n - 1) < x) ∧ (atC k x n = n ∨ x < k (atC k x n)) := by
 have hle := atC_le (k := k) (x := x) n
 refine ⟨?_, ?_⟩
 · by_cases e : atC k x n = 0
   · exact .inl e
   · exact .inr ((atC_at h (atC k x n - 1) (by omega)).2 (by omega))
 · by_cases e : atC k x n = n
   · exact .inl e
   · right
     have h1 := atC_at (x := x) h (atC k x n) (by omega)
     have h2 : k (atC k x n) ≠ x := fun e2 => by
       have := (isC_iff (k := k) (x := x) n).2 ⟨atC k x n, by omega, e2⟩
       rw [hi] at this; cases this
     have : ¬ k (atC k x n) < x := fun h3 => by have := h1.1 h3; omega
     omega
def goalCuV : Prop := (∀ (i kn : Bool) (nk : Nat) (k : Nat → Int) (vn : Bool) (nv : Nat) (w : Nat → Int) (l l2 : Int) (a c : Nat), yNle nv (nat_lit 80) = true → yNeq nk nv = true → yNle (yNadd a c) nv = true → true = true ∧ (∃ (i0 : Nat), prFd c i0 ∧ true = true ∧ yInt (yNadd a i0) = yInt a ∧ false = false ∧ yNeq i0 (nat_lit 0) = true ∧ i0 = nat_lit 0 ∧ yNeq i0 (nat_lit 0) = true ∧ i0 = nat_lit 0 ∧ l2 = l2 ∧ i0 = nat_lit 0 ∧ i0 = nat_lit 0 ∧ true = true ∧ true = true ∧ true = true) ∧ ∀ (g : Nat → AV) (i : Nat), prFd c i → (yLt (yInt (yNadd a i)) (yInt (yNadd a c)) = true → mst (yIn (yInt (yNadd a i)) nk) (mst (yNlt (yNadd 0 (yNat (yInt (yNadd a i)))) nk) (mst (yNeq i i) (mst (yGrow (yNadd i 1) 8) (mst (yIn (yInt (yNadd a i)) nv) (mst (yNlt (yNadd 0 (yNat (yInt (yNadd a i)))) nv) (mst (yNeq i i) (mst (yGrow (yNadd i 1) 8) (true = true ∧ ∃ (i' : Nat), prFd c i' ∧ Nat.succ (msFit c i') ≤ msFit c i ∧ true = true ∧ yInt (yNadd a i') = yWrap IntKind.i64 (yAdd (yInt (yNadd a i)) 1) ∧ false = false ∧ yNeq i' (nat_lit 0) = yAnd (yNeq i 0) (yNeq 1 0) ∧ nat_lit 0 = nat_lit 0 ∧ i' = yNadd i 1 ∧ yNeq i' (nat_lit 0) = yAnd (yNeq i 0) (yNeq 1 0) ∧ nat_lit 0 = nat_lit 0 ∧ i' = yNadd i 1 ∧ l2 = l2 ∧ i' = yNadd i 1 ∧ (∀ (i_1 : Nat), Nat.succ i_1 ≤ i' → shfM a k i_1 = ySel (yNlt i_1 i) (shfM a k i_1) (k (yNadd 0 (yNat (yInt (yNadd a i))))) ∧ True) ∧ i' = yNadd i 1 ∧ (∀ (i_1 : Nat), Nat.succ i_1 ≤ i' → shfM a w i_1 = ySel (yNlt i_1 i) (shfM a w i_1) (w (yNadd 0 (yNat (yInt (yNadd a i))))) ∧ True) ∧ true = true))))))))) ∧ (yLt (yInt (yNadd a i)) (yInt (yNadd a c)) = false → false = false ∧ yNeq c (nat_lit 0) = yNeq i 0 ∧ nat_lit 0 = nat_lit 0 ∧ c = i ∧ yNeq c (nat_lit 0) = yNeq i 0 ∧ nat_lit 0 = nat_lit 0 ∧ c = i ∧ l2 = l2 ∧ c = i ∧ (∀ (i : Nat), Nat.succ i ≤ c → shfM a w i = shfM a w i ∧ True) ∧ c = i ∧ (∀ (i : Nat), Nat.succ i ≤ c → shfM a k i = shfM a k i ∧ True) ∧ true = true))
theorem goalCu_eq : goalCu = goalCuV := by kernel_rfl
set_option maxHeartbeats 8000000 in
theorem goalCu_vc : goalCuV := by
 unfold goalCuV
 intro i kn nk k vn nv w l l2 a c hnv hnk hac
 simp only [yNle_t, yNeq_t, yNadd_e] at hnv hnk hac
 simp only [vS, forall_const, prFd, msFit, shfM]
 repeat' (first | apply And.intro | intro (_ : Nat → AV) d hd | intro _)
 all_goals (try (have e2 : yWrap .i64 (((a + d : Nat) : Int) + 1) = ((a + (d + 1) : Nat) : Int) := (by rw [wrap64 (by omega) (by omega)]; omega); simp only [e2] at *))
 all_goals first
   | trivial
   | omega
   | (exfalso; omega)
   | (refine ⟨0, by omega, ?_⟩; simp; done)
   | (refine ⟨d + 1, by omega, by omega, ?_⟩
      repeat' (first | apply And.intro | intro _)
      all_goals first
        | trivial
        | rfl
        | omega
        | (refine ySelAt (f := fun i => k (a + i)) fun h => ?_
           show k _ = k _; congr 1; omega)
        | (refine ySelAt (f := fun i => w (a + i)) fun h => ?_
           show w _ = w _; congr 1; omega)
        | exact nilStep' (by omega))
   | (have hc : c = d := by omega
      subst hc
      first | rfl | (simp; done) | omega)
   | (trace_state; fail)
theorem goalCu_tt : (goalCu) = True := goalCu_eq.trans (eq_true goalCu_vc)
theorem goalCu_ok : goalCu := @ft' goalCu goalCu_tt
def goalJnV : Prop := (∀ (i kn : Bool) (na : Nat) (ka : Nat → Int) (vn : Bool) (wa : Nat → Int) (l : Int) (i' kn' : Bool) (n : Nat) (kb : Nat → Int) (vn' : Bool) (wb : Nat → Int) (l' l2 : Int), yAnd (yNle na 80) (yNle n 80) = true → mst (yNle (yNadd 0 na) na) (mst (yCol (CK.int IntKind.u64) na fun (i : Nat) => AV.y IntKind.u64 (ka i)) (mst (yNle (yNadd 0 na) na) (mst (yCol (CK.int IntKind.u64) na fun (i : Nat) => AV.y IntKind.u64 (wa i)) (mst (yAnd (yNle na 80) (yAnd (yNeq na na) (yAnd (yAnd (yLe 0 0) (yLe 0 (yInt na))) (yLe (yInt na) (yInt na))))) (true = true ∧ (∃ (i0 : Nat), prFd n i0 ∧ true = true ∧ yInt i0 = (0 : Int) ∧ false = false ∧ yNeq (yNadd na i0) (nat_lit 0) = yNeq (yNsub (yNat (yInt na)) (yNat 0)) 0 ∧ nat_lit 0 = nat_lit 0 ∧ yNadd na i0 = yNsub (yNat (yInt na)) (yNat 0) ∧ yNeq (yNadd na i0) (nat_lit 0) = yNeq (yNsub (yNat (yInt na)) (yNat 0)) 0 ∧ nat_lit 0 = nat_lit 0 ∧ yNadd na i0 = yNsub (yNat (yInt na)) (yNat 0) ∧ l2 = l2 ∧ yNadd na i0 = yNsub (yNat (yInt na)) (yNat 0) ∧ (∀ (i : Nat), Nat.succ i ≤ yNadd na i0 → joinF na (shfM 0 ka) kb i = shfM (yNat 0) (fun (i : Nat) => ka i) i ∧ True) ∧ yNadd na i0 = yNsub (yNat (yInt na)) (yNat 0) ∧ (∀ (i : Nat), Nat.succ i ≤ yNadd na i0 → joinF na (shfM 0 wa) wb i = shfM (yNat 0) (fun (i : Nat) => wa i) i ∧ True) ∧ true = true) ∧ ∀ (g : Nat → AV) (i : Nat), prFd n i → (yLt (yInt i) (yInt n) = true → mst (yIn (yInt i) n) (mst (yNlt (yNadd 0 (yNat (yInt i))) n) (mst (yNeq (yNadd na i) (yNadd na i)) (mst (yGrow (yNadd (yNadd na i) 1) 8) (mst (yIn (yInt i) n) (mst (yNlt (yNadd 0 (yNat (yInt i))) n) (mst (yNeq (yNadd na i) (yNadd na i)) (mst (yGrow (yNadd (yNadd na i) 1) 8) (true = true ∧ ∃ (i' : Nat), prFd n i' ∧ Nat.succ (msFit n i') ≤ msFit n i ∧ true = true ∧ yInt i' = yWrap IntKind.i64 (yAdd (yInt i) 1) ∧ false = false ∧ yNeq (yNadd na i') (nat_lit 0) = yAnd (yNeq (yNadd na i) 0) (yNeq 1 0) ∧ nat_lit 0 = nat_lit 0 ∧ yNadd na i' = yNadd (yNadd na i) 1 ∧ yNeq (yNadd na i') (nat_lit 0) = yAnd (yNeq (yNadd na i) 0) (yNeq 1 0) ∧ nat_lit 0 = nat_lit 0 ∧ yNadd na i' = yNadd (yNadd na i) 1 ∧ l2 = l2 ∧ yNadd na i' = yNadd (yNadd na i) 1 ∧ (∀ (i_1 : Nat), Nat.succ i_1 ≤ yNadd na i' → joinF na (shfM 0 ka) kb i_1 = ySel (yNlt i_1 (yNadd na i)) (joinF na (shfM 0 ka) kb i_1) (kb (yNadd 0 (yNat (yInt i)))) ∧ True) ∧ yNadd na i' = yNadd (yNadd na i) 1 ∧ (∀ (i_1 : Nat), Nat.succ i_1 ≤ yNadd na i' → joinF na (shfM 0 wa) wb i_1 = ySel (yNlt i_1 (yNadd na i)) (joinF na (shfM 0 wa) wb i_1) (wb (yNadd 0 (yNat (yInt i)))) ∧ True) ∧ true = true))))))))) ∧ (yLt (yInt i) (yInt n) = false → false = false ∧ yNeq (yNadd na n) (nat_lit 0) = yNeq (yNadd na i) 0 ∧ nat_lit 0 = nat_lit 0 ∧ yNadd na n = yNadd na i ∧ yNeq (yNadd na n) (nat_lit 0) = yNeq (yNadd na i) 0 ∧ nat_lit 0 = nat_lit 0 ∧ yNadd na n = yNadd na i ∧ l2 = l2 ∧ yNadd na n = yNadd na i ∧ (∀ (i : Nat), Nat.succ i ≤ yNadd na n → joinF na wa wb i = joinF na (shfM 0 wa) wb i ∧ True) ∧ yNadd na n = yNadd na i ∧ (∀ (i : Nat), Nat.succ i ≤ yNadd na n → joinF na ka kb i = joinF na (shfM 0 ka) kb i ∧ True) ∧ true = true)))))))
theorem goalJn_eq : goalJn = goalJnV := by kernel_rfl
set_option maxHeartbeats 8000000 in
theorem goalJn_vc : goalJnV := by
 unfold goalJnV
 intro i kn na ka vn wa l i' kn' n kb vn' wb l' l2 h
 have c1 : ∀ (n : Nat) (f : Nat → Int), (yCol (CK.int IntKind.u64) n fun (i : Nat) => AV.y IntKind.u64 (f i)) = true := fun n f => yCol_int
 have y0 : yNat 0 = 0 := rfl
 have y1 : ∀ m : Nat, yNat (m : Int) = m := fun m => yNatN
 simp only [vS, forall_const] at h
 simp only [vS, forall_const, prFd, msFit, c1, y0, y1, Nat.sub_zero]
 repeat' (first | apply And.intro | intro (_ : Nat → AV) d hd | intro _)
 all_goals first
   | trivial
   | omega
   | (exfalso; omega)
   | (refine ⟨0, by omega, rfl, ?_⟩
      repeat' (first | apply And.intro | intro _)
      all_goals first
        | rfl
        | omega
        | trivial
        | (unfold joinF; rw [if_pos (by omega)]))
   | (refine ⟨d + 1, by omega, by omega, by rw [wrap64 (by omega) (by omega)]; omega, ?_⟩
      repeat' (first | apply And.intro | intro _)
      all_goals first
        | trivial
        | rfl
        | omega
        | exact nilStep' (by omega)
        | (refine ySelAt (f := joinF na (shfM 0 ka) kb) fun h => ?_
           unfold joinF; rw [if_neg (by omega)]; congr 1; omega)
        | (refine ySelAt (f := joinF na (shfM 0 wa) wb) fun h => ?_
           unfold joinF; rw [if_neg (by omega)]; congr 1; omega))
   | (have hc : n = d := by omega
      subst hc
      first | rfl | omega | (unfold joinF; split <;> first | rfl | (unfold shfM; congr 1; omega)))
   | (trace_state; fail)
theorem goalJn_tt : (goalJn) = True := goalJn_eq.trans (eq_true goalJn_vc)
theorem goalJn_ok : goalJn := @ft' goalJn goalJn_tt
end Go.Proofs.YtinijejfhmcmdaaGreatDoor.Ex
end
section
namespace Go.Proofs.YtinijejfhmcmdaaGreatDoor.Ex
open Go
def goalPuV : Prop := (∀ (i kn : Bool) (n : Nat) (k : Nat → Int) (vn : Bool) (w : Nat → Int) (l x y : Int) (ix : Nat) (is : Bool), yNle n (nat_lit 64) = true → ix = atC k x n → is = isC k x n → risesB k n = true → mst (yNle (yNadd 0 n) n) (mst (yCol (CK.int IntKind.u64) n fun (i : Nat) => AV.y IntKind.u64 (k i)) (mst (yNle (yNadd 0 n) n) (mst (yCol (CK.int IntKind.u64) n fun (i : Nat) => AV.y IntKind.u64 (w i)) (mst (yNle n 1000000) ((isC (fun (i : Nat) => k i) x n = true → mst (yNle (yNadd 0 n) n) (mst (yCol (CK.int IntKind.u64) n fun (i : Nat) => AV.y IntKind.u64 (k i)) (mst (yNle (yNadd 0 n) n) (mst (yCol (CK.int IntKind.u64) n fun (i : Nat) => AV.y IntKind.u64 (w i)) (mst (yAnd (yNle n 80) (yAnd (yNeq n n) (yAnd (yAnd (yLe 0 0) (yLe 0 (yInt (atC (fun (i : Nat) => k i) x n)))) (yLe (yInt (atC (fun (i : Nat) => k i) x n)) (yInt n))))) (mst (yNle (yNadd 0 (yNsub (yNat (yInt (atC (fun (i : Nat) => k i) x n))) (yNat 0))) (yNsub (yNat (yInt (atC (fun (i : Nat) => k i) x n))) (yNat 0))) (mst (yCol (CK.int IntKind.u64) (yNsub (yNat (yInt (atC (fun (i : Nat) => k i) x n))) (yNat 0)) fun (i : Nat) => AV.y IntKind.u64 (shfM (yNat 0) (fun (i : Nat) => k i) i)) (mst (yNle (yNadd 0 (yNsub (yNat (yInt (atC (fun (i : Nat) => k i) x n))) (yNat 0))) (yNsub (yNat (yInt (atC (fun (i : Nat) => k i) x n))) (yNat 0))) (mst (yCol (CK.int IntKind.u64) (yNsub (yNat (yInt (atC (fun (i : Nat) => k i) x n))) (yNat 0)) fun (i : Nat) => AV.y IntKind.u64 (shfM (yNat 0) (fun (i : Nat) => w i) i)) (mst (yAnd (yAnd (yNle (yNsub (yNat (yInt (atC (fun (i : Nat) => k i) x n))) (yNat 0)) 80) (yNle 1 80)) (yAnd (yNeq (yNsub (yNat (yInt (atC (fun (i : Nat) => k i) x n))) (yNat 0)) (yNsub (yNat (yInt (atC (fun (i : Nat) => k i) x n))) (yNat 0))) (yNeq 1 1))) (mst (yNle (yNadd 0 n) n) (mst (yCol (CK.int IntKind.u64) n fun (i : Nat) => AV.y IntKind.u64 (k i)) (mst (yNle (yNadd 0 n) n) (mst (yCol (CK.int IntKind.u64) n fun (i : Nat) => AV.y IntKind.u64 (w i)) (mst (yAnd (yNle n 80) (yAnd (yNeq n n) (yAnd (yAnd (yLe 0 (yWrap IntKind.i64 (yAdd (yInt (atC (fun (i : Nat) => k i) x n)) 1))) (yLe (yWrap IntKind.i64 (yAdd (yInt (atC (fun (i : Nat) => k i) x n)) 1)) (yInt n))) (yLe (yInt n) (yInt n))))) (mst (yNle (yNadd 0 (yNadd (yNsub (yNat (yInt (atC (fun (i : Nat) => k i) x n))) (yNat 0)) 1)) (yNadd (yNsub (yNat (yInt (atC (fun (i : Nat) => k i) x n))) (yNat 0)) 1)) (mst (yCol (CK.int IntKind.u64) (yNadd (yNsub (yNat (yInt (atC (fun (i : Nat) => k i) x n))) (yNat 0)) 1) fun (i : Nat) => AV.y IntKind.u64 (joinF (yNsub (yNat (yInt (atC (fun (i : Nat) => k i) x n))) (yNat 0)) (fun (i : Nat) => shfM (yNat 0) (fun (i : Nat) => k i) i) (litI 1 [AV.y IntKind.u64 x] 0) i)) (mst (yNle (yNadd 0 (yNadd (yNsub (yNat (yInt (atC (fun (i : Nat) => k i) x n))) (yNat 0)) 1)) (yNadd (yNsub (yNat (yInt (atC (fun (i : Nat) => k i) x n))) (yNat 0)) 1)) (mst (yCol (CK.int IntKind.u64) (yNadd (yNsub (yNat (yInt (atC (fun (i : Nat) => k i) x n))) (yNat 0)) 1) fun (i : Nat) => AV.y IntKind.u64 (joinF (yNsub (yNat (yInt (atC (fun (i : Nat) => k i) x n))) (yNat 0)) (fun (i : Nat) => shfM (yNat 0) (fun (i : Nat) => w i) i) (litI 1 [AV.y IntKind.u64 y] 0) i)) (mst (yNle (yNadd 0 (yNsub (yNat (yInt n)) (yNat (yWrap IntKind.i64 (yAdd (yInt (atC (fun (i : Nat) => k i) x n)) 1))))) (yNsub (yNat (yInt n)) (yNat (yWrap IntKind.i64 (yAdd (yInt (atC (fun (i : Nat) => k i) x n)) 1))))) (mst (yCol (CK.int IntKind.u64) (yNsub (yNat (yInt n)) (yNat (yWrap IntKind.i64 (yAdd (yInt (atC (fun (i : Nat) => k i) x n)) 1)))) fun (i : Nat) => AV.y IntKind.u64 (shfM (yNat (yWrap IntKind.i64 (yAdd (yInt (atC (fun (i : Nat) => k i) x n)) 1))) (fun (i : Nat) => k i) i)) (mst (yNle (yNadd 0 (yNsub (yNat (yInt n)) (yNat (yWrap IntKind.i64 (yAdd (yInt (atC (fun (i : Nat) => k i) x n)) 1))))) (yNsub (yNat (yInt n)) (yNat (yWrap IntKind.i64 (yAdd (yInt (atC (fun (i : Nat) => k i) x n)) 1))))) (mst (yCol (CK.int IntKind.u64) (yNsub (yNat (yInt n)) (yNat (yWrap IntKind.i64 (yAdd (yInt (atC (fun (i : Nat) => k i) x n)) 1)))) fun (i : Nat) => AV.y IntKind.u64 (shfM (yNat (yWrap IntKind.i64 (yAdd (yInt (atC (fun (i : Nat) => k i) x n)) 1))) (fun (i : Nat) => w i) i)) (mst (yAnd (yAnd (yNle (yNadd (yNsub (yNat (yInt (atC (fun (i : Nat) => k i) x n))) (yNat 0)) 1) 80) (yNle (yNsub (yNat (yInt n)) (yNat (yWrap IntKind.i64 (yAdd (yInt (atC (fun (i : Nat) => k i) x n)) 1)))) 80)) (yAnd (yNeq (yNadd (yNsub (yNat (yInt (atC (fun (i : Nat) => k i) x n))) (yNat 0)) 1) (yNadd (yNsub (yNat (yInt (atC (fun (i : Nat) => k i) x n))) (yNat 0)) 1)) (yNeq (yNsub (yNat (yInt n)) (yNat (yWrap IntKind.i64 (yAdd (yInt (atC (fun (i : Nat) => k i) x n)) 1)))) (yNsub (yNat (yInt n)) (yNat (yWrap IntKind.i64 (yAdd (yInt (atC (fun (i : Nat) => k i) x n)) 1))))))) (false = false ∧ yNeq (putN is n) (nat_lit 0) = yNeq (yNadd (yNadd (yNsub (yNat (yInt (atC (fun (i : Nat) => k i) x n))) (yNat 0)) 1) (yNsub (yNat (yInt n)) (yNat (yWrap IntKind.i64 (yAdd (yInt (atC (fun (i : Nat) => k i) x n)) 1))))) 0 ∧ putN is n = yNadd (yNadd (yNsub (yNat (yInt (atC (fun (i : Nat) => k i) x n))) (yNat 0)) 1) (yNsub (yNat (yInt n)) (yNat (yWrap IntKind.i64 (yAdd (yInt (atC (fun (i : Nat) => k i) x n)) 1)))) ∧ yNadd 0 (yNadd (yNadd (yNsub (yNat (yInt (atC (fun (i : Nat) => k i) x n))) (yNat 0)) 1) (yNsub (yNat (yInt n)) (yNat (yWrap IntKind.i64 (yAdd (yInt (atC (fun (i : Nat) => k i) x n)) 1))))) ≤ yNadd (yNadd (yNsub (yNat (yInt (atC (fun (i : Nat) => k i) x n))) (yNat 0)) 1) (yNsub (yNat (yInt n)) (yNat (yWrap IntKind.i64 (yAdd (yInt (atC (fun (i : Nat) => k i) x n)) 1)))) ∧ (∀ (i : Nat), Nat.succ i ≤ putN is n → putK is ix x k i = joinF (yNadd (yNsub (yNat (yInt (atC (fun (i : Nat) => k i) x n))) (yNat 0)) 1) (fun (i : Nat) => joinF (yNsub (yNat (yInt (atC (fun (i : Nat) => k i) x n))) (yNat 0)) (fun (i : Nat) => shfM (yNat 0) (fun (i : Nat) => k i) i) (litI 1 [AV.y IntKind.u64 x] 0) i) (fun (i : Nat) => shfM (yNat (yWrap IntKind.i64 (yAdd (yInt (atC (fun (i : Nat) => k i) x n)) 1))) (fun (i : Nat) => k i) i) (yNadd 0 i) ∧ True) ∧ yNeq (putN is n) (nat_lit 0) = yNeq (yNadd (yNadd (yNsub (yNat (yInt (atC (fun (i : Nat) => k i) x n))) (yNat 0)) 1) (yNsub (yNat (yInt n)) (yNat (yWrap IntKind.i64 (yAdd (yInt (atC (fun (i : Nat) => k i) x n)) 1))))) 0 ∧ putN is n = yNadd (yNadd (yNsub (yNat (yInt (atC (fun (i : Nat) => k i) x n))) (yNat 0)) 1) (yNsub (yNat (yInt n)) (yNat (yWrap IntKind.i64 (yAdd (yInt (atC (fun (i : Nat) => k i) x n)) 1)))) ∧ yNadd 0 (yNadd (yNadd (yNsub (yNat (yInt (atC (fun (i : Nat) => k i) x n))) (yNat 0)) 1) (yNsub (yNat (yInt n)) (yNat (yWrap IntKind.i64 (yAdd (yInt (atC (fun (i : Nat) => k i) x n)) 1))))) ≤ yNadd (yNadd (yNsub (yNat (yInt (atC (fun (i : Nat) => k i) x n))) (yNat 0)) 1) (yNsub (yNat (yInt n)) (yNat (yWrap IntKind.i64 (yAdd (yInt (atC (fun (i : Nat) => k i) x n)) 1)))) ∧ (∀ (i : Nat), Nat.succ i ≤ putN is n → putK is ix y w i = joinF (yNadd (yNsub (yNat (yInt (atC (fun (i : Nat) => k i) x n))) (yNat 0)) 1) (fun (i : Nat) => joinF (yNsub (yNat (yInt (atC (fun (i : Nat) => k i) x n))) (yNat 0)) (fun (i : Nat) => shfM (yNat 0) (fun (i : Nat) => w i) i) (litI 1 [AV.y IntKind.u64 y] 0) i) (fun (i : Nat) => shfM (yNat (yWrap IntKind.i64 (yAdd (yInt (atC (fun (i : Nat) => k i) x n)) 1))) (fun (i : Nat) => w i) i) (yNadd 0 i) ∧ True) ∧ l = l ∧ true = true))))))))))))))))))))))))) ∧ (isC (fun (i : Nat) => k i) x n = false → mst (yNle (yNadd 0 n) n) (mst (yCol (CK.int IntKind.u64) n fun (i : Nat) => AV.y IntKind.u64 (k i)) (mst (yNle (yNadd 0 n) n) (mst (yCol (CK.int IntKind.u64) n fun (i : Nat) => AV.y IntKind.u64 (w i)) (mst (yAnd (yNle n 80) (yAnd (yNeq n n) (yAnd (yAnd (yLe 0 0) (yLe 0 (yInt (atC (fun (i : Nat) => k i) x n)))) (yLe (yInt (atC (fun (i : Nat) => k i) x n)) (yInt n))))) (mst (yNle (yNadd 0 (yNsub (yNat (yInt (atC (fun (i : Nat) => k i) x n))) (yNat 0))) (yNsub (yNat (yInt (atC (fun (i : Nat) => k i) x n))) (yNat 0))) (mst (yCol (CK.int IntKind.u64) (yNsub (yNat (yInt (atC (fun (i : Nat) => k i) x n))) (yNat 0)) fun (i : Nat) => AV.y IntKind.u64 (shfM (yNat 0) (fun (i : Nat) => k i) i)) (mst (yNle (yNadd 0 (yNsub (yNat (yInt (atC (fun (i : Nat) => k i) x n))) (yNat 0))) (yNsub (yNat (yInt (atC (fun (i : Nat) => k i) x n))) (yNat 0))) (mst (yCol (CK.int IntKind.u64) (yNsub (yNat (yInt (atC (fun (i : Nat) => k i) x n))) (yNat 0)) fun (i : Nat) => AV.y IntKind.u64 (shfM (yNat 0) (fun (i : Nat) => w i) i)) (mst (yAnd (yAnd (yNle (yNsub (yNat (yInt (atC (fun (i : Nat) => k i) x n))) (yNat 0)) 80) (yNle 1 80)) (yAnd (yNeq (yNsub (yNat (yInt (atC (fun (i : Nat) => k i) x n))) (yNat 0)) (yNsub (yNat (yInt (atC (fun (i : Nat) => k i) x n))) (yNat 0))) (yNeq 1 1))) (mst (yNle (yNadd 0 n) n) (mst (yCol (CK.int IntKind.u64) n fun (i : Nat) => AV.y IntKind.u64 (k i)) (mst (yNle (yNadd 0 n) n) (mst (yCol (CK.int IntKind.u64) n fun (i : Nat) => AV.y IntKind.u64 (w i)) (mst (yAnd (yNle n 80) (yAnd (yNeq n n) (yAnd (yAnd (yLe 0 (yInt (atC (fun (i : Nat) => k i) x n))) (yLe (yInt (atC (fun (i : Nat) => k i) x n)) (yInt n))) (yLe (yInt n) (yInt n))))) (mst (yNle (yNadd 0 (yNadd (yNsub (yNat (yInt (atC (fun (i : Nat) => k i) x n))) (yNat 0)) 1)) (yNadd (yNsub (yNat (yInt (atC (fun (i : Nat) => k i) x n))) (yNat 0)) 1)) (mst (yCol (CK.int IntKind.u64) (yNadd (yNsub (yNat (yInt (atC (fun (i : Nat) => k i) x n))) (yNat 0)) 1) fun (i : Nat) => AV.y IntKind.u64 (joinF (yNsub (yNat (yInt (atC (fun (i : Nat) => k i) x n))) (yNat 0)) (fun (i : Nat) => shfM (yNat 0) (fun (i : Nat) => k i) i) (litI 1 [AV.y IntKind.u64 x] 0) i)) (mst (yNle (yNadd 0 (yNadd (yNsub (yNat (yInt (atC (fun (i : Nat) => k i) x n))) (yNat 0)) 1)) (yNadd (yNsub (yNat (yInt (atC (fun (i : Nat) => k i) x n))) (yNat 0)) 1)) (mst (yCol (CK.int IntKind.u64) (yNadd (yNsub (yNat (yInt (atC (fun (i : Nat) => k i) x n))) (yNat 0)) 1) fun (i : Nat) => AV.y IntKind.u64 (joinF (yNsub (yNat (yInt (atC (fun (i : Nat) => k i) x n))) (yNat 0)) (fun (i : Nat) => shfM (yNat 0) (fun (i : Nat) => w i) i) (litI 1 [AV.y IntKind.u64 y] 0) i)) (mst (yNle (yNadd 0 (yNsub (yNat (yInt n)) (yNat (yInt (atC (fun (i : Nat) => k i) x n))))) (yNsub (yNat (yInt n)) (yNat (yInt (atC (fun (i : Nat) => k i) x n))))) (mst (yCol (CK.int IntKind.u64) (yNsub (yNat (yInt n)) (yNat (yInt (atC (fun (i : Nat) => k i) x n)))) fun (i : Nat) => AV.y IntKind.u64 (shfM (yNat (yInt (atC (fun (i : Nat) => k i) x n))) (fun (i : Nat) => k i) i)) (mst (yNle (yNadd 0 (yNsub (yNat (yInt n)) (yNat (yInt (atC (fun (i : Nat) => k i) x n))))) (yNsub (yNat (yInt n)) (yNat (yInt (atC (fun (i : Nat) => k i) x n))))) (mst (yCol (CK.int IntKind.u64) (yNsub (yNat (yInt n)) (yNat (yInt (atC (fun (i : Nat) => k i) x n)))) fun (i : Nat) => AV.y IntKind.u64 (shfM (yNat (yInt (atC (fun (i : Nat) => k i) x n))) (fun (i : Nat) => w i) i)) (mst (yAnd (yAnd (yNle (yNadd (yNsub (yNat (yInt (atC (fun (i : Nat) => k i) x n))) (yNat 0)) 1) 80) (yNle (yNsub (yNat (yInt n)) (yNat (yInt (atC (fun (i : Nat) => k i) x n)))) 80)) (yAnd (yNeq (yNadd (yNsub (yNat (yInt (atC (fun (i : Nat) => k i) x n))) (yNat 0)) 1) (yNadd (yNsub (yNat (yInt (atC (fun (i : Nat) => k i) x n))) (yNat 0)) 1)) (yNeq (yNsub (yNat (yInt n)) (yNat (yInt (atC (fun (i : Nat) => k i) x n)))) (yNsub (yNat (yInt n)) (yNat (yInt (atC (fun (i : Nat) => k i) x n))))))) (false = false ∧ yNeq (putN is n) (nat_lit 0) = yNeq (yNadd (yNadd (yNsub (yNat (yInt (atC (fun (i : Nat) => k i) x n))) (yNat 0)) 1) (yNsub (yNat (yInt n)) (yNat (yInt (atC (fun (i : Nat) => k i) x n))))) 0 ∧ putN is n = yNadd (yNadd (yNsub (yNat (yInt (atC (fun (i : Nat) => k i) x n))) (yNat 0)) 1) (yNsub (yNat (yInt n)) (yNat (yInt (atC (fun (i : Nat) => k i) x n)))) ∧ yNadd 0 (yNadd (yNadd (yNsub (yNat (yInt (atC (fun (i : Nat) => k i) x n))) (yNat 0)) 1) (yNsub (yNat (yInt n)) (yNat (yInt (atC (fun (i : Nat) => k i) x n))))) ≤ yNadd (yNadd (yNsub (yNat (yInt (atC (fun (i : Nat) => k i) x n))) (yNat 0)) 1) (yNsub (yNat (yInt n)) (yNat (yInt (atC (fun (i : Nat) => k i) x n)))) ∧ (∀ (i : Nat), Nat.succ i ≤ putN is n → putK is ix x k i = joinF (yNadd (yNsub (yNat (yInt (atC (fun (i : Nat) => k i) x n))) (yNat 0)) 1) (fun (i : Nat) => joinF (yNsub (yNat (yInt (atC (fun (i : Nat) => k i) x n))) (yNat 0)) (fun (i : Nat) => shfM (yNat 0) (fun (i : Nat) => k i) i) (litI 1 [AV.y IntKind.u64 x] 0) i) (fun (i : Nat) => shfM (yNat (yInt (atC (fun (i : Nat) => k i) x n))) (fun (i : Nat) => k i) i) (yNadd 0 i) ∧ True) ∧ yNeq (putN is n) (nat_lit 0) = yNeq (yNadd (yNadd (yNsub (yNat (yInt (atC (fun (i : Nat) => k i) x n))) (yNat 0)) 1) (yNsub (yNat (yInt n)) (yNat (yInt (atC (fun (i : Nat) => k i) x n))))) 0 ∧ putN is n = yNadd (yNadd (yNsub (yNat (yInt (atC (fun (i : Nat) => k i) x n))) (yNat 0)) 1) (yNsub (yNat (yInt n)) (yNat (yInt (atC (fun (i : Nat) => k i) x n)))) ∧ yNadd 0 (yNadd (yNadd (yNsub (yNat (yInt (atC (fun (i : Nat) => k i) x n))) (yNat 0)) 1) (yNsub (yNat (yInt n)) (yNat (yInt (atC (fun (i : Nat) => k i) x n))))) ≤ yNadd (yNadd (yNsub (yNat (yInt (atC (fun (i : Nat) => k i) x n))) (yNat 0)) 1) (yNsub (yNat (yInt n)) (yNat (yInt (atC (fun (i : Nat) => k i) x n)))) ∧ (∀ (i : Nat), Nat.succ i ≤ putN is n → putK is ix y w i = joinF (yNadd (yNsub (yNat (yInt (atC (fun (i : Nat) => k i) x n))) (yNat 0)) 1) (fun (i : Nat) => joinF (yNsub (yNat (yInt (atC (fun (i : Nat) => k i) x n))) (yNat 0)) (fun (i : Nat) => shfM (yNat 0) (fun (i : Nat) => w i) i) (litI 1 [AV.y IntKind.u64 y] 0) i) (fun (i : Nat) => shfM (yNat (yInt (atC (fun (i : Nat) => k i) x n))) (fun (i : Nat) => w i) i) (yNadd 0 i) ∧ True) ∧ l = l ∧ true = true)))))))))))))))))))))))))))))))
theorem goalPu_eq : goalPu = goalPuV := by kernel_rfl
set_option maxHeartbeats 8000000 in
theorem goalPu_vc : goalPuV := by
 unfold goalPuV
 intro i kn n k vn w l x y ix is hn hix his hris
 subst hix his
 have hr := risesB_iff.1 hris
 have c1 : ∀ (n : Nat) (f : Nat → Int), (yCol (CK.int IntKind.u64) n fun (i : Nat) => AV.y IntKind.u64 (f i)) = true := fun n f => yCol_int
 have y0 : yNat 0 = 0 := rfl
 have y1 : ∀ m : Nat, yNat (m : Int) = m := fun m => yNatN
 have hle := atC_le (k := k) (x := x) n
 have hlt : isC k x n = true → atC k x n < n := fun h => (isC_at hr h).1
 simp only [yNle_t] at hn
 have w1 : yWrap .i64 ((atC k x n : Nat) : Int) = ((atC k x n : Nat) : Int) := wrap64 (by omega) (by omega)
 have w2 : yWrap .i64 (((atC k x n : Nat) : Int) + 1) = ((atC k x n + 1 : Nat) : Int) := (wrap64 (by omega) (by omega)).trans (by omega)
 have li : ∀ (v : Int) (q : Nat), q < 1 → litI 1 [AV.y .u64 v] 0 q = v := fun v q h => by
   obtain rfl : q = 0 := by omega
   rfl
 simp only [vS, forall_const, c1, y0, y1, w1, w2, Nat.sub_zero]
 clear w1 w2
 revert hle hlt
 generalize atC k x n = a
 generalize isC k x n = b
 intro hle hlt
 cases b with
 | true =>
   have hlt := hlt rfl
   repeat' (first | apply And.intro | intro q hq | intro _)
   all_goals first
     | trivial
     | omega
     | (exfalso; omega)
     | (show yNeq (putN true n) 0 = _; unfold putN; congr 1; simp only [if_true]; omega)
     | (show putN true n = _; unfold putN; simp only [if_true]; omega)
     | (show putK true a _ _ q = joinF _ _ _ q
        have hq : q < putN true n := hq
        unfold putN at hq
        unfold putK joinF shfM
        simp only [if_true] at hq ⊢
        (repeat' split) <;> first | rfl | (exfalso; omega) | (congr 1; omega) | exact (li _ _ (by omega)).symm)
     | (trace_state; fail)
 | false =>
   repeat' (first | apply And.intro | intro q hq | intro _)
   all_goals first
     | trivial
     | omega
     | (exfalso; omega)
     | (show yNeq (putN false n) 0 = _; unfold putN; congr 1; simp only [Bool.false_eq_true, if_false]; omega)
     | (show putN false n = _; unfold putN; simp only [Bool.false_eq_true, if_false]; omega)
     | (show putK false a _ _ q = joinF _ _ _ q
        have hq : q < putN false n := hq
        unfold putN at hq
        unfold putK joinF shfM
        simp only [Bool.false_eq_true, if_false] at hq ⊢
        (repeat' split) <;> first | rfl | (exfalso; omega) | (congr 1; omega) | exact (li _ _ (by omega)).symm)
     | (trace_state; fail)
theorem goalPu_tt : (goalPu) = True := goalPu_eq.trans (eq_true goalPu_vc)
theorem goalPu_ok : goalPu := @ft' goalPu goalPu_tt
def goalDrV : Prop := (∀ (i kn : Bool) (n : Nat) (k : Nat → Int) (vn : Bool) (w : Nat → Int) (l x : Int) (ix : Nat) (is : Bool), yNle n (nat_lit 64) = true → ix = atC k x n → is = isC k x n → risesB k n = true → mst (yNle (yNadd 0 n) n) (mst (yCol (CK.int IntKind.u64) n fun (i : Nat) => AV.y IntKind.u64 (k i)) (mst (yNle (yNadd 0 n) n) (mst (yCol (CK.int IntKind.u64) n fun (i : Nat) => AV.y IntKind.u64 (w i)) (mst (yNle n 1000000) ((isC (fun (i : Nat) => k i) x n = true → mst (yNle (yNadd 0 n) n) (mst (yCol (CK.int IntKind.u64) n fun (i : Nat) => AV.y IntKind.u64 (k i)) (mst (yNle (yNadd 0 n) n) (mst (yCol (CK.int IntKind.u64) n fun (i : Nat) => AV.y IntKind.u64 (w i)) (mst (yAnd (yNle n 80) (yAnd (yNeq n n) (yAnd (yAnd (yLe 0 0) (yLe 0 (yInt (atC (fun (i : Nat) => k i) x n)))) (yLe (yInt (atC (fun (i : Nat) => k i) x n)) (yInt n))))) (mst (yNle (yNadd 0 n) n) (mst (yCol (CK.int IntKind.u64) n fun (i : Nat) => AV.y IntKind.u64 (k i)) (mst (yNle (yNadd 0 n) n) (mst (yCol (CK.int IntKind.u64) n fun (i : Nat) => AV.y IntKind.u64 (w i)) (mst (yAnd (yNle n 80) (yAnd (yNeq n n) (yAnd (yAnd (yLe 0 (yWrap IntKind.i64 (yAdd (yInt (atC (fun (i : Nat) => k i) x n)) 1))) (yLe (yWrap IntKind.i64 (yAdd (yInt (atC (fun (i : Nat) => k i) x n)) 1)) (yInt n))) (yLe (yInt n) (yInt n))))) (mst (yNle (yNadd 0 (yNsub (yNat (yInt (atC (fun (i : Nat) => k i) x n))) (yNat 0))) (yNsub (yNat (yInt (atC (fun (i : Nat) => k i) x n))) (yNat 0))) (mst (yCol (CK.int IntKind.u64) (yNsub (yNat (yInt (atC (fun (i : Nat) => k i) x n))) (yNat 0)) fun (i : Nat) => AV.y IntKind.u64 (shfM (yNat 0) (fun (i : Nat) => k i) i)) (mst (yNle (yNadd 0 (yNsub (yNat (yInt (atC (fun (i : Nat) => k i) x n))) (yNat 0))) (yNsub (yNat (yInt (atC (fun (i : Nat) => k i) x n))) (yNat 0))) (mst (yCol (CK.int IntKind.u64) (yNsub (yNat (yInt (atC (fun (i : Nat) => k i) x n))) (yNat 0)) fun (i : Nat) => AV.y IntKind.u64 (shfM (yNat 0) (fun (i : Nat) => w i) i)) (mst (yNle (yNadd 0 (yNsub (yNat (yInt n)) (yNat (yWrap IntKind.i64 (yAdd (yInt (atC (fun (i : Nat) => k i) x n)) 1))))) (yNsub (yNat (yInt n)) (yNat (yWrap IntKind.i64 (yAdd (yInt (atC (fun (i : Nat) => k i) x n)) 1))))) (mst (yCol (CK.int IntKind.u64) (yNsub (yNat (yInt n)) (yNat (yWrap IntKind.i64 (yAdd (yInt (atC (fun (i : Nat) => k i) x n)) 1)))) fun (i : Nat) => AV.y IntKind.u64 (shfM (yNat (yWrap IntKind.i64 (yAdd (yInt (atC (fun (i : Nat) => k i) x n)) 1))) (fun (i : Nat) => k i) i)) (mst (yNle (yNadd 0 (yNsub (yNat (yInt n)) (yNat (yWrap IntKind.i64 (yAdd (yInt (atC (fun (i : Nat) => k i) x n)) 1))))) (yNsub (yNat (yInt n)) (yNat (yWrap IntKind.i64 (yAdd (yInt (atC (fun (i : Nat) => k i) x n)) 1))))) (mst (yCol (CK.int IntKind.u64) (yNsub (yNat (yInt n)) (yNat (yWrap IntKind.i64 (yAdd (yInt (atC (fun (i : Nat) => k i) x n)) 1)))) fun (i : Nat) => AV.y IntKind.u64 (shfM (yNat (yWrap IntKind.i64 (yAdd (yInt (atC (fun (i : Nat) => k i) x n)) 1))) (fun (i : Nat) => w i) i)) (mst (yAnd (yAnd (yNle (yNsub (yNat (yInt (atC (fun (i : Nat) => k i) x n))) (yNat 0)) 80) (yNle (yNsub (yNat (yInt n)) (yNat (yWrap IntKind.i64 (yAdd (yInt (atC (fun (i : Nat) => k i) x n)) 1)))) 80)) (yAnd (yNeq (yNsub (yNat (yInt (atC (fun (i : Nat) => k i) x n))) (yNat 0)) (yNsub (yNat (yInt (atC (fun (i : Nat) => k i) x n))) (yNat 0))) (yNeq (yNsub (yNat (yInt n)) (yNat (yWrap IntKind.i64 (yAdd (yInt (atC (fun (i : Nat) => k i) x n)) 1)))) (yNsub (yNat (yInt n)) (yNat (yWrap IntKind.i64 (yAdd (yInt (atC (fun (i : Nat) => k i) x n)) 1))))))) (false = false ∧ yNeq (drN is n) (nat_lit 0) = yNeq (yNadd (yNsub (yNat (yInt (atC (fun (i : Nat) => k i) x n))) (yNat 0)) (yNsub (yNat (yInt n)) (yNat (yWrap IntKind.i64 (yAdd (yInt (atC (fun (i : Nat) => k i) x n)) 1))))) 0 ∧ drN is n = yNadd (yNsub (yNat (yInt (atC (fun (i : Nat) => k i) x n))) (yNat 0)) (yNsub (yNat (yInt n)) (yNat (yWrap IntKind.i64 (yAdd (yInt (atC (fun (i : Nat) => k i) x n)) 1)))) ∧ yNadd 0 (yNadd (yNsub (yNat (yInt (atC (fun (i : Nat) => k i) x n))) (yNat 0)) (yNsub (yNat (yInt n)) (yNat (yWrap IntKind.i64 (yAdd (yInt (atC (fun (i : Nat) => k i) x n)) 1))))) ≤ yNadd (yNsub (yNat (yInt (atC (fun (i : Nat) => k i) x n))) (yNat 0)) (yNsub (yNat (yInt n)) (yNat (yWrap IntKind.i64 (yAdd (yInt (atC (fun (i : Nat) => k i) x n)) 1)))) ∧ (∀ (i : Nat), Nat.succ i ≤ drN is n → drK is ix k i = joinF (yNsub (yNat (yInt (atC (fun (i : Nat) => k i) x n))) (yNat 0)) (fun (i : Nat) => shfM (yNat 0) (fun (i : Nat) => k i) i) (fun (i : Nat) => shfM (yNat (yWrap IntKind.i64 (yAdd (yInt (atC (fun (i : Nat) => k i) x n)) 1))) (fun (i : Nat) => k i) i) (yNadd 0 i) ∧ True) ∧ yNeq (drN is n) (nat_lit 0) = yNeq (yNadd (yNsub (yNat (yInt (atC (fun (i : Nat) => k i) x n))) (yNat 0)) (yNsub (yNat (yInt n)) (yNat (yWrap IntKind.i64 (yAdd (yInt (atC (fun (i : Nat) => k i) x n)) 1))))) 0 ∧ drN is n = yNadd (yNsub (yNat (yInt (atC (fun (i : Nat) => k i) x n))) (yNat 0)) (yNsub (yNat (yInt n)) (yNat (yWrap IntKind.i64 (yAdd (yInt (atC (fun (i : Nat) => k i) x n)) 1)))) ∧ yNadd 0 (yNadd (yNsub (yNat (yInt (atC (fun (i : Nat) => k i) x n))) (yNat 0)) (yNsub (yNat (yInt n)) (yNat (yWrap IntKind.i64 (yAdd (yInt (atC (fun (i : Nat) => k i) x n)) 1))))) ≤ yNadd (yNsub (yNat (yInt (atC (fun (i : Nat) => k i) x n))) (yNat 0)) (yNsub (yNat (yInt n)) (yNat (yWrap IntKind.i64 (yAdd (yInt (atC (fun (i : Nat) => k i) x n)) 1)))) ∧ (∀ (i : Nat), Nat.succ i ≤ drN is n → drK is ix w i = joinF (yNsub (yNat (yInt (atC (fun (i : Nat) => k i) x n))) (yNat 0)) (fun (i : Nat) => shfM (yNat 0) (fun (i : Nat) => w i) i) (fun (i : Nat) => shfM (yNat (yWrap IntKind.i64 (yAdd (yInt (atC (fun (i : Nat) => k i) x n)) 1))) (fun (i : Nat) => w i) i) (yNadd 0 i) ∧ True) ∧ l = l ∧ true = true)))))))))))))))))))) ∧ (isC (fun (i : Nat) => k i) x n = false → mst (yNle (yNadd 0 n) n) (mst (yCol (CK.int IntKind.u64) n fun (i : Nat) => AV.y IntKind.u64 (k i)) (mst (yNle (yNadd 0 n) n) (mst (yCol (CK.int IntKind.u64) n fun (i : Nat) => AV.y IntKind.u64 (w i)) (mst (yAnd (yNle n 80) (yAnd (yNeq n n) (yAnd (yAnd (yLe 0 0) (yLe 0 (yInt (atC (fun (i : Nat) => k i) x n)))) (yLe (yInt (atC (fun (i : Nat) => k i) x n)) (yInt n))))) (mst (yNle (yNadd 0 n) n) (mst (yCol (CK.int IntKind.u64) n fun (i : Nat) => AV.y IntKind.u64 (k i)) (mst (yNle (yNadd 0 n) n) (mst (yCol (CK.int IntKind.u64) n fun (i : Nat) => AV.y IntKind.u64 (w i)) (mst (yAnd (yNle n 80) (yAnd (yNeq n n) (yAnd (yAnd (yLe 0 (yInt (atC (fun (i : Nat) => k i) x n))) (yLe (yInt (atC (fun (i : Nat) => k i) x n)) (yInt n))) (yLe (yInt n) (yInt n))))) (mst (yNle (yNadd 0 (yNsub (yNat (yInt (atC (fun (i : Nat) => k i) x n))) (yNat 0))) (yNsub (yNat (yInt (atC (fun (i : Nat) => k i) x n))) (yNat 0))) (mst (yCol (CK.int IntKind.u64) (yNsub (yNat (yInt (atC (fun (i : Nat) => k i) x n))) (yNat 0)) fun (i : Nat) => AV.y IntKind.u64 (shfM (yNat 0) (fun (i : Nat) => k i) i)) (mst (yNle (yNadd 0 (yNsub (yNat (yInt (atC (fun (i : Nat) => k i) x n))) (yNat 0))) (yNsub (yNat (yInt (atC (fun (i : Nat) => k i) x n))) (yNat 0))) (mst (yCol (CK.int IntKind.u64) (yNsub (yNat (yInt (atC (fun (i : Nat) => k i) x n))) (yNat 0)) fun (i : Nat) => AV.y IntKind.u64 (shfM (yNat 0) (fun (i : Nat) => w i) i)) (mst (yNle (yNadd 0 (yNsub (yNat (yInt n)) (yNat (yInt (atC (fun (i : Nat) => k i) x n))))) (yNsub (yNat (yInt n)) (yNat (yInt (atC (fun (i : Nat) => k i) x n))))) (mst (yCol (CK.int IntKind.u64) (yNsub (yNat (yInt n)) (yNat (yInt (atC (fun (i : Nat) => k i) x n)))) fun (i : Nat) => AV.y IntKind.u64 (shfM (yNat (yInt (atC (fun (i : Nat) => k i) x n))) (fun (i : Nat) => k i) i)) (mst (yNle (yNadd 0 (yNsub (yNat (yInt n)) (yNat (yInt (atC (fun (i : Nat) => k i) x n))))) (yNsub (yNat (yInt n)) (yNat (yInt (atC (fun (i : Nat) => k i) x n))))) (mst (yCol (CK.int IntKind.u64) (yNsub (yNat (yInt n)) (yNat (yInt (atC (fun (i : Nat) => k i) x n)))) fun (i : Nat) => AV.y IntKind.u64 (shfM (yNat (yInt (atC (fun (i : Nat) => k i) x n))) (fun (i : Nat) => w i) i)) (mst (yAnd (yAnd (yNle (yNsub (yNat (yInt (atC (fun (i : Nat) => k i) x n))) (yNat 0)) 80) (yNle (yNsub (yNat (yInt n)) (yNat (yInt (atC (fun (i : Nat) => k i) x n)))) 80)) (yAnd (yNeq (yNsub (yNat (yInt (atC (fun (i : Nat) => k i) x n))) (yNat 0)) (yNsub (yNat (yInt (atC (fun (i : Nat) => k i) x n))) (yNat 0))) (yNeq (yNsub (yNat (yInt n)) (yNat (yInt (atC (fun (i : Nat) => k i) x n)))) (yNsub (yNat (yInt n)) (yNat (yInt (atC (fun (i : Nat) => k i) x n))))))) (false = false ∧ yNeq (drN is n) (nat_lit 0) = yNeq (yNadd (yNsub (yNat (yInt (atC (fun (i : Nat) => k i) x n))) (yNat 0)) (yNsub (yNat (yInt n)) (yNat (yInt (atC (fun (i : Nat) => k i) x n))))) 0 ∧ drN is n = yNadd (yNsub (yNat (yInt (atC (fun (i : Nat) => k i) x n))) (yNat 0)) (yNsub (yNat (yInt n)) (yNat (yInt (atC (fun (i : Nat) => k i) x n)))) ∧ yNadd 0 (yNadd (yNsub (yNat (yInt (atC (fun (i : Nat) => k i) x n))) (yNat 0)) (yNsub (yNat (yInt n)) (yNat (yInt (atC (fun (i : Nat) => k i) x n))))) ≤ yNadd (yNsub (yNat (yInt (atC (fun (i : Nat) => k i) x n))) (yNat 0)) (yNsub (yNat (yInt n)) (yNat (yInt (atC (fun (i : Nat) => k i) x n)))) ∧ (∀ (i : Nat), Nat.succ i ≤ drN is n → drK is ix k i = joinF (yNsub (yNat (yInt (atC (fun (i : Nat) => k i) x n))) (yNat 0)) (fun (i : Nat) => shfM (yNat 0) (fun (i : Nat) => k i) i) (fun (i : Nat) => shfM (yNat (yInt (atC (fun (i : Nat) => k i) x n))) (fun (i : Nat) => k i) i) (yNadd 0 i) ∧ True) ∧ yNeq (drN is n) (nat_lit 0) = yNeq (yNadd (yNsub (yNat (yInt (atC (fun (i : Nat) => k i) x n))) (yNat 0)) (yNsub (yNat (yInt n)) (yNat (yInt (atC (fun (i : Nat) => k i) x n))))) 0 ∧ drN is n = yNadd (yNsub (yNat (yInt (atC (fun (i : Nat) => k i) x n))) (yNat 0)) (yNsub (yNat (yInt n)) (yNat (yInt (atC (fun (i : Nat) => k i) x n)))) ∧ yNadd 0 (yNadd (yNsub (yNat (yInt (atC (fun (i : Nat) => k i) x n))) (yNat 0)) (yNsub (yNat (yInt n)) (yNat (yInt (atC (fun (i : Nat) => k i) x n))))) ≤ yNadd (yNsub (yNat (yInt (atC (fun (i : Nat) => k i) x n))) (yNat 0)) (yNsub (yNat (yInt n)) (yNat (yInt (atC (fun (i : Nat) => k i) x n)))) ∧ (∀ (i : Nat), Nat.succ i ≤ drN is n → drK is ix w i = joinF (yNsub (yNat (yInt (atC (fun (i : Nat) => k i) x n))) (yNat 0)) (fun (i : Nat) => shfM (yNat 0) (fun (i : Nat) => w i) i) (fun (i : Nat) => shfM (yNat (yInt (atC (fun (i : Nat) => k i) x n))) (fun (i : Nat) => w i) i) (yNadd 0 i) ∧ True) ∧ l = l ∧ true = true))))))))))))))))))))))))))
theorem goalDr_eq : goalDr = goalDrV := by kernel_rfl
set_option maxHeartbeats 8000000 in
theorem goalDr_vc : goalDrV := by
 unfold goalDrV
 intro i kn n k vn w l x ix is hn hix his hris
 subst hix his
 have hr := risesB_iff.1 hris
 have c1 : ∀ (n : Nat) (f : Nat → Int), (yCol (CK.int IntKind.u64) n fun (i : Nat) => AV.y IntKind.u64 (f i)) = true := fun n f => yCol_int
 have y0 : yNat 0 = 0 := rfl
 have y1 : ∀ m : Nat, yNat (m : Int) = m := fun m => yNatN
 have hle := atC_le (k := k) (x := x) n
 have hlt : isC k x n = true → atC k x n < n := fun h => (isC_at hr h).1
 simp only [yNle_t] at hn
 have w1 : yWrap .i64 ((atC k x n : Nat) : Int) = ((atC k x n : Nat) : Int) := wrap64 (by omega) (by omega)
 have w2 : yWrap .i64 (((atC k x n : Nat) : Int) + 1) = ((atC k x n + 1 : Nat) : Int) := (wrap64 (by omega) (by omega)).trans (by omega)
 have li : ∀ (v : Int) (q : Nat), q < 1 → litI 1 [AV.y .u64 v] 0 q = v := fun v q h => by
   obtain rfl : q = 0 := by omega
   rfl
 simp only [vS, forall_const, c1, y0, y1, w1, w2, Nat.sub_zero]
 clear w1 w2
 revert hle hlt
 generalize atC k x n = a
 generalize isC k x n = b
 intro hle hlt
 cases b with
 | true =>
   have hlt := hlt rfl
   repeat' (first | apply And.intro | intro q hq | intro _)
   all_goals first
     | trivial
     | omega
     | (exfalso; omega)
     | (show yNeq (drN true n) 0 = _; unfold drN; congr 1; simp only [if_true]; omega)
     | (show drN true n = _; unfold drN; simp only [if_true]; omega)
     | (show drK true a _ q = joinF _ _ _ q
        have hq : q < drN true n := hq
        unfold drN at hq
        unfold drK joinF shfM
        simp only [if_true] at hq ⊢
        (repeat' split) <;> first | rfl | (exfalso; omega) | (congr 1; omega) | exact (li _ _ (by omega)).symm)
     | (trace_state; fail)
 | false =>
   repeat' (first | apply And.intro | intro q hq | intro _)
   all_goals first
     | trivial
     | omega
     | (exfalso; omega)
     | (show yNeq (drN false n) 0 = _; unfold drN; congr 1; simp only [Bool.false_eq_true, if_false]; omega)
     | (show drN false n = _; unfold drN; simp only [Bool.false_eq_true, if_false]; omega)
     | (show drK false a _ q = joinF _ _ _ q
        have hq : q < drN false n := hq
        unfold drN at hq
        unfold drK joinF shfM
        simp only [Bool.false_eq_true, if_false] at hq ⊢
        (repeat' split) <;> first | rfl | (exfalso; omega) | (congr 1; omega) | exact (li _ _ (by omega)).symm)
     | (trace_state; fail)
theorem goalDr_tt : (goalDr) = True := goalDr_eq.trans (eq_true goalDr_vc)
theorem goalDr_ok : goalDr := @ft' goalDr goalDr_tt
end Go.Proofs.YtinijejfhmcmdaaGreatDoor.Ex
end
section
namespace Go.Proofs.YtinijejfhmcmdaaGreatDoor.Ex
open Go
/-! The plain law: a change of a leaf, over words that nobody else turns. -/
structure EmI where
 e : EdS
 po : Int
 mq : Int
 mb : Int
 i : Nat
 w : Nat → Int
instance : Inhabited EmI := ⟨⟨default, 0, 0, 0, 0, fun _ => 0⟩⟩
def gotM (cs ct cf : Int) (n : Nat) (x : EmI) : Int := doR (wtK x.e) (wtA cs ct cf x.e) (wtO x.e) n x.w
def stpM (cs ct cf : Int) (n : Nat) (x : EmI) : EmI :=
 ⟨tkE cs ct cf x.e (gotM cs ct cf n x), outE x.e x.po (gotM cs ct cf n x), mkE x.e (gotM cs ct cf n x), maE x.e (gotM cs ct cf n x), x.i + 1, doW (wtK x.e) (wtA cs ct cf x.e) (wtO x.e) (wtN x.e) n x.w⟩
def runM (cs ct cf : Int) (n : Nat) (x : EmI) : Nat → EmI
 | 0 => x
 | i + 1 => stpM cs ct cf n (runM cs ct cf n x i)
def apL (w : Nat → Int) : List (Int × Int) → Nat → Int
 | [] => w
 | p :: l => apL (updW w (yNat p.1) p.2) l
theorem apL_app {w : Nat → Int} : ∀ {l l2 : List (Int × Int)}, apL w (l ++ l2) = apL (apL w l) l2
 | [], _ => rfl
 | p :: l, l2 => apL_app (w := updW w (yNat p.1) p.2) (l := l) (l2 := l2)
theorem trI_trI {n : Nat} {k : Nat → Int} : trI n (trI n k) = trI n k := by
 funext j; unfold trI; split <;> rfl
theorem trI_snoc {n : Nat} {k k' : Nat → Int} {x : Int} (h : trI n k = trI n k') (hx : x = k' n) : trI (n + 1) (snocI n k x) = trI (n + 1) k' := by
 funext j
 have h1 : (if j < n then k j else 0) = (if j < n then k' j else 0) := congrFun h j
 show (if j < n + 1 then (if j < n then k j else x) else 0) = (if j < n + 1 then k' j else 0)
 by_cases a : j < n
 · rw [if_pos a, if_pos a] at h1
   rw [if_pos (show j < n + 1 by omega), if_pos (show j < n + 1 by omega), if_pos a]; exact h1
 · by_cases b : j = n
   · rw [if_pos (show j < n + 1 by omega), if_pos (show j < n + 1 by omega), if_neg a, b]; exact hx
   · rw [if_neg (show ¬ j < n + 1 by omega), if_neg (show ¬ j < n + 1 by omega)]
section
variable {cs ct cf h v kd ix key val : Int} {N n : Nat} {kf wf : Nat → Int} {L : List (Int × Int)}
structure Bs (h v : Int) (N : Nat) (kd ix key val : Int) (E : EdS) : Prop where
 h : E.h = h
 v : E.v = v
 n : E.n = N
 kd : E.kd = kd
 ix : E.ix = ix
 key : E.key = key
 val : E.val = val
 nb : E.nb = false
def PlOk (cs ct cf h v : Int) (N : Nat) (kd ix key val : Int) (kf wf : Nat → Int) (L : List (Int × Int)) : Prop :=
 (∀ E : EdS, Bs h v N kd ix key val E → E.nk = N → E.k = trI N kf → E.nv = N → E.w = trI N wf → plE cs ct cf E = L) ∧ L ≠ []
structure Rd (h v : Int) (N : Nat) (kd ix key val : Int) (kf wf : Nat → Int) (L : List (Int × Int)) (i j : Nat) (E : EdS) : Prop where
 b : Bs h v N kd ix key val E
 nk : E.nk = i
 k : E.k = trI i kf
 nv : E.nv = j
 w : E.w = trI j wf
 a2 : i < N → E.at_ = 2
 a3 : i = N → j < N → E.at_ = 3
 a4 : i = N → j = N → E.at_ = 4 ∧ E.nw = L.length ∧ E.wa = rA L ∧ E.wb = rB L
theorem rd_at {E : EdS} {i j : Nat} (hp : PlOk cs ct cf h v N kd ix key val kf wf L) (b : Bs h v N kd ix key val E) (hi : E.nk = i) (hk : trI i E.k = trI i kf) (hj : E.nv = j) (hw : trI j E.w = trI j wf) (iN : i ≤ N) (jN : j ≤ N) :
   Rd h v N kd ix key val kf wf L i j (rdE cs ct cf (nmE E)) := by
 have hn : (nmE E).n = N := b.n
 have e1 : (nmE E).nk = i := hi
 have e2 : (nmE E).nv = j := hj
 have ek : (nmE E).k = trI i kf := by show trI E.nk E.k = _; rw [hi]; exact hk
 have ew : (nmE E).w = trI j wf := by show trI E.nv E.w = _; rw [hj]; exact hw
 have bb : Bs h v N kd ix key val (nmE E) := ⟨b.h, b.v, b.n, b.kd, b.ix, b.key, b.val, b.nb⟩
 unfold rdE
 rw [e1, e2, hn]
 by_cases c1 : i < N
 · rw [if_pos (by omega)]
   exact ⟨⟨b.h, b.v, rfl, b.kd, b.ix, b.key, b.val, b.nb⟩, rfl, ek, rfl, ew, fun _ => rfl, fun e => absurd e (by omega), fun e => absurd e (by omega)⟩
 · rw [if_neg (by omega)]
   have c1 : i = N := by omega
   by_cases c2 : j < N
   · rw [if_pos (by omega)]
     exact ⟨⟨b.h, b.v, rfl, b.kd, b.ix, b.key, b.val, b.nb⟩, rfl, ek, rfl, ew, fun e => absurd e (by omega), fun _ _ => rfl, fun _ e => absurd e (by omega)⟩
   · rw [if_neg (by omega)]
     have c2 : j = N := by omega
     have hL := hp.1 (nmE E) bb (by rw [e1]; exact c1) (by rw [ek, c1]) (by rw [e2]; exact c2) (by rw [ew, c2])
     rw [hL]
     have hne : rE L = false := by
       unfold rE; cases hl : L with
       | nil => exact absurd hl hp.2
       | cons _ _ => rfl
     exact ⟨⟨b.h, b.v, rfl, b.kd, b.ix, b.key, b.val, b.nb⟩, rfl, ek, rfl, ew, fun e => absurd e (by omega), fun _ e => absurd e (by omega), fun _ _ => ⟨by show (if rE L = true then (5:Int) else 4) = 4; rw [hne]; rfl, rfl, rfl, rfl⟩⟩
structure Hyp (cs ct cf h v : Int) (N n : Nat) (kf wf : Nat → Int) (L : List (Int × Int)) (w0 : Nat → Int) : Prop where
 ver : 0 ≤ verC cs ct cf (slotC h) ∧ verC cs ct cf (slotC h) < n
 wv : w0 (yNat (verC cs ct cf (slotC h))) = v
 key : ∀ i : Nat, i < N → 0 ≤ keyC cs ct cf (slotC h) i ∧ keyC cs ct cf (slotC h) i < n ∧ updW w0 (yNat (verC cs ct cf (slotC h))) (lockC v) (yNat (keyC cs ct cf (slotC h) i)) = kf i
 val : ∀ i : Nat, i < N → 0 ≤ valC cs ct cf (slotC h) i ∧ valC cs ct cf (slotC h) i < n ∧ updW w0 (yNat (verC cs ct cf (slotC h))) (lockC v) (yNat (valC cs ct cf (slotC h) i)) = wf i
 wr : ∀ p ∈ L, 0 ≤ p.1 ∧ p.1 < n
def x0M (h v : Int) (N : Nat) (kd ix key val : Int) (w0 : Nat → Int) : EmI := ⟨E0 h v N kd ix key val, 0, 0, 0, 0, w0⟩
def w1M (cs ct cf h v : Int) (w0 : Nat → Int) : Nat → Int := updW w0 (yNat (verC cs ct cf (slotC h))) (lockC v)
theorem run_one {w0 : Nat → Int} (hp : PlOk cs ct cf h v N kd ix key val kf wf L) (H : Hyp cs ct cf h v N n kf wf L w0) :
   Rd h v N kd ix key val kf wf L 0 0 (runM cs ct cf n (x0M h v N kd ix key val w0) 1).e ∧ (runM cs ct cf n (x0M h v N kd ix key val w0) 1).po = 0 ∧ (runM cs ct cf n (x0M h v N kd ix key val w0) 1).w = w1M cs ct cf h v w0 := by
 have g : gotM cs ct cf n (x0M h v N kd ix key val w0) = 1 := by
   show (if 0 ≤ verC cs ct cf (slotC h) ∧ verC cs ct cf (slotC h) < (n : Int) then (if (3 : Int) = 1 then _ else if (3 : Int) = 3 ∧ w0 (yNat (verC cs ct cf (slotC h))) = v then 1 else 0) else 0) = 1
   rw [if_pos H.ver, if_neg (by decide), if_pos ⟨rfl, H.wv⟩]
 show Rd h v N kd ix key val kf wf L 0 0 (stpM cs ct cf n (x0M h v N kd ix key val w0)).e ∧ (stpM cs ct cf n (x0M h v N kd ix key val w0)).po = 0 ∧ (stpM cs ct cf n (x0M h v N kd ix key val w0)).w = w1M cs ct cf h v w0
 unfold stpM
 rw [g]
 refine ⟨?_, rfl, ?_⟩
 · show Rd h v N kd ix key val kf wf L 0 0 (tkE cs ct cf (E0 h v N kd ix key val) 1)
   have : tkE cs ct cf (E0 h v N kd ix key val) 1 = rdE cs ct cf (nmE (E0 h v N kd ix key val)) := by
     unfold tkE; rw [if_pos rfl, if_pos rfl]
   rw [this]
   exact rd_at hp ⟨rfl, rfl, rfl, rfl, rfl, rfl, rfl, rfl⟩ rfl (by funext j; simp [trI]) rfl (by funext j; simp [trI]) (Nat.zero_le _) (Nat.zero_le _)
 · show doW 3 (verC cs ct cf (slotC h)) v (lockC v) n w0 = _
   unfold doW w1M
   rw [if_pos ⟨H.ver.1, H.ver.2, .inr ⟨rfl, H.wv⟩⟩]
theorem run_keys {w0 : Nat → Int} (hp : PlOk cs ct cf h v N kd ix key val kf wf L) (H : Hyp cs ct cf h v N n kf wf L w0) : ∀ i, i ≤ N →
   Rd h v N kd ix key val kf wf L i 0 (runM cs ct cf n (x0M h v N kd ix key val w0) (1 + i)).e ∧ (runM cs ct cf n (x0M h v N kd ix key val w0) (1 + i)).po = 0 ∧ (runM cs ct cf n (x0M h v N kd ix key val w0) (1 + i)).w = w1M cs ct cf h v w0
 | 0, _ => run_one hp H
 | i + 1, hi => by
   obtain ⟨r, p, q⟩ := run_keys hp H i (by omega)
   have e : 1 + (i + 1) = (1 + i) + 1 := by omega
   rw [e]
   show _ ∧ _ ∧ _
   simp only [runM]
   generalize hx : runM cs ct cf n (x0M h v N kd ix key val w0) (1 + i) = x at r p q
   have a2 := r.a2 (by omega)
   obtain ⟨k1, k2, k3⟩ := H.key i (by omega)
   have g : gotM cs ct cf n x = kf i := by
     unfold gotM wtK wtA doR
     rw [a2]
     simp only [show ((2 : Int) = 1) = False from eq_false (by decide), if_false, if_true]
     rw [r.b.h, r.nk, if_pos ⟨k1, k2⟩, q]; exact k3
   unfold stpM
   rw [g]
   refine ⟨?_, ?_, ?_⟩
   · have : tkE cs ct cf x.e (kf i) = rdE cs ct cf (nmE { x.e with kn := false, nk := x.e.nk + 1, k := snocI x.e.nk x.e.k (kf i) }) := by
       unfold tkE; rw [if_neg (show ¬ x.e.at_ = 1 by rw [a2]; decide), if_pos a2]
     simp only [this]
     exact rd_at hp ⟨r.b.h, r.b.v, r.b.n, r.b.kd, r.b.ix, r.b.key, r.b.val, r.b.nb⟩ (congrArg (· + 1) r.nk) (by show trI (i + 1) (snocI x.e.nk x.e.k (kf i)) = _; rw [r.nk, r.k]; exact trI_snoc trI_trI rfl) r.nv (by show trI 0 x.e.w = _; rw [r.w]; exact trI_trI) hi (Nat.zero_le _)
   · show outE x.e x.po (kf i) = 0
     unfold outE; rw [a2, if_neg (by decide), if_neg (by decide), if_neg (by decide)]; exact p
   · show doW (wtK x.e) _ _ _ n x.w = _
     unfold doW wtK
     rw [a2]
     simp only [show ((2 : Int) = 1) = False from eq_false (by decide), if_false, if_true]
     rw [if_neg (by rintro ⟨_, _, h | h⟩ <;> omega)]; exact q
theorem run_vals {w0 : Nat → Int} (hp : PlOk cs ct cf h v N kd ix key val kf wf L) (H : Hyp cs ct cf h v N n kf wf L w0) : ∀ i, i ≤ N →
   Rd h v N kd ix key val kf wf L N i (runM cs ct cf n (x0M h v N kd ix key val w0) (1 + N + i)).e ∧ (runM cs ct cf n (x0M h v N kd ix key val w0) (1 + N + i)).po = 0 ∧ (runM cs ct cf n (x0M h v N kd ix key val w0) (1 + N + i)).w = w1M cs ct cf h v w0
 | 0, _ => run_keys hp H N (Nat.le_refl _)
 | i + 1, hi => by
   obtain ⟨r, p, q⟩ := run_vals hp H i (by omega)
   have e : 1 + N + (i + 1) = (1 + N + i) + 1 := by omega
   rw [e]
   show _ ∧ _ ∧ _
   simp only [runM]
   generalize hx : runM cs ct cf n (x0M h v N kd ix key val w0) (1 + N + i) = x at r p q
   have a3 := r.a3 rfl (by omega)
   obtain ⟨k1, k2, k3⟩ := H.val i (by omega)
   have g : gotM cs ct cf n x = wf i := by
     unfold gotM wtK wtA doR
     rw [a3]
     simp only [show ((3 : Int) = 1) = False from eq_false (by decide), show ((3 : Int) = 2) = False from eq_false (by decide), if_false, if_true]
     rw [r.b.h, r.nv, if_pos ⟨k1, k2⟩, q]; exact k3
   unfold stpM
   rw [g]
   refine ⟨?_, ?_, ?_⟩
   · have : tkE cs ct cf x.e (wf i) = rdE cs ct cf (nmE { x.e with vn := false, nv := x.e.nv + 1, w := snocI x.e.nv x.e.w (wf i) }) := by
       unfold tkE; rw [if_neg (show ¬ x.e.at_ = 1 by rw [a3]; decide), if_neg (show ¬ x.e.at_ = 2 by rw [a3]; decide), if_pos a3]
     simp only [this]
     exact rd_at hp ⟨r.b.h, r.b.v, r.b.n, r.b.kd, r.b.ix, r.b.key, r.b.val, r.b.nb⟩ r.nk (by show trI N x.e.k = _; rw [r.k]; exact trI_trI) (congrArg (· + 1) r.nv) (by show trI (i + 1) (snocI x.e.nv x.e.w (wf i)) = _; rw [r.nv, r.w]; exact trI_snoc trI_trI rfl) (Nat.le_refl _) hi
   · show outE x.e x.po (wf i) = 0
     unfold outE; rw [a3, if_neg (by decide), if_neg (by decide), if_neg (by decide)]; exact p
   · show doW (wtK x.e) _ _ _ n x.w = _
     unfold doW wtK
     rw [a3]
     simp only [show ((3 : Int) = 1) = False from eq_false (by decide), show ((3 : Int) = 2) = False from eq_false (by decide), if_false, if_true]
     rw [if_neg (by rintro ⟨_, _, h | h⟩ <;> omega)]; exact q
structure Wr (h v : Int) (N : Nat) (kd ix key val : Int) (wf : Nat → Int) (L : List (Int × Int)) (m : Nat) (x : EmI) : Prop where
 b : Bs h v N kd ix key val x.e
 nv : x.e.nv = N
 w : x.e.w = trI N wf
 nw : x.e.nw = L.length - m
 wa : ∀ j, x.e.wa j = rA L (m + j)
 wb : ∀ j, x.e.wb j = rB L (m + j)
 a4 : m < L.length → x.e.at_ = 4 ∧ x.po = 0
 a0 : L.length ≤ m → x.e.at_ = 0 ∧ x.po = 1
theorem run_writes {w0 : Nat → Int} (hp : PlOk cs ct cf h v N kd ix key val kf wf L) (H : Hyp cs ct cf h v N n kf wf L w0) : ∀ m, m ≤ L.length →
   Wr h v N kd ix key val wf L m (runM cs ct cf n (x0M h v N kd ix key val w0) (1 + N + N + m)) ∧ (runM cs ct cf n (x0M h v N kd ix key val w0) (1 + N + N + m)).w = apL (w1M cs ct cf h v w0) (L.take m)
 | 0, _ => by
   obtain ⟨r, p, q⟩ := run_vals hp H N (Nat.le_refl _)
   obtain ⟨a4, b1, b2, b3⟩ := r.a4 rfl rfl
   have hl : 0 < L.length := by
     rcases Nat.eq_zero_or_pos L.length with e | e
     · exact absurd (List.length_eq_zero_iff.1 e) hp.2
     · exact e
   exact ⟨⟨r.b, r.nv, r.w, b1, fun j => by rw [Nat.zero_add]; exact congrFun b2 j, fun j => by rw [Nat.zero_add]; exact congrFun b3 j, fun _ => ⟨a4, p⟩, fun e => absurd e (by omega)⟩, by rw [List.take_zero]; exact q⟩
 | m + 1, hm => by
   obtain ⟨r, q⟩ := run_writes hp H m (by omega)
   have e : 1 + N + N + (m + 1) = (1 + N + N + m) + 1 := by omega
   rw [e]
   show _ ∧ _
   simp only [runM]
   generalize hx : runM cs ct cf n (x0M h v N kd ix key val w0) (1 + N + N + m) = x at r q
   obtain ⟨a4, po⟩ := r.a4 (by omega)
   have hwa := r.wa 0
   have hwb := r.wb 0
   rw [Nat.add_zero] at hwa hwb
   have hget : L[m]? = some (L[m]'(by omega)) := List.getElem?_eq_getElem (by omega)
   have hA : rA L m = (L[m]'(by omega)).1 := by unfold rA; rw [List.getD_eq_getElem?_getD, hget]; rfl
   have hB : rB L m = (L[m]'(by omega)).2 := by unfold rB; rw [List.getD_eq_getElem?_getD, hget]; rfl
   obtain ⟨i1, i2⟩ := H.wr _ (List.getElem_mem (l := L) (n := m) (by omega))
   have tk : ∀ got, tkE cs ct cf x.e got = { x.e with nw := x.e.nw - 1, wa := fun j => x.e.wa (1 + j), wb := fun j => x.e.wb (1 + j), at_ := if x.e.nw = 1 then 0 else 4 } := fun got => by
     unfold tkE; rw [if_neg (show ¬ x.e.at_ = 1 by rw [a4]; decide), if_neg (show ¬ x.e.at_ = 2 by rw [a4]; decide), if_neg (show ¬ x.e.at_ = 3 by rw [a4]; decide), if_pos a4]
   unfold stpM
   refine ⟨?_, ?_⟩
   · refine ⟨?_, ?_, ?_, ?_, fun j => ?_, fun j => ?_, fun hl => ?_, fun hl => ?_⟩
     · simp only [tk]; exact ⟨r.b.h, r.b.v, r.b.n, r.b.kd, r.b.ix, r.b.key, r.b.val, r.b.nb⟩
     · simp only [tk]; exact r.nv
     · simp only [tk]; exact r.w
     · simp only [tk, r.nw]; omega
     · simp only [tk, r.wa]; congr 1; omega
     · simp only [tk, r.wb]; congr 1; omega
     · simp only [tk]
       refine ⟨if_neg (by rw [r.nw]; omega), ?_⟩
       unfold outE; rw [a4, if_neg (by decide), if_pos rfl, if_neg (by rw [r.nw]; omega)]; exact po
     · simp only [tk]
       refine ⟨if_pos (by rw [r.nw]; omega), ?_⟩
       unfold outE; rw [a4, if_neg (by decide), if_pos rfl, if_pos (by rw [r.nw]; omega)]
   · show doW (wtK x.e) (wtA cs ct cf x.e) (wtO x.e) (wtN x.e) n x.w = _
     have e1 : wtK x.e = 2 := by unfold wtK; rw [a4, if_neg (by decide), if_neg (by decide), if_neg (by decide), if_pos rfl]
     have e2 : wtA cs ct cf x.e = (L[m]'(by omega)).1 := by unfold wtA; rw [a4, if_neg (by decide), if_neg (by decide), if_neg (by decide), if_pos rfl, hwa, hA]
     have e3 : wtN x.e = (L[m]'(by omega)).2 := by unfold wtN; rw [a4, if_neg (by decide), if_pos rfl, hwb, hB]
     unfold doW
     rw [e1, e2, e3, if_pos ⟨i1, i2, .inl rfl⟩, q, List.take_succ, hget, apL_app]
     rfl
theorem run_end {w0 : Nat → Int} (hp : PlOk cs ct cf h v N kd ix key val kf wf L) (H : Hyp cs ct cf h v N n kf wf L w0) :
   Wr h v N kd ix key val wf L L.length (runM cs ct cf n (x0M h v N kd ix key val w0) (1 + N + N + L.length)) ∧ (runM cs ct cf n (x0M h v N kd ix key val w0) (1 + N + N + L.length)).w = apL (w1M cs ct cf h v w0) L := by
 obtain ⟨r, q⟩ := run_writes hp H L.length (Nat.le_refl _)
 rw [List.take_length] at q
 exact ⟨r, q⟩
theorem run_on {w0 : Nat → Int} (hp : PlOk cs ct cf h v N kd ix key val kf wf L) (H : Hyp cs ct cf h v N n kf wf L w0) {i : Nat} (hi : i < 1 + N + N + L.length) :
   (runM cs ct cf n (x0M h v N kd ix key val w0) i).e.at_ ≠ 0 := by
 by_cases c0 : i = 0
 · subst c0; exact (by decide : (1 : Int) ≠ 0)
 · by_cases c1 : i < 1 + N
   · obtain ⟨j, rfl⟩ : ∃ j, i = 1 + j := ⟨i - 1, by omega⟩
     rw [(run_keys hp H j (by omega)).1.a2 (by omega)]; decide
   · by_cases c2 : i < 1 + N + N
     · obtain ⟨j, rfl⟩ : ∃ j, i = 1 + N + j := ⟨i - (1 + N), by omega⟩
       rw [(run_vals hp H j (by omega)).1.a3 rfl (by omega)]; decide
     · obtain ⟨j, rfl⟩ : ∃ j, i = 1 + N + N + j := ⟨i - (1 + N + N), by omega⟩
       rw [((run_writes hp H j (by omega)).1.a4 (by omega)).1]; decide
end
/-! What the writes make of a leaf's words. -/
def insF (ix : Nat) (x : Int) (k : Nat → Int) (j : Nat) : Int := if j < ix then k j else if j = ix then x else k (j - 1)
def delF (ix : Nat) (k : Nat → Int) (j : Nat) : Int := if j < ix then k j else k (j + 1)
def stF (ix : Nat) (x : Int) (k : Nat → Int) (j : Nat) : Int := if j = ix then x else k j
structure Eff (B F : Nat) (W W' : Nat → Int) (bump : Int) (M : Nat) (k' w' : Nat → Int) : Prop where
 ver : W' B = bump
 shape : W' (B + 1) = packC false M
 link : W' (B + 2) = W (B + 2)
 keys : ∀ j, j < M → W' (B + 3 + j) = k' j
 vals : ∀ j, j < M → W' (B + 3 + F + j) = w' j
 out : ∀ a, (a < B ∨ B + 3 + 2 * F ≤ a) → W' a = W a
section
variable {cs ct cf s : Int} {B F : Nat}
theorem lay_ap (hB : (B : Int) = nodeC ct cf s) (hs : 0 ≤ s ∧ s ≤ cs) (hF : (F : Int) = cf) {j : Nat} (hj : j < F) (W : Nat → Int) (x y : Int) (a : Nat) :
   apL W (layL cs ct cf s j x y) a = if a = B + 3 + j then x else if a = B + 3 + F + j then y else W a := by
 unfold layL
 rw [keyN hB hs hF hj, valN hB hs hF hj]
 simp only [apL, yNatN, updW]
 (repeat' split) <;> first | rfl | (exfalso; omega) | (congr 1; omega)
theorem sh_ap (hB : (B : Int) = nodeC ct cf s) (hs : 0 ≤ s ∧ s ≤ cs) (hF : (F : Int) = cf) {k w : Nat → Int} {j : Nat} (W : Nat → Int) (a : Nat) : ∀ c, j + c ≤ F →
   apL W ((List.range c).flatMap fun d => layL cs ct cf s ((j + d : Nat) : Int) (k (j + d + 1)) (w (j + d + 1))) a =
     if B + 3 + j ≤ a ∧ a < B + 3 + j + c then k (a - (B + 3) + 1) else if B + 3 + F + j ≤ a ∧ a < B + 3 + F + j + c then w (a - (B + 3 + F) + 1) else W a
 | 0, _ => by
   rw [if_neg (by omega), if_neg (by omega)]; rfl
 | c + 1, hc => by
   rw [List.range_succ, List.flatMap_append, apL_app]
   simp only [List.flatMap_cons, List.flatMap_nil, List.append_nil]
   rw [lay_ap hB hs hF (j := j + c) (by omega), sh_ap hB hs hF W a c (by omega)]
   (repeat' split) <;> first | rfl | (exfalso; omega) | (congr 1; omega)
theorem dn_ap (hB : (B : Int) = nodeC ct cf s) (hs : 0 ≤ s ∧ s ≤ cs) (hF : (F : Int) = cf) {k w : Nat → Int} {n : Nat} (hn : n ≤ F) (W : Nat → Int) (a : Nat) : ∀ d, d + 1 ≤ n →
   apL W (dnL cs ct cf s k w n d) a =
     if B + 3 + (n - d) ≤ a ∧ a < B + 3 + n then k (a - (B + 3) - 1) else if B + 3 + F + (n - d) ≤ a ∧ a < B + 3 + F + n then w (a - (B + 3 + F) - 1) else W a
 | 0, _ => by
   rw [if_neg (by omega), if_neg (by omega)]; rfl
 | d + 1, hd => by
   have ih := dn_ap hB hs hF (k := k) (w := w) hn W a d (by omega)
   unfold dnL at ih ⊢
   rw [List.range_succ, List.flatMap_append, apL_app]
   simp only [List.flatMap_cons, List.flatMap_nil, List.append_nil]
   rw [lay_ap hB hs hF (j := n - 1 - d) (by omega), ih]
   (repeat' split) <;> first | rfl | (exfalso; omega) | (congr 1; omega)
theorem ap1 {W : Nat → Int} {x : Nat} {v : Int} {a : Nat} : apL W [((x : Int), v)] a = if a = x then v else W a := by
 simp only [apL, yNatN, updW]
theorem set_eff (hB : (B : Int) = nodeC ct cf s) (hs : 0 ≤ s ∧ s ≤ cs) (hF : (F : Int) = cf) {k w W : Nat → Int} {N ix : Nat} {word bump : Int} (hN : N ≤ F) (hi : ix < N)
   (h1 : W (B + 1) = packC false N) (hk : ∀ j, j < N → W (B + 3 + j) = k j) (hw : ∀ j, j < N → W (B + 3 + F + j) = w j) :
   Eff B F W (apL W [(valC cs ct cf s ix, word), (verC cs ct cf s, bump)]) bump N k (stF ix word w) := by
 have e : ∀ a, apL W [(valC cs ct cf s ix, word), (verC cs ct cf s, bump)] a = if a = B then bump else if a = B + 3 + F + ix then word else W a := fun a => by
   rw [valN hB hs hF (by omega : ix < F), verN hB hs]; simp only [apL, yNatN, updW]
 refine ⟨?_, ?_, ?_, fun j hj => ?_, fun j hj => ?_, fun a ha => ?_⟩
 · rw [e, if_pos rfl]
 · rw [e, if_neg (by omega), if_neg (by omega)]; exact h1
 · rw [e, if_neg (by omega), if_neg (by omega)]
 · rw [e, if_neg (by omega), if_neg (by omega)]; exact hk j hj
 · rw [e, if_neg (by omega)]
   unfold stF
   by_cases h : j = ix
   · rw [if_pos (by omega), if_pos h]
   · rw [if_neg (by omega), if_neg h]; exact hw j hj
 · rw [e, if_neg (by omega), if_neg (by omega)]
theorem rem_eff (hB : (B : Int) = nodeC ct cf s) (hs : 0 ≤ s ∧ s ≤ cs) (hF : (F : Int) = cf) {k w W : Nat → Int} {N ix : Nat} {bump : Int} (hN : N ≤ F) (hi : ix < N)
   (hk : ∀ j, j < N → W (B + 3 + j) = k j) (hw : ∀ j, j < N → W (B + 3 + F + j) = w j) :
   Eff B F W (apL W (cloL cs ct cf s k w 0 (fun _ => 0) (fun _ => 0) ix N ++ [(verC cs ct cf s, bump)])) bump (N - 1) (delF ix k) (delF ix w) := by
 have e : ∀ a, apL W (cloL cs ct cf s k w 0 (fun _ => 0) (fun _ => 0) ix N ++ [(verC cs ct cf s, bump)]) a =
     if a = B then bump else if a = B + 1 then packC false ((N - 1 : Nat) : Int) else if B + 3 + ix ≤ a ∧ a < B + 3 + ix + (N - 1 - ix) then k (a - (B + 3) + 1) else if B + 3 + F + ix ≤ a ∧ a < B + 3 + F + ix + (N - 1 - ix) then w (a - (B + 3 + F) + 1) else W a := fun a => by
   unfold cloL cloO shO
   rw [verN hB hs, shapeN hB hs, show ((N : Int) - 1) = ((N - 1 : Nat) : Int) by omega, apL_app, ap1, apL_app, ap1]
   rw [show prw 0 (fun _ => (0 : Int)) (fun _ => 0) = [] from rfl, List.nil_append, sh_ap hB hs hF W a (N - 1 - ix) (by omega)]
 refine ⟨?_, ?_, ?_, fun j hj => ?_, fun j hj => ?_, fun a ha => ?_⟩
 · rw [e, if_pos rfl]
 · rw [e, if_neg (by omega), if_pos rfl]
 · rw [e, if_neg (by omega), if_neg (by omega), if_neg (by omega), if_neg (by omega)]
 · rw [e, if_neg (by omega), if_neg (by omega)]
   unfold delF
   by_cases h : j < ix
   · rw [if_neg (by omega), if_neg (by omega), if_pos h]; exact hk j (by omega)
   · rw [if_pos (by omega), if_neg h]; congr 1; omega
 · rw [e, if_neg (by omega), if_neg (by omega), if_neg (by omega)]
   unfold delF
   by_cases h : j < ix
   · rw [if_neg (by omega), if_pos h]; exact hw j (by omega)
   · rw [if_pos (by omega), if_neg h]; congr 1; omega
 · rw [e, if_neg (by omega), if_neg (by omega), if_neg (by omega), if_neg (by omega)]
theorem ins_eff (hB : (B : Int) = nodeC ct cf s) (hs : 0 ≤ s ∧ s ≤ cs) (hF : (F : Int) = cf) {k w W : Nat → Int} {N ix : Nat} {key val bump : Int} (hN : N < F) (hi : ix ≤ N)
   (hk : ∀ j, j < N → W (B + 3 + j) = k j) (hw : ∀ j, j < N → W (B + 3 + F + j) = w j) :
   Eff B F W (apL W (opL cs ct cf s k w 0 (fun _ => 0) (fun _ => 0) N ix key val ++ [(verC cs ct cf s, bump)])) bump (N + 1) (insF ix key k) (insF ix val w) := by
 have e : ∀ a, apL W (opL cs ct cf s k w 0 (fun _ => 0) (fun _ => 0) N ix key val ++ [(verC cs ct cf s, bump)]) a =
     if a = B then bump else if a = B + 1 then packC false ((N + 1 : Nat) : Int) else if a = B + 3 + ix then key else if a = B + 3 + F + ix then val else if B + 3 + ix < a ∧ a ≤ B + 3 + N then k (a - (B + 3) - 1) else if B + 3 + F + ix < a ∧ a ≤ B + 3 + F + N then w (a - (B + 3 + F) - 1) else W a := fun a => by
   rw [apL_app, verN hB hs, ap1]
   by_cases hb : a = B
   · rw [if_pos hb, if_pos hb]
   rw [if_neg hb, if_neg hb]
   unfold opL
   by_cases hx : ix = N
   · subst hx
     rw [if_pos rfl, apL_app, shapeN hB hs, ap1, show prw 0 (fun _ => (0 : Int)) (fun _ => 0) = [] from rfl, List.nil_append, lay_ap hB hs hF hN]
     (repeat' split) <;> first | rfl | (exfalso; omega) | (congr 1; omega)
   · rw [if_neg hx, apL_app, lay_ap hB hs hF (j := ix) (by omega)]
     unfold opO
     rw [apL_app, show prw 0 (fun _ => (0 : Int)) (fun _ => 0) = [] from rfl, List.nil_append, dn_ap hB hs hF (by omega) _ a (N - 1 - ix) (by omega), apL_app, shapeN hB hs, ap1, lay_ap hB hs hF hN]
     (repeat' split) <;> first | rfl | (exfalso; omega) | (congr 1; omega)
 refine ⟨?_, ?_, ?_, fun j hj => ?_, fun j hj => ?_, fun a ha => ?_⟩
 · rw [e, if_pos rfl]
 · rw [e, if_neg (by omega), if_pos rfl]
 · rw [e, if_neg (by omega), if_neg (by omega), if_neg (by omega), if_neg (by omega), if_neg (by omega), if_neg (by omega)]
 · rw [e, if_neg (by omega), if_neg (by omega)]
   unfold insF
   by_cases h : j < ix
   · rw [if_neg (by omega), if_neg (by omega), if_neg (by omega), if_neg (by omega), if_pos h]; exact hk j (by omega)
   · rw [if_neg h]
     by_cases h2 : j = ix
     · rw [if_pos (by omega), if_pos h2]
     · rw [if_neg (by omega), if_neg (by omega), if_pos (by omega), if_neg h2]; congr 1; omega
 · rw [e, if_neg (by omega), if_neg (by omega), if_neg (by omega)]
   unfold insF
   by_cases h : j < ix
   · rw [if_neg (by omega), if_neg (by omega), if_neg (by omega), if_pos h]; exact hw j (by omega)
   · rw [if_neg h]
     by_cases h2 : j = ix
     · rw [if_pos (by omega), if_pos h2]
     · rw [if_neg (by omega), if_neg (by omega), if_pos (by omega), if_neg h2]; congr 1; omega
 · rw [e, if_neg (by omega), if_neg (by omega), if_neg (by omega), if_neg (by omega), if_neg (by omega), if_neg (by omega)]
end
/-! A change of a leaf, over words of which it is one, from its beginning to its end. -/
def chN (kd : Int) (N : Nat) : Nat := if kd = 2 then N + 1 else if kd = 3 then N - 1 else N
def chK (kd : Int) (ix : Nat) (key : Int) (k : Nat → Int) : Nat → Int := if kd = 2 then insF ix key k else if kd = 3 then delF ix k else k
def chV (kd : Int) (ix : Nat) (val : Int) (w : Nat → Int) : Nat → Int := if kd = 2 then insF ix val w else if kd = 3 then delF ix w else stF ix val w
def chOk (kd : Int) (is : Bool) (N : Nat) (cf : Int) : Prop := (kd = 1 ∧ is = true) ∨ (kd = 2 ∧ is = false ∧ (N : Int) < cf) ∨ (kd = 3 ∧ is = true)
def chL (cs ct cf s v kd : Int) (N : Nat) (k w : Nat → Int) (ix : Nat) (key val : Int) : List (Int × Int) :=
 if kd = 1 then [(valC cs ct cf s ix, val), (verC cs ct cf s, bumpC v)]
 else if kd = 2 then opL cs ct cf s k w 0 (fun _ => 0) (fun _ => 0) N ix key val ++ [(verC cs ct cf s, bumpC v)]
 else cloL cs ct cf s k w 0 (fun _ => 0) (fun _ => 0) ix N ++ [(verC cs ct cf s, bumpC v)]
section
variable {cs ct cf cl cp h v kd key val : Int} {N : Nat} {kf wf : Nat → Int}
theorem fits_leaf {k : Nat → Int} (hN : (N : Int) ≤ cf) (hk : Rises k N) : fitsC false N k N cf = true := fits_t.2 ⟨hN, by simp, hk⟩
theorem rises_trI (hk : Rises kf N) : Rises (trI N kf) N := fun j hj => by rw [trI_lt (by omega), trI_lt (by omega)]; exact hk j hj
theorem ch_plan (hs : 1 ≤ slotC h ∧ slotC h ≤ cs) (hN : (N : Int) ≤ cf) (hk : Rises kf N) (ok : chOk kd (isC kf key N) N cf) :
   PlOk cs ct cf h v N kd (atC kf key N) key val kf wf (chL cs ct cf (slotC h) v kd N (trI N kf) (trI N wf) (atC kf key N) key val) := by
 have hle := atC_le (k := kf) (x := key) N
 have hf := fits_leaf hN (rises_trI hk)
 refine ⟨fun E b e1 e2 e3 e4 => ?_, ?_⟩
 · unfold plE chL
   rw [b.h, b.v, b.kd, b.ix, b.key, b.val, b.nb, e1, e2, e3, e4]
   rcases ok with ⟨rfl, hi⟩ | ⟨rfl, hi, hlt⟩ | ⟨rfl, hi⟩
   · obtain ⟨i1, i2⟩ := isC_at hk hi
     rw [if_pos rfl, if_pos rfl]
     unfold setL
     rw [if_pos]
     unfold setOk
     rw [decide_eq_true_iff]
     exact ⟨hs, hf, rfl, by omega, by omega⟩
   · obtain ⟨i1, i2⟩ := isC_not hk hi
     rw [if_neg (by decide), if_pos rfl, if_neg (by decide), if_pos rfl]
     unfold insL
     rw [show yNat ((atC kf key N : Nat) : Int) = atC kf key N from by unfold yNat; omega, if_pos]
     rw [insOk_iff]
     refine ⟨hs, hf, rfl, by omega, by omega, hlt, ?_, ?_⟩
     · rcases i1 with e | e
       · exact .inl (by omega)
       · by_cases z : atC kf key N = 0
         · exact .inl (by omega)
         · right
           rw [show yNat (((atC kf key N : Nat) : Int) - 1) = atC kf key N - 1 from by unfold yNat; omega, trI_lt (by omega)]; exact e
     · rcases i2 with e | e
       · exact .inl (by omega)
       · by_cases z : atC kf key N = N
         · exact .inl (by omega)
         · right
           rw [show yNat ((atC kf key N : Nat) : Int) = atC kf key N from by unfold yNat; omega, trI_lt (by omega)]; exact e
   · obtain ⟨i1, i2⟩ := isC_at hk hi
     rw [if_neg (by decide), if_neg (by decide), if_neg (by decide), if_neg (by decide)]
     unfold remL
     rw [show yNat ((atC kf key N : Nat) : Int) = atC kf key N from by unfold yNat; omega, if_pos]
     unfold setOk
     rw [decide_eq_true_iff]
     exact ⟨hs, hf, rfl, by omega, by omega⟩
 · unfold chL
   split
   · simp
   · split <;> simp
theorem in_lay {s : Int} {B F j : Nat} {x y : Int} {p : Int × Int} (hB : (B : Int) = nodeC ct cf s) (hs : 0 ≤ s ∧ s ≤ cs) (hF : (F : Int) = cf) (hj : j < F) (hp : p ∈ layL cs ct cf s (j : Int) x y) : (B : Int) ≤ p.1 ∧ p.1 < B + 3 + 2 * F := by
 unfold layL at hp
 rw [keyN hB hs hF hj, valN hB hs hF hj] at hp
 simp only [List.mem_cons, List.not_mem_nil, or_false] at hp
 rcases hp with rfl | rfl <;> (simp only; omega)
theorem ch_in {s : Int} {B F ix : Nat} {k w : Nat → Int} {p : Int × Int} (hB : (B : Int) = nodeC ct cf s) (hs : 0 ≤ s ∧ s ≤ cs) (hF : (F : Int) = cf) (hN : N ≤ F) (h4 : 4 ≤ F)
   (hi : (kd = 1 ∧ ix < N) ∨ (kd = 2 ∧ ix ≤ N ∧ N < F) ∨ (kd = 3 ∧ ix < N)) (hp : p ∈ chL cs ct cf s v kd N k w ix key val) : (B : Int) ≤ p.1 ∧ p.1 < B + 3 + 2 * F := by
 have hv : ∀ x : Int, p = (verC cs ct cf s, x) → (B : Int) ≤ p.1 ∧ p.1 < B + 3 + 2 * F := fun x e => by rw [e, verN hB hs]; simp only; omega
 have hsh : ∀ x : Int, p = (shapeC cs ct cf s, x) → (B : Int) ≤ p.1 ∧ p.1 < B + 3 + 2 * F := fun x e => by rw [e, shapeN hB hs]; simp only; omega
 unfold chL at hp
 rcases hi with ⟨rfl, hi⟩ | ⟨rfl, hi, hl⟩ | ⟨rfl, hi⟩
 · rw [if_pos rfl, valN hB hs hF (j := ix) (by omega)] at hp
   simp only [List.mem_cons, List.not_mem_nil, or_false] at hp
   rcases hp with rfl | e
   · simp only; omega
   · exact hv _ e
 · rw [if_neg (by decide), if_pos rfl] at hp
   rw [List.mem_append, List.mem_singleton] at hp
   rcases hp with hp | e
   · unfold opL at hp
     split at hp
     · rw [show prw 0 (fun _ => (0 : Int)) (fun _ => 0) = [] from rfl, List.nil_append, List.mem_append, List.mem_singleton] at hp
       rcases hp with hp | e
       · exact in_lay hB hs hF hl hp
       · exact hsh _ e
     · rw [List.mem_append] at hp
       rcases hp with hp | hp
       · unfold opO at hp
         rw [show prw 0 (fun _ => (0 : Int)) (fun _ => 0) = [] from rfl, List.nil_append, List.mem_append, List.mem_append, List.mem_singleton] at hp
         rcases hp with (hp | e) | hp
         · exact in_lay hB hs hF hl hp
         · exact hsh _ e
         · unfold dnL at hp
           rw [List.mem_flatMap] at hp
           obtain ⟨e, he, hp⟩ := hp
           rw [List.mem_range] at he
           exact in_lay hB hs hF (by omega) hp
       · exact in_lay hB hs hF (by omega) hp
   · exact hv _ e
 · rw [if_neg (by decide), if_neg (by decide)] at hp
   rw [List.mem_append, List.mem_singleton] at hp
   rcases hp with hp | e
   · unfold cloL cloO shO at hp
     rw [show prw 0 (fun _ => (0 : Int)) (fun _ => 0) = [] from rfl, List.nil_append, List.mem_append, List.mem_singleton] at hp
     rcases hp with hp | e
     · rw [List.mem_flatMap] at hp
       obtain ⟨e, he, hp⟩ := hp
       rw [List.mem_range] at he
       exact in_lay hB hs hF (by omega) hp
     · exact hsh _ e
   · exact hv _ e
theorem lay_len {s j x y : Int} : (layL cs ct cf s j x y).length = 2 := rfl
theorem fm_len {α : Type} {f : Nat → List α} (h : ∀ i, (f i).length = 2) : ∀ n, ((List.range n).flatMap f).length = 2 * n
 | 0 => rfl
 | n + 1 => by rw [List.range_succ, List.flatMap_append, List.length_append, fm_len h n]; simp only [List.flatMap_cons, List.flatMap_nil, List.append_nil, h]; omega
theorem ch_len {s : Int} {ix : Nat} {k w : Nat → Int} (hi : ix ≤ N) : (chL cs ct cf s v kd N k w ix key val).length ≤ 2 * N + 5 := by
 unfold chL
 split
 · simp only [List.length_cons, List.length_nil]; omega
 · split
   · unfold opL
     split
     · simp only [List.length_append, prw_len, lay_len, List.length_cons, List.length_nil]; omega
     · unfold opO dnL
       simp only [List.length_append, prw_len, lay_len, List.length_cons, List.length_nil]
       rw [fm_len (fun _ => rfl)]; omega
   · unfold cloL cloO shO
     simp only [List.length_append, prw_len, List.length_cons, List.length_nil]
     rw [fm_len (fun _ => rfl)]; omega
end
structure Leaf (B F : Nat) (v : Int) (N : Nat) (kf wf W : Nat → Int) : Prop where
 ver : W B = v
 shape : W (B + 1) = packC false N
 keys : ∀ j, j < N → W (B + 3 + j) = kf j
 vals : ∀ j, j < N → W (B + 3 + F + j) = wf j
def chT (cs ct cf h v kd : Int) (N : Nat) (kf wf : Nat → Int) (key val : Int) : Nat := 1 + N + N + (chL cs ct cf (slotC h) v kd N (trI N kf) (trI N wf) (atC kf key N) key val).length
theorem ch_end {cs ct cf h v kd key val : Int} {N n B F : Nat} {kf wf w0 : Nat → Int} (hs : 1 ≤ slotC h ∧ slotC h ≤ cs) (hB : (B : Int) = nodeC ct cf (slotC h)) (hF : (F : Int) = cf) (h4 : 4 ≤ F) (hn : B + 3 + 2 * F ≤ n) (hN : N ≤ F) (hk : Rises kf N)
   (ok : chOk kd (isC kf key N) N cf) (hl : Leaf B F v N kf wf w0) (x : Nat → EmI) (hx : x = runM cs ct cf n (x0M h v N kd (atC kf key N) key val w0)) (T : Nat) (hT : T = chT cs ct cf h v kd N kf wf key val) :
   (x T).e.at_ = 0 ∧ (x T).po = 1 ∧ oldE (x T).e (x T).po = (if kd = 2 then 0 else wf (atC kf key N)) ∧ T ≤ 6 * F + 9 ∧ (∀ i, i < T → (x i).e.at_ ≠ 0) ∧
   (x T).w B = bumpC v ∧ (x T).w (B + 1) = packC false (chN kd N) ∧ (x T).w (B + 2) = w0 (B + 2) ∧ (∀ j, j < chN kd N → (x T).w (B + 3 + j) = chK kd (atC kf key N) key kf j) ∧ (∀ j, j < chN kd N → (x T).w (B + 3 + F + j) = chV kd (atC kf key N) val wf j) ∧ (∀ a, (a < B ∨ B + 3 + 2 * F ≤ a) → (x T).w a = w0 a) := by
 have hs0 : 0 ≤ slotC h ∧ slotC h ≤ cs := by omega
 have hle := atC_le (k := kf) (x := key) N
 have hNc : (N : Int) ≤ cf := by omega
 have hp : PlOk cs ct cf h v N kd (atC kf key N) key val kf wf _ := ch_plan (val := val) (ct := ct) (v := v) (wf := wf) hs hNc hk ok
 have hix : (kd = 1 ∧ atC kf key N < N) ∨ (kd = 2 ∧ atC kf key N ≤ N ∧ N < F) ∨ (kd = 3 ∧ atC kf key N < N) := by
   rcases ok with ⟨e, hi⟩ | ⟨e, hi, hlt⟩ | ⟨e, hi⟩
   · exact .inl ⟨e, (isC_at hk hi).1⟩
   · exact .inr (.inl ⟨e, hle, by omega⟩)
   · exact .inr (.inr ⟨e, (isC_at hk hi).1⟩)
 have eV := verN hB hs0
 have H : Hyp cs ct cf h v N n kf wf (chL cs ct cf (slotC h) v kd N (trI N kf) (trI N wf) (atC kf key N) key val) w0 := by
   refine ⟨by rw [eV]; omega, by rw [eV, yNatN]; exact hl.ver, fun i hi => ?_, fun i hi => ?_, fun p hp2 => ?_⟩
   · rw [keyN hB hs0 hF (j := i) (by omega), eV, yNatN, yNatN]
     refine ⟨by omega, by omega, ?_⟩
     unfold updW; rw [if_neg (by omega)]; exact hl.keys i hi
   · rw [valN hB hs0 hF (j := i) (by omega), eV, yNatN, yNatN]
     refine ⟨by omega, by omega, ?_⟩
     unfold updW; rw [if_neg (by omega)]; exact hl.vals i hi
   · have := ch_in hB hs0 hF hN h4 hix hp2; omega
 obtain ⟨r, q⟩ := run_end hp H
 have on := fun {i : Nat} (hi : i < _) => run_on hp H (i := i) hi
 have hlen := ch_len (cs := cs) (ct := ct) (cf := cf) (v := v) (kd := kd) (key := key) (val := val) (s := slotC h) (k := trI N kf) (w := trI N wf) hle
 have eT : T = 1 + N + N + (chL cs ct cf (slotC h) v kd N (trI N kf) (trI N wf) (atC kf key N) key val).length := hT
 rw [← hx, ← eT] at r q
 obtain ⟨a0, po⟩ := r.a0 (Nat.le_refl _)
 have w1 : w1M cs ct cf h v w0 = updW w0 B (lockC v) := by unfold w1M; rw [eV, yNatN]
 rw [w1] at q
 have ww : ∀ a, a ≠ B → updW w0 B (lockC v) a = w0 a := fun a ha => by unfold updW; rw [if_neg ha]
 have h1 : updW w0 B (lockC v) (B + 1) = packC false N := by rw [ww _ (by omega)]; exact hl.shape
 have h2 : ∀ j, j < N → updW w0 B (lockC v) (B + 3 + j) = trI N kf j := fun j hj => by rw [ww _ (by omega), trI_lt hj]; exact hl.keys j hj
 have h3 : ∀ j, j < N → updW w0 B (lockC v) (B + 3 + F + j) = trI N wf j := fun j hj => by rw [ww _ (by omega), trI_lt hj]; exact hl.vals j hj
 have fin : ∀ M k' w', Eff B F (updW w0 B (lockC v)) (x T).w (bumpC v) M k' w' → (x T).w B = bumpC v ∧ (x T).w (B + 1) = packC false M ∧ (x T).w (B + 2) = w0 (B + 2) ∧ (∀ j, j < M → (x T).w (B + 3 + j) = k' j) ∧ (∀ j, j < M → (x T).w (B + 3 + F + j) = w' j) ∧ (∀ a, (a < B ∨ B + 3 + 2 * F ≤ a) → (x T).w a = w0 a) :=
   fun M k' w' e => ⟨e.ver, e.shape, by rw [e.link, ww _ (by omega)], e.keys, e.vals, fun a ha => by rw [e.out a ha, ww _ (by omega)]⟩
 refine ⟨a0, po, ?_, by omega, fun i hi => by rw [hx]; exact on (by omega), ?_⟩
 · unfold oldE
   rw [a0, po, r.b.kd, r.b.ix, r.w]
   rcases hix with ⟨rfl, hi⟩ | ⟨rfl, hi, hl2⟩ | ⟨rfl, hi⟩
   · rw [if_pos ⟨rfl, rfl, by decide⟩, if_neg (by decide), yNatN, trI_lt hi]
   · rw [if_neg (by rintro ⟨_, _, h⟩; exact h rfl), if_pos rfl]
   · rw [if_pos ⟨rfl, rfl, by decide⟩, if_neg (by decide), yNatN, trI_lt hi]
 · rcases hix with ⟨rfl, hi⟩ | ⟨rfl, hi, hl2⟩ | ⟨rfl, hi⟩
   · have e := set_eff (word := val) (bump := bumpC v) hB hs0 hF hN hi h1 h2 h3
     have q' : (x T).w = apL (updW w0 B (lockC v)) [(valC cs ct cf (slotC h) (atC kf key N), val), (verC cs ct cf (slotC h), bumpC v)] := by rw [q]; unfold chL; rw [if_pos rfl]
     rw [← q'] at e
     obtain ⟨f1, f2, f3, f4, f5, f6⟩ := fin _ _ _ e
     refine ⟨f1, f2, f3, fun j hj => ?_, fun j hj => ?_, f6⟩
     · have hj : j < N := hj
       rw [f4 j hj, trI_lt hj]; rfl
     · rw [f5 j hj]; show stF _ _ _ j = stF _ _ _ j
       have hj : j < N := hj
       unfold stF; rw [trI_lt hj]
   · have e := ins_eff (key := key) (val := val) (bump := bumpC v) hB hs0 hF hl2 hi h2 h3
     have q' : (x T).w = apL (updW w0 B (lockC v)) (opL cs ct cf (slotC h) (trI N kf) (trI N wf) 0 (fun _ => 0) (fun _ => 0) N (atC kf key N) key val ++ [(verC cs ct cf (slotC h), bumpC v)]) := by rw [q]; unfold chL; rw [if_neg (by decide), if_pos rfl]
     rw [← q'] at e
     obtain ⟨f1, f2, f3, f4, f5, f6⟩ := fin _ _ _ e
     have tri : ∀ (y : Int) (f : Nat → Int) (j : Nat), j < N + 1 → insF (atC kf key N) y (trI N f) j = insF (atC kf key N) y f j := fun y f j hj => by
       unfold insF
       by_cases c1 : j < atC kf key N
       · rw [if_pos c1, if_pos c1, trI_lt (by omega)]
       · rw [if_neg c1, if_neg c1]
         by_cases c2 : j = atC kf key N
         · rw [if_pos c2, if_pos c2]
         · rw [if_neg c2, if_neg c2, trI_lt (by omega)]
     exact ⟨f1, f2, f3, fun j hj => by rw [f4 j hj]; exact tri _ _ _ hj, fun j hj => by rw [f5 j hj]; exact tri _ _ _ hj, f6⟩
   · have e := rem_eff (bump := bumpC v) hB hs0 hF hN hi h2 h3
     have q' : (x T).w = apL (updW w0 B (lockC v)) (cloL cs ct cf (slotC h) (trI N kf) (trI N wf) 0 (fun _ => 0) (fun _ => 0) (atC kf key N) N ++ [(verC cs ct cf (slotC h), bumpC v)]) := by rw [q]; unfold chL; rw [if_neg (by decide), if_neg (by decide)]
     rw [← q'] at e
     obtain ⟨f1, f2, f3, f4, f5, f6⟩ := fin _ _ _ e
     have tri : ∀ (f : Nat → Int) (j : Nat), j < N - 1 → delF (atC kf key N) (trI N f) j = delF (atC kf key N) f j := fun f j hj => by
       unfold delF
       split
       · rw [trI_lt (by omega)]
       · rw [trI_lt (by omega)]
     exact ⟨f1, f2, f3, fun j hj => by rw [f4 j hj]; exact tri _ _ hj, fun j hj => by rw [f5 j hj]; exact tri _ _ hj, f6⟩
end Go.Proofs.YtinijejfhmcmdaaGreatDoor.Ex
end
section
namespace Go.Proofs.YtinijejfhmcmdaaGreatDoor.Ex
open Go
def fNw (ds : List Dx) : Option (Bool × Dx × List (List Dx)) :=
 match ds with
 | [.l [.v (.y .i64 s), .v (.y .i64 t), .v (.y .i64 f), .v (.y .i64 l), .v (.y .i64 p)]] => some (rightC s t f l p, .rows false (sizeN s t f) [.int .u64 (newW s t f)], [])
 | _ => none
def fPt (ds : List Dx) : Option (Bool × Dx × List (List Dx)) :=
 match ds with
 | [.l [.v (.y .i64 s), .v (.y .i64 t), .v (.y .i64 f), .v (.y .i64 l), .v (.y .i64 p)], .rows mn n [.int .u64 w], .v (.y .i64 slot), .l [.v (.yb i), .rows _ nk [.int .u64 k], .rows _ nv [.int .u64 v], .v (.y .u64 link)]] =>
   some (prePt s t f l p slot n nk nv, .l [], [[.rows mn n [.int .u64 (putW t f slot i nk k nv v link w)]]])
 | _ => none
def fDo (ds : List Dx) : Option (Bool × Dx × List (List Dx)) :=
 match ds with
 | [.rows mn n [.int .u64 w], .l [.v (.y .i64 k), .v (.y .i64 a), .v (.y .u64 o), .v (.y .u64 v)]] => some (yNle n 1000000, .v (.y .u64 (doR k a o n w)), [[.rows mn n [.int .u64 (doW k a o v n w)]]])
 | _ => none
def fCp (ds : List Dx) : Option (Bool × Dx × List (List Dx)) :=
 match ds with
 | [.rows _ n [.int .u64 w]] => some (yNle n 1000000, .rows false n [.int .u64 w], [])
 | _ => none
def fNd (ds : List Dx) : Option (Bool × Dx × List (List Dx)) :=
 match ds with
 | [.l [.v (.y .i64 s), .v (.y .i64 t), .v (.y .i64 f), .v (.y .i64 l), .v (.y .i64 p)], .rows _ n [.int .u64 w], .v (.y .i64 slot)] =>
   some (preNd s t f l p slot n w, dNo (ndI t f slot w) (yNeq (ndM (ndI t f slot w) (ndN t f slot w)) 0) (ndM (ndI t f slot w) (ndN t f slot w)) (ndK t f slot w) (yNeq (ndN t f slot w) 0) (ndN t f slot w) (ndVl t f slot w) (ndL t f slot w), [])
 | _ => none
def fPu (ds : List Dx) : Option (Bool × Dx × List (List Dx)) :=
 match ds with
 | [.l [.v (.yb _), .rows _ n [.int .u64 k], .rows _ n' [.int .u64 w], .v (.y .u64 l)], .v (.y .u64 x), .v (.y .u64 y)] =>
   some (yAnd (yAnd (yNle n 64) (yNeq n n')) (risesB k n), dNo false (yNeq (putN (isC k x n) n) 0) (putN (isC k x n) n) (putK (isC k x n) (atC k x n) x k) (yNeq (putN (isC k x n) n) 0) (putN (isC k x n) n) (putK (isC k x n) (atC k x n) y w) l, [])
 | _ => none
def fDr (ds : List Dx) : Option (Bool × Dx × List (List Dx)) :=
 match ds with
 | [.l [.v (.yb _), .rows _ n [.int .u64 k], .rows _ n' [.int .u64 w], .v (.y .u64 l)], .v (.y .u64 x)] =>
   some (yAnd (yAnd (yNle n 64) (yNeq n n')) (risesB k n), dNo false (yNeq (drN (isC k x n) n) 0) (drN (isC k x n) n) (drK (isC k x n) (atC k x n) k) (yNeq (drN (isC k x n) n) 0) (drN (isC k x n) n) (drK (isC k x n) (atC k x n) w) l, [])
 | _ => none
def fFitL (ds : List Da) : Option (Bool × AV) :=
 match ds with
 | [.agg [.v (.yb inner), .rows _ nk [.int .u64 kf], .rows _ nv [.int .u64 _], .v (.y .u64 _)], .cell (.v (.y .i64 fan))] => some (yAnd (yNot inner) (yLe fan 64), .yb (fitsC inner nk kf nv fan))
 | _ => none
def goalFitL : Prop := ∀ (inner nilk : Bool) (nk : Nat) (kf : Nat → Int) (nilv : Bool) (nv : Nat) (vf : Nat → Int) (link fan : Int), yAnd (yNot inner) (yLe fan 64) = true →
 wxF Tryz.prog noSm (annFitsR nk kf) 1000 7 (canA gFits (dFits inner nilk nk kf nilv nv vf link fan) []).1 (heapOf (canA gFits (dFits inner nilk nk kf nilv nv vf link fan) []).2) (fun v _ => cmpC (.yb (fitsC inner nk kf nv fan)) v)
def goalFitLV : Prop := (∀ (inner nilk : Bool) (nk : Nat) (kf : Nat → Int) (nilv : Bool) (nv : Nat) (vf : Nat → Int) (link fan : Int), yAnd (yNot inner) (yLe fan 64) = true → (yLt fan (yInt nv) = true → fitsC inner nk kf nv fan = false) ∧ (yLt fan (yInt nv) = false → (inner = true → (yNot (yEq (yInt nv) (yWrap IntKind.i64 (yAdd (yInt nk) 1))) = true → fitsC inner nk kf nv fan = false) ∧ (yNot (yEq (yInt nv) (yWrap IntKind.i64 (yAdd (yInt nk) 1))) = false → (yNot inner = true → (yNot (yEq (yInt nv) (yInt nk)) = true → fitsC inner nk kf nv fan = false) ∧ (yNot (yEq (yInt nv) (yInt nk)) = false → true = true ∧ (∃ (i0 : Nat), prFitR nk kf i0 ∧ true = true ∧ yInt i0 = (1 : Int) ∧ true = true) ∧ ∀ (g : Nat → AV) (i : Nat), prFitR nk kf i → (yLt (yInt i) (yInt nk) = true → mst (yIn (yInt i) nk) (mst (yNlt (yNadd 0 (yNat (yInt i))) nk) (mst (yIn (yWrap IntKind.i64 (ySub (yInt i) 1)) nk) (mst (yNlt (yNadd 0 (yNat (yWrap IntKind.i64 (ySub (yInt i) 1)))) nk) ((yLe (kf (yNadd 0 (yNat (yInt i)))) (kf (yNadd 0 (yNat (yWrap IntKind.i64 (ySub (yInt i) 1))))) = true → fitsC inner nk kf nv fan = false) ∧ (yLe (kf (yNadd 0 (yNat (yInt i)))) (kf (yNadd 0 (yNat (yWrap IntKind.i64 (ySub (yInt i) 1))))) = false → true = true ∧ ∃ (i' : Nat), prFitR nk kf i' ∧ Nat.succ (msFit nk i') ≤ msFit nk i ∧ true = true ∧ yInt i' = yWrap IntKind.i64 (yAdd (yInt i) 1) ∧ true = true)))))) ∧ (yLt (yInt i) (yInt nk) = false → fitsC inner nk kf nv fan = true))) ∧ (yNot inner = false → true = true ∧ (∃ (i0 : Nat), prFitR nk kf i0 ∧ true = true ∧ yInt i0 = (1 : Int) ∧ true = true) ∧ ∀ (g : Nat → AV) (i : Nat), prFitR nk kf i → (yLt (yInt i) (yInt nk) = true → mst (yIn (yInt i) nk) (mst (yNlt (yNadd 0 (yNat (yInt i))) nk) (mst (yIn (yWrap IntKind.i64 (ySub (yInt i) 1)) nk) (mst (yNlt (yNadd 0 (yNat (yWrap IntKind.i64 (ySub (yInt i) 1)))) nk) ((yLe (kf (yNadd 0 (yNat (yInt i)))) (kf (yNadd 0 (yNat (yWrap IntKind.i64 (ySub (yInt i) 1))))) = true → fitsC inner nk kf nv fan = false) ∧ (yLe (kf (yNadd 0 (yNat (yInt i)))) (kf (yNadd 0 (yNat (yWrap IntKind.i64 (ySub (yInt i) 1))))) = false → true = true ∧ ∃ (i' : Nat), prFitR nk kf i' ∧ Nat.succ (msFit nk i') ≤ msFit nk i ∧ true = true ∧ yInt i' = yWrap IntKind.i64 (yAdd (yInt i) 1) ∧ true = true)))))) ∧ (yLt (yInt i) (yInt nk) = false → fitsC inner nk kf nv fan = true)))) ∧ (inner = false → (yNot inner = true → (yNot (yEq (yInt nv) (yInt nk)) = true → fitsC inner nk kf nv fan = false) ∧ (yNot (yEq (yInt nv) (yInt nk)) = false → true = true ∧ (∃ (i0 : Nat), prFitR nk kf i0 ∧ true = true ∧ yInt i0 = (1 : Int) ∧ true = true) ∧ ∀ (g : Nat → AV) (i : Nat), prFitR nk kf i → (yLt (yInt i) (yInt nk) = true → mst (yIn (yInt i) nk) (mst (yNlt (yNadd 0 (yNat (yInt i))) nk) (mst (yIn (yWrap IntKind.i64 (ySub (yInt i) 1)) nk) (mst (yNlt (yNadd 0 (yNat (yWrap IntKind.i64 (ySub (yInt i) 1)))) nk) ((yLe (kf (yNadd 0 (yNat (yInt i)))) (kf (yNadd 0 (yNat (yWrap IntKind.i64 (ySub (yInt i) 1))))) = true → fitsC inner nk kf nv fan = false) ∧ (yLe (kf (yNadd 0 (yNat (yInt i)))) (kf (yNadd 0 (yNat (yWrap IntKind.i64 (ySub (yInt i) 1))))) = false → true = true ∧ ∃ (i' : Nat), prFitR nk kf i' ∧ Nat.succ (msFit nk i') ≤ msFit nk i ∧ true = true ∧ yInt i' = yWrap IntKind.i64 (yAdd (yInt i) 1) ∧ true = true)))))) ∧ (yLt (yInt i) (yInt nk) = false → fitsC inner nk kf nv fan = true))) ∧ (yNot inner = false → true = true ∧ (∃ (i0 : Nat), prFitR nk kf i0 ∧ true = true ∧ yInt i0 = (1 : Int) ∧ true = true) ∧ ∀ (g : Nat → AV) (i : Nat), prFitR nk kf i → (yLt (yInt i) (yInt nk) = true → mst (yIn (yInt i) nk) (mst (yNlt (yNadd 0 (yNat (yInt i))) nk) (mst (yIn (yWrap IntKind.i64 (ySub (yInt i) 1)) nk) (mst (yNlt (yNadd 0 (yNat (yWrap IntKind.i64 (ySub (yInt i) 1)))) nk) ((yLe (kf (yNadd 0 (yNat (yInt i)))) (kf (yNadd 0 (yNat (yWrap IntKind.i64 (ySub (yInt i) 1))))) = true → fitsC inner nk kf nv fan = false) ∧ (yLe (kf (yNadd 0 (yNat (yInt i)))) (kf (yNadd 0 (yNat (yWrap IntKind.i64 (ySub (yInt i) 1))))) = false → true = true ∧ ∃ (i' : Nat), prFitR nk kf i' ∧ Nat.succ (msFit nk i') ≤ msFit nk i ∧ true = true ∧ yInt i' = yWrap IntKind.i64 (yAdd (yInt i) 1) ∧ true = true)))))) ∧ (yLt (yInt i) (yInt nk) = false → fitsC inner nk kf nv fan = true)))))
theorem goalFitL_eq : goalFitL = goalFitLV := by kernel_rfl
set_option maxHeartbeats 8000000 in
theorem goalFitL_vc : goalFitLV := by
 unfold goalFitLV
 intro inner nilk nk kf nilv nv vf link fan hb
 simp only [vS, forall_const, prFitR, msFit] at hb ⊢
 obtain ⟨rfl, hb⟩ := hb
 simp only [vS, forall_const, fits_t, fits_f, if_true, if_false, Bool.false_eq_true]
 all_goals repeat' (first | apply And.intro | intro (_ : Nat → AV) i hi | intro _)
 all_goals (try simp (disch := omega) only [wrap64, yNatSub] at *)
 all_goals first
   | omega
   | exact ⟨1, ⟨Nat.le_refl _, .inr rfl, fun j hj => by omega⟩, rfl⟩
   | (refine ⟨i + 1, ⟨by omega, by omega, hi.2.2.step fun h => by omega⟩, by omega, by omega⟩; done)
   | (exact absurd (‹(nv : Int) ≤ fan ∧ _ ∧ Rises kf nk›).2.2 (Rises.not (i := i) (by omega) (by omega) (by omega)))
   | exact hi.2.2 _ (by omega)
   | (trace_state; fail)
theorem goalFitL_tt : (goalFitL) = True := goalFitL_eq.trans (eq_true goalFitL_vc)
theorem goalFitL_ok : goalFitL := @ft' goalFitL goalFitL_tt
theorem smFitL (hm : Tryz.prog.follows .mixedOrders = true) : SmCall Tryz.prog 7 (fun args h => (ctS gFits fFitL args h).sel) :=
 ctS_ok hm noSm_ok (by decide) (fun ds a hd => by
   unfold fFitL at hd
   split at hd
   · rename_i inner nilk nk kf nilv nv vf link fan
     simp only [Option.some.injEq, Prod.mk.injEq] at hd
     obtain ⟨h1, rfl⟩ := hd
     have g := @goalFitL_ok
     unfold goalFitL at g
     exact ⟨annFitsR nk kf, 1000, @g inner nilk nk kf nilv nv vf link fan h1⟩
   · cases hd)
theorem smWrgT (hm : Tryz.prog.follows .mixedOrders = true) : SmCall Tryz.prog 5 (fun args h => (ctS gConf fWrongT args h).sel) :=
 ctS_weak (smWrong hm) (fun ds a h => by
   unfold fWrongT at h
   split at h
   · rename_i s t f l p
     simp only [Option.some.injEq, Prod.mk.injEq] at h
     obtain ⟨h1, rfl⟩ := h
     refine ⟨_, rfl, fun M u hu => ?_⟩
     have e : wrongC s t f l p = -1 := by
       have h2 := rightC_iff.1 h1
       unfold wrongC
       (repeat' split) <;> omega
     rw [e] at hu
     exact hu
   · cases h)
theorem lMe0_ok (hm : Tryz.prog.follows .mixedOrders = true) : SmAll Tryz.prog lMe0 := ⟨smWrgT hm, trivial⟩
theorem smSz (hm : Tryz.prog.follows .mixedOrders = true) : SmCall Tryz.prog 6 (fun args h => (ctS gConf fSz args h).sel) :=
 ctS_ok hm (smL_ok (lMe0_ok hm)) (by decide) (fun ds a hd => by
   unfold fSz at hd
   split at hd
   · rename_i s t f l p
     simp only [Option.some.injEq, Prod.mk.injEq] at hd
     obtain ⟨h1, rfl⟩ := hd
     have g := @goalSz_ok
     unfold goalSz at g
     exact ⟨fun _ => none, 1000, @g s t f l p h1⟩
   · cases hd)
theorem smN8 (hm : Tryz.prog.follows .mixedOrders = true) : SmCall Tryz.prog 27 (fun args h => (ctS gL1 fN8 args h).sel) :=
 ctS_ok hm noSm_ok (by decide) (fun ds a hd => by
   unfold fN8 at hd
   split at hd
   · rename_i s t f l p slot
     simp only [Option.some.injEq, Prod.mk.injEq] at hd
     obtain ⟨h1, rfl⟩ := hd
     have g := @goalN8_ok
     unfold goalN8 at g
     exact ⟨fun _ => none, 1000, @g s t f l p slot h1⟩
   · cases hd)
theorem smWd (hm : Tryz.prog.follows .mixedOrders = true) : SmCall Tryz.prog 11 (fun args h => (ctS gWd fWd args h).sel) :=
 ctS_ok hm noSm_ok (by decide) (fun ds a hd => by
   unfold fWd at hd
   split at hd
   · rename_i l d c gg
     simp only [Option.some.injEq, Prod.mk.injEq] at hd
     obtain ⟨h1, rfl⟩ := hd
     have g := @goalWd_ok
     unfold goalWd at g
     exact ⟨fun _ => none, 1000, @g l d c gg h1⟩
   · cases hd)
theorem smEn (hm : Tryz.prog.follows .mixedOrders = true) : SmCall Tryz.prog 55 (fun args h => (ctS gEnt fEn args h).sel) :=
 ctS_ok hm noSm_ok (by decide) (fun ds a hd => by
   unfold fEn at hd
   split at hd
   · rename_i w f
     simp only [Option.some.injEq, Prod.mk.injEq] at hd
     obtain ⟨h1, rfl⟩ := hd
     have g := @goalEn_ok
     unfold goalEn at g
     exact ⟨fun _ => none, 1000, @g w f h1⟩
   · cases hd)
theorem smIn (hm : Tryz.prog.follows .mixedOrders = true) : SmCall Tryz.prog 56 (fun args h => (ctS gW fIn args h).sel) :=
 ctS_ok hm noSm_ok (by decide) (fun ds a hd => by
   unfold fIn at hd
   split at hd
   · rename_i w
     simp only [Option.some.injEq, Prod.mk.injEq] at hd
     obtain ⟨h1, rfl⟩ := hd
     have g := @goalIn_ok
     unfold goalIn at g
     exact ⟨fun _ => none, 1000, @g w h1⟩
   · cases hd)
theorem smWs (hm : Tryz.prog.follows .mixedOrders = true) : SmCall Tryz.prog 54 (fun args h => (ctS gWs fWs args h).sel) :=
 ctS_ok hm noSm_ok (by decide) (fun ds a hd => by
   unfold fWs at hd
   split at hd
   · rename_i an n a bn m b
     simp only [Option.some.injEq, Prod.mk.injEq] at hd
     obtain ⟨h1, rfl⟩ := hd
     have g := @goalWs_ok
     unfold goalWs at g
     exact ⟨annWs n a b, 1000, @g an n a bn m b h1⟩
   · cases hd)
theorem lWs_ok (hm : Tryz.prog.follows .mixedOrders = true) : SmAll Tryz.prog lWs := ⟨smWs hm, trivial⟩
theorem smNN (hm : Tryz.prog.follows .mixedOrders = true) : SmCall Tryz.prog 24 (fun args h => (ctS gNN fNN args h).sel) :=
 ctS_ok hm (smL_ok (lWs_ok hm)) (by decide) (fun ds a hd => by
   unfold fNN at hd
   split at hd
   · rename_i i kn nk k vn nv v l i' kn' nk' k' vn' nv' v' l'
     simp only [Option.some.injEq, Prod.mk.injEq] at hd
     obtain ⟨h1, rfl⟩ := hd
     have g := @goalNN_ok
     unfold goalNN at g
     exact ⟨fun _ => none, 1000, @g i kn nk k vn nv v l i' kn' nk' k' vn' nv' v' l' h1⟩
   · cases hd)
theorem lMe_ok (hm : Tryz.prog.follows .mixedOrders = true) : SmAll Tryz.prog lMe := ⟨smVerR hm, smR1 hm @goalShpR_ok, smR1 hm @goalLk8_ok, smR2 hm @goalKeyR_ok, smValR hm, smPk hm @goalPackR_ok, smSz hm, trivial⟩
theorem lNw_ok (hm : Tryz.prog.follows .mixedOrders = true) : SmAll Tryz.prog lNw := ⟨smWd hm, lMe_ok hm⟩
theorem lNd_ok (hm : Tryz.prog.follows .mixedOrders = true) : SmAll Tryz.prog lNd := ⟨smEn hm, smIn hm, lMe_ok hm⟩
theorem smNw (hm : Tryz.prog.follows .mixedOrders = true) : SmCall Tryz.prog 9 (fun args h => (ctX [sConf] ownU fNw args h).sel) :=
 ctX_ok hm (smL_ok (lNw_ok hm)) (fun ds r post h => by
   unfold fNw at h
   split at h
   · rename_i s t f l p
     simp only [Option.some.injEq, Prod.mk.injEq] at h
     obtain ⟨h1, rfl, rfl⟩ := h
     have g := @goalNw_ok
     unfold goalNw at g
     exact ⟨annNw s t f, 1000, @g s t f l p h1⟩
   · cases h)
theorem smPt (hm : Tryz.prog.follows .mixedOrders = true) : SmCall Tryz.prog 10 (fun args h => (ctX [sConf, mutU, .sc, sNdP] (.tup []) fPt args h).sel) :=
 ctX_ok hm (smL_ok (lMe_ok hm)) (fun ds r post h => by
   unfold fPt at h
   split at h
   · rename_i s t f l p mn n w slot i kn nk k vn nv v link
     simp only [Option.some.injEq, Prod.mk.injEq] at h
     obtain ⟨h1, rfl, rfl⟩ := h
     have g := @goalPt_ok
     unfold goalPt at g
     exact ⟨_, 1000, @g s t f l p slot mn n w i kn nk k vn nv v link h1⟩
   · cases h)
theorem smDo (hm : Tryz.prog.follows .mixedOrders = true) : SmCall Tryz.prog 22 (fun args h => (ctX [mutU, rW4] .sc fDo args h).sel) :=
 ctX_ok hm noSm_ok (fun ds r post h => by
   unfold fDo at h
   split at h
   · rename_i mn n w k a o v
     simp only [Option.some.injEq, Prod.mk.injEq] at h
     obtain ⟨h1, rfl, rfl⟩ := h
     have g := @goalDo_ok
     unfold goalDo at g
     exact ⟨fun _ => none, 1000, @g mn n w k a o v h1⟩
   · cases h)
theorem smCp (hm : Tryz.prog.follows .mixedOrders = true) : SmCall Tryz.prog 16 (fun args h => (ctX [roU] plU fCp args h).sel) :=
 ctX_ok hm noSm_ok (fun ds r post h => by
   unfold fCp at h
   split at h
   · rename_i mn n w
     simp only [Option.some.injEq, Prod.mk.injEq] at h
     obtain ⟨h1, rfl, rfl⟩ := h
     have g := @goalCp_ok
     unfold goalCp at g
     exact ⟨fun _ => none, 1000, @g mn n w h1⟩
   · cases h)
theorem smNd (hm : Tryz.prog.follows .mixedOrders = true) : SmCall Tryz.prog 25 (fun args h => (ctX [sConf, roU, .sc] sNdP fNd args h).sel) :=
 ctX_ok hm (smL_ok (lNd_ok hm)) (fun ds r post h => by
   unfold fNd at h
   split at h
   · rename_i s t f l p mn n w slot
     simp only [Option.some.injEq, Prod.mk.injEq] at h
     obtain ⟨h1, rfl, rfl⟩ := h
     have g := @goalNd_ok
     unfold goalNd at g
     exact ⟨_, 1000, @g s t f l p slot mn n w h1⟩
   · cases h)
theorem smFd (hm : Tryz.prog.follows .mixedOrders = true) : SmCall Tryz.prog 13 (fun args h => (ctX [sNdR, .sc] (.tup [.sc, .sc]) fFd args h).sel) :=
 ctX_ok hm noSm_ok (fun ds r post h => by
   unfold fFd at h
   split at h
   · rename_i i kn nk k vn nv v l x
     simp only [Option.some.injEq, Prod.mk.injEq] at h
     obtain ⟨h1, rfl, rfl⟩ := h
     have g := @goalFd_ok
     unfold goalFd at g
     exact ⟨_, 1000, @g i kn nk k vn nv v l x h1⟩
   · cases h)
def fFdL (b : Bool) (ds : List Dx) : Option (Bool × Dx × List (List Dx)) :=
 match ds with
 | [.l [.v (.yb _), .rows _ nk [.int .u64 k], .rows _ _ [.int .u64 _], .v (.y .u64 _)], .v (.y .u64 x)] => some (yAnd (yNle nk 1000000) (yIff (isC k x nk) b), .l [.v (.y .i64 (yInt (atC k x nk))), .v (.b b)], [])
 | _ => none
def goalFdT : Prop := ∀ (i kn : Bool) (nk : Nat) (k : Nat → Int) (vn : Bool) (nv : Nat) (v : Nat → Int) (l x : Int), yNle nk 1000000 = true → isC k x nk = true →
 wxP Tryz.prog noSm (annFd nk k x) 13 [sNdR, .sc] [dNo i kn nk k vn nv v l, .v (.y .u64 x)] (.tup [.sc, .sc]) (.l [.v (.y .i64 (yInt (atC k x nk))), .v (.b true)]) []
def goalFdF : Prop := ∀ (i kn : Bool) (nk : Nat) (k : Nat → Int) (vn : Bool) (nv : Nat) (v : Nat → Int) (l x : Int), yNle nk 1000000 = true → isC k x nk = false →
 wxP Tryz.prog noSm (annFd nk k x) 13 [sNdR, .sc] [dNo i kn nk k vn nv v l, .v (.y .u64 x)] (.tup [.sc, .sc]) (.l [.v (.y .i64 (yInt (atC k x nk))), .v (.b false)]) []
def goalFdTV : Prop := (∀ (i kn : Bool) (nk : Nat) (k : Nat → Int) (vn : Bool) (nv : Nat) (v : Nat → Int) (l x : Int), yNle nk (nat_lit 1000000) = true → isC k x nk = true → true = true ∧ (∃ (i0 : Nat), prFd nk i0 ∧ true = true ∧ yInt (atC k x i0) = (0 : Int) ∧ isC k x i0 = false ∧ yInt i0 = (0 : Int) ∧ true = true) ∧ ∀ (g : Nat → AV) (i : Nat), prFd nk i → (yLt (yInt i) (yInt nk) = true → mst (yIn (yInt i) nk) (mst (yNlt (yNadd 0 (yNat (yInt i))) nk) ((yLt (k (yNadd 0 (yNat (yInt i)))) x = true → mst (yIn (yInt i) nk) (mst (yNlt (yNadd 0 (yNat (yInt i))) nk) ((yEq (k (yNadd 0 (yNat (yInt i)))) x = true → true = true ∧ ∃ (i' : Nat), prFd nk i' ∧ Nat.succ (msFit nk i') ≤ msFit nk i ∧ true = true ∧ yInt (atC k x i') = yWrap IntKind.i64 (yAdd (yInt (atC k x i)) 1) ∧ isC k x i' = true ∧ yInt i' = yWrap IntKind.i64 (yAdd (yInt i) 1) ∧ true = true) ∧ (yEq (k (yNadd 0 (yNat (yInt i)))) x = false → true = true ∧ ∃ (i' : Nat), prFd nk i' ∧ Nat.succ (msFit nk i') ≤ msFit nk i ∧ true = true ∧ yInt (atC k x i') = yWrap IntKind.i64 (yAdd (yInt (atC k x i)) 1) ∧ isC k x i' = isC k x i ∧ yInt i' = yWrap IntKind.i64 (yAdd (yInt i) 1) ∧ true = true)))) ∧ (yLt (k (yNadd 0 (yNat (yInt i)))) x = false → mst (yIn (yInt i) nk) (mst (yNlt (yNadd 0 (yNat (yInt i))) nk) ((yEq (k (yNadd 0 (yNat (yInt i)))) x = true → true = true ∧ ∃ (i' : Nat), prFd nk i' ∧ Nat.succ (msFit nk i') ≤ msFit nk i ∧ true = true ∧ yInt (atC k x i') = yInt (atC k x i) ∧ isC k x i' = true ∧ yInt i' = yWrap IntKind.i64 (yAdd (yInt i) 1) ∧ true = true) ∧ (yEq (k (yNadd 0 (yNat (yInt i)))) x = false → true = true ∧ ∃ (i' : Nat), prFd nk i' ∧ Nat.succ (msFit nk i') ≤ msFit nk i ∧ true = true ∧ yInt (atC k x i') = yInt (atC k x i) ∧ isC k x i' = isC k x i ∧ yInt i' = yWrap IntKind.i64 (yAdd (yInt i) 1) ∧ true = true))))))) ∧ (yLt (yInt i) (yInt nk) = false → (isC k x i = true → yInt (atC k x nk) = yInt (atC k x i) ∧ true = true ∧ true = true) ∧ (isC k x i = false → yInt (atC k x nk) = yInt (atC k x i) ∧ true = false ∧ true = true)))
theorem goalFdT_eq : goalFdT = goalFdTV := by kernel_rfl
set_option maxHeartbeats 8000000 in
theorem goalFdT_vc : goalFdTV := by
 unfold goalFdTV
 intro i kn nk k vn nv v l x hn hb
 simp only [vS, forall_const, msFit, prFd] at hn ⊢
 have hle := fun i => atC_le (k := k) (x := x) i
 repeat' (first | apply And.intro | intro (_ : Nat → AV) i hi | intro _)
 all_goals first
   | (exfalso; omega)
   | exact ⟨0, by omega, rfl, rfl, rfl⟩
   | (have e : yNat (i : Int) = i := by unfold yNat; omega
      have hl := hle i
      refine ⟨i + 1, by omega, by omega, ?_, ?_, by rw [wrap64 (by omega) (by omega)]; omega⟩
      · show ((atC k x i + if k i < x then 1 else 0 : Nat) : Int) = _
        first
          | (rw [if_pos (by assumption), wrap64 (by omega) (by omega)]; omega)
          | (rw [if_neg (by omega)]; omega)
      · show (isC k x i || decide (k i = x)) = _
        first
          | (simp [*]; done)
          | (rw [decide_eq_false (by assumption), Bool.or_false]; done))
   | (have e : i = nk := by omega
      subst e
      first | rfl | assumption | (exfalso; simp_all; done))
   | (trace_state; fail)
theorem goalFdT_tt : (goalFdT) = True := goalFdT_eq.trans (eq_true goalFdT_vc)
theorem goalFdT_ok : goalFdT := @ft' goalFdT goalFdT_tt
def goalFdFV : Prop := (∀ (i kn : Bool) (nk : Nat) (k : Nat → Int) (vn : Bool) (nv : Nat) (v : Nat → Int) (l x : Int), yNle nk (nat_lit 1000000) = true → isC k x nk = false → true = true ∧ (∃ (i0 : Nat), prFd nk i0 ∧ true = true ∧ yInt (atC k x i0) = (0 : Int) ∧ isC k x i0 = false ∧ yInt i0 = (0 : Int) ∧ true = true) ∧ ∀ (g : Nat → AV) (i : Nat), prFd nk i → (yLt (yInt i) (yInt nk) = true → mst (yIn (yInt i) nk) (mst (yNlt (yNadd 0 (yNat (yInt i))) nk) ((yLt (k (yNadd 0 (yNat (yInt i)))) x = true → mst (yIn (yInt i) nk) (mst (yNlt (yNadd 0 (yNat (yInt i))) nk) ((yEq (k (yNadd 0 (yNat (yInt i)))) x = true → true = true ∧ ∃ (i' : Nat), prFd nk i' ∧ Nat.succ (msFit nk i') ≤ msFit nk i ∧ true = true ∧ yInt (atC k x i') = yWrap IntKind.i64 (yAdd (yInt (atC k x i)) 1) ∧ isC k x i' = true ∧ yInt i' = yWrap IntKind.i64 (yAdd (yInt i) 1) ∧ true = true) ∧ (yEq (k (yNadd 0 (yNat (yInt i)))) x = false → true = true ∧ ∃ (i' : Nat), prFd nk i' ∧ Nat.succ (msFit nk i') ≤ msFit nk i ∧ true = true ∧ yInt (atC k x i') = yWrap IntKind.i64 (yAdd (yInt (atC k x i)) 1) ∧ isC k x i' = isC k x i ∧ yInt i' = yWrap IntKind.i64 (yAdd (yInt i) 1) ∧ true = true)))) ∧ (yLt (k (yNadd 0 (yNat (yInt i)))) x = false → mst (yIn (yInt i) nk) (mst (yNlt (yNadd 0 (yNat (yInt i))) nk) ((yEq (k (yNadd 0 (yNat (yInt i)))) x = true → true = true ∧ ∃ (i' : Nat), prFd nk i' ∧ Nat.succ (msFit nk i') ≤ msFit nk i ∧ true = true ∧ yInt (atC k x i') = yInt (atC k x i) ∧ isC k x i' = true ∧ yInt i' = yWrap IntKind.i64 (yAdd (yInt i) 1) ∧ true = true) ∧ (yEq (k (yNadd 0 (yNat (yInt i)))) x = false → true = true ∧ ∃ (i' : Nat), prFd nk i' ∧ Nat.succ (msFit nk i') ≤ msFit nk i ∧ true = true ∧ yInt (atC k x i') = yInt (atC k x i) ∧ isC k x i' = isC k x i ∧ yInt i' = yWrap IntKind.i64 (yAdd (yInt i) 1) ∧ true = true))))))) ∧ (yLt (yInt i) (yInt nk) = false → (isC k x i = true → yInt (atC k x nk) = yInt (atC k x i) ∧ false = true ∧ true = true) ∧ (isC k x i = false → yInt (atC k x nk) = yInt (atC k x i) ∧ false = false ∧ true = true)))
theorem goalFdF_eq : goalFdF = goalFdFV := by kernel_rfl
set_option maxHeartbeats 8000000 in
theorem goalFdF_vc : goalFdFV := by
 unfold goalFdFV
 intro i kn nk k vn nv v l x hn hb
 simp only [vS, forall_const, msFit, prFd] at hn ⊢
 have hle := fun i => atC_le (k := k) (x := x) i
 repeat' (first | apply And.intro | intro (_ : Nat → AV) i hi | intro _)
 all_goals first
   | (exfalso; omega)
   | exact ⟨0, by omega, rfl, rfl, rfl⟩
   | (have e : yNat (i : Int) = i := by unfold yNat; omega
      have hl := hle i
      refine ⟨i + 1, by omega, by omega, ?_, ?_, by rw [wrap64 (by omega) (by omega)]; omega⟩
      · show ((atC k x i + if k i < x then 1 else 0 : Nat) : Int) = _
        first
          | (rw [if_pos (by assumption), wrap64 (by omega) (by omega)]; omega)
          | (rw [if_neg (by omega)]; omega)
      · show (isC k x i || decide (k i = x)) = _
        first
          | (simp [*]; done)
          | (rw [decide_eq_false (by assumption), Bool.or_false]; done))
   | (have e : i = nk := by omega
      subst e
      first | rfl | assumption | (exfalso; simp_all; done))
   | (trace_state; fail)
theorem goalFdF_tt : (goalFdF) = True := goalFdF_eq.trans (eq_true goalFdF_vc)
theorem goalFdF_ok : goalFdF := @ft' goalFdF goalFdF_tt
theorem smFdL (b : Bool) (hm : Tryz.prog.follows .mixedOrders = true) : SmCall Tryz.prog 13 (fun args h => (ctX [sNdR, .sc] (.tup [.sc, .sc]) (fFdL b) args h).sel) :=
 ctX_ok hm noSm_ok (fun ds r post h => by
   unfold fFdL at h
   split at h
   · rename_i i kn nk k vn nv v l x
     simp only [Option.some.injEq, Prod.mk.injEq] at h
     obtain ⟨h1, rfl, rfl⟩ := h
     rw [yAnd_t, yIff_t] at h1
     cases b with
     | true =>
       have g := @goalFdT_ok
       unfold goalFdT at g
       exact ⟨_, 1000, @g i kn nk k vn nv v l x h1.1 h1.2⟩
     | false =>
       have g := @goalFdF_ok
       unfold goalFdF at g
       exact ⟨_, 1000, @g i kn nk k vn nv v l x h1.1 h1.2⟩
   · cases h)
theorem smCu (hm : Tryz.prog.follows .mixedOrders = true) : SmCall Tryz.prog 42 (fun args h => (ctX [sNdR, .sc, .sc, .sc] sNdO fCu args h).sel) :=
 ctX_ok hm noSm_ok (fun ds r post h => by
   unfold fCu at h
   split at h
   · simp only [Option.some.injEq, Prod.mk.injEq, yAnd_t, yLe_t, yInt_e] at h
     obtain ⟨⟨h1, h2, ⟨h3, h4⟩, h5⟩, rfl, rfl⟩ := h
     rename_i i kn nk k vn nv w l a b l2
     obtain ⟨a, rfl⟩ : ∃ m : Nat, a = yInt m := ⟨a.toNat, by unfold yInt; omega⟩
     obtain ⟨c, rfl⟩ : ∃ m : Nat, b = yInt (yNadd a m) := ⟨b.toNat - a, by unfold yInt yNadd; unfold yInt at h4; omega⟩
     have g := @goalCu_ok
     unfold goalCu at g
     rw [yNat_yInt, yNat_yInt, show yNsub (yNadd a c) a = c by unfold yNsub yNadd; omega]
     exact ⟨_, 1000, g i kn nk k vn nv w l l2 a c h1 h2 (by rw [yNle_t]; unfold yInt at h5; omega)⟩
   · cases h)
theorem lCu_ok (hm : Tryz.prog.follows .mixedOrders = true) : SmAll Tryz.prog lCu := ⟨smCu hm, trivial⟩
theorem smJn (hm : Tryz.prog.follows .mixedOrders = true) : SmCall Tryz.prog 41 (fun args h => (ctX [sNdR, sNdR, .sc] sNdO fJn args h).sel) :=
 ctX_ok hm (smL_ok (lCu_ok hm)) (fun ds r post h => by
   unfold fJn at h
   split at h
   · rename_i i kn na ka vn na' wa l i' kn' n kb vn' n' wb l' l2
     simp only [Option.some.injEq, Prod.mk.injEq] at h
     obtain ⟨h1, rfl, rfl⟩ := h
     simp only [yAnd_t] at h1
     obtain ⟨⟨h1, h1'⟩, h2, h3⟩ := h1
     rw [yNeq_t] at h2 h3
     subst h2 h3
     have g := @goalJn_ok
     unfold goalJn at g
     exact ⟨_, 1000, @g i kn na ka vn wa l i' kn' n kb vn' wb l' l2 (yAnd_t.mpr ⟨h1, h1'⟩)⟩
   · cases h)
theorem lPu_ok (hm : Tryz.prog.follows .mixedOrders = true) : SmAll Tryz.prog lPu := ⟨smFd hm, smCu hm, smJn hm, trivial⟩
theorem smPu (hm : Tryz.prog.follows .mixedOrders = true) : SmCall Tryz.prog 14 (fun args h => (ctX [sNdR, .sc, .sc] sNdP fPu args h).sel) :=
 ctX_ok hm (smL_ok (lPu_ok hm)) (fun ds r post h => by
   unfold fPu at h
   split at h
   · rename_i i kn n k vn n' w l x y
     simp only [Option.some.injEq, Prod.mk.injEq] at h
     obtain ⟨h1, rfl, rfl⟩ := h
     simp only [yAnd_t] at h1
     obtain ⟨⟨h1, h2⟩, h3⟩ := h1
     rw [yNeq_t] at h2
     subst h2
     have g := @goalPu_ok
     unfold goalPu at g
     exact ⟨_, 1000, @g i kn n k vn w l x y _ _ h1 rfl rfl h3⟩
   · cases h)
theorem smDr (hm : Tryz.prog.follows .mixedOrders = true) : SmCall Tryz.prog 15 (fun args h => (ctX [sNdR, .sc] sNdP fDr args h).sel) :=
 ctX_ok hm (smL_ok (lPu_ok hm)) (fun ds r post h => by
   unfold fDr at h
   split at h
   · rename_i i kn n k vn n' w l x
     simp only [Option.some.injEq, Prod.mk.injEq] at h
     obtain ⟨h1, rfl, rfl⟩ := h
     simp only [yAnd_t] at h1
     obtain ⟨⟨h1, h2⟩, h3⟩ := h1
     rw [yNeq_t] at h2
     subst h2
     have g := @goalDr_ok
     unfold goalDr at g
     exact ⟨_, 1000, @g i kn n k vn w l x _ _ h1 rfl rfl h3⟩
   · cases h)
theorem smLnT' (hm : Tryz.prog.follows .mixedOrders = true) : SmCall Tryz.prog 18 (fun args h => (ctX [sConf] sConf fLnT args h).sel) :=
 ctX_ok hm (smL_ok (lEd_ok hm)) (fun ds r post h => by
   unfold fLnT at h
   split at h
   · rename_i s t f l p
     simp only [Option.some.injEq, Prod.mk.injEq] at h
     obtain ⟨h1, rfl, rfl⟩ := h
     refine ⟨fun _ => none, 1000, ?_⟩
     have h2 := @goalLn_ok
     unfold goalLn at h2
     have h3 := @h2 s t f l p
     rw [show dLn s t f l p = dCf s t f l p from by unfold dLn; rw [h1]; rfl] at h3
     exact h3
   · cases h)
theorem smNwPT' (hm : Tryz.prog.follows .mixedOrders = true) : SmCall Tryz.prog 17 (fun args h => (ctX [sConf, sSpot, rW4] sEdP fNwPT args h).sel) :=
 ctX_ok hm (smL_ok (lEd_ok hm)) (fun ds r post h' => by
   unfold fNwPT at h'
   split at h'
   · rename_i ls lt lf ll lp sp sv sn si h v n inr dp kd ix key val
     simp only [Option.some.injEq, Prod.mk.injEq] at h'
     obtain ⟨h1, rfl, rfl⟩ := h'
     refine ⟨fun _ => none, 1000, ?_⟩
     obtain ⟨h1, h4⟩ := yAnd_t.mp h1
     have h2 := @goalNwP_ok
     unfold goalNwP at h2
     have h3 := @h2 sp sv sn si h v n inr dp ls lt lf ll lp kd ix key val h1
     rw [show dNwP (okNw h n kd inr ls lf) sp sv sn si h v n inr dp ls lt lf ll lp kd ix key val = dEdP sp sv sn si inr dp ls lt lf ll lp (E0 h v n kd ix key val) 0 0 0 0 from by unfold dNwP; rw [h4]; rfl] at h3
     exact h3
   · cases h')
theorem up23m : isY true (callS Tryz.prog noSm 1000 8 []) = true := by kernel_rfl
theorem awake23m (hm : Tryz.prog.follows .mixedOrders = true) : SmCall Tryz.prog 8 (smB true) :=
 smBool_ok Tryz.func8 (by kernel_rfl) (by kernel_rfl) fun w hw => callY_calls hm noSm_ok up23m (us := []) rfl w hw
def prEm (cs ct cf : Int) (n : Nat) (x0 : EmI) (T : Nat) (x : EmI) : Prop := x.i ≤ T ∧ x = runM cs ct cf n x0 x.i
def msEm (T : Nat) (x : EmI) : Nat := T - x.i
def ptId (tm : Tr AV) (t : Nat) : List Nat := match evT tm (.tmp t) with | .ptr id _ => [id] | _ => []
def annEm (cs ct cf cl cp : Int) (n : Nat) (x0 : EmI) (T : Nat) (b : Nat) : Option (St → LoopA) :=
 match b with
 | 0 => some fun z => { ι := EmI, tms := [18, 20], tmU := fun x => [.y .i64 (dnE x.e x.po), .y .i64 (yInt x.i)], ids := ptId z.tm 17 ++ tmpId z.tm 11, hpU := fun x => [.cells (cellsX sEdP (dEdP 0 0 0 0 false 0 cs ct cf cl cp x.e x.po x.mq x.mb 0)) 52 none, arM n x.w], del := [], ex := 0, pre := prEm cs ct cf n x0 T, ms := msEm T }
 | 1 => some fun _ => { ι := Nat, tms := [23], tmU := fun i => [.y .i64 (yInt i)], ids := [], hpU := fun _ => [], del := [], ex := 0, pre := prFd n, ms := msFit n }
 | _ => none
def lEm (b : Bool) : List (Nat × Sm) := [(5, .ct (ctS gConf fWrongT)), (6, .ct (ctS gConf fSz)), (7, .ct (ctS gFits fFitL)), (8, .call (smB true)), (9, .ct (ctX [sConf] ownU fNw)),
 (10, .ct (ctX [sConf, mutU, .sc, sNdP] (.tup []) fPt)), (11, .ct (ctS gWd fWd)), (12, .ct (ctS gL1 (fR1 verC))), (13, .ct (ctX [sNdR, .sc] (.tup [.sc, .sc]) (fFdL b))),
 (14, .ct (ctX [sNdR, .sc, .sc] sNdP fPu)), (15, .ct (ctX [sNdR, .sc] sNdP fDr)), (16, .ct (ctX [roU] plU fCp)), (18, .ct (ctX [sConf] sConf fLnT)), (19, .ct (ctS gMk fMk)),
 (17, .ct (ctX [sConf, sSpot, rW4] sEdP fNwPT)), (20, .ct (ctX [sEdP] (.tup [.sc, .sc]) fDnP)), (23, .ct (ctX [sEdP] rW4 fWtP)), (22, .ct (ctX [mutU, rW4] .sc fDo)), (21, .ct (ctX [sEdP, .sc] sEdP fTkP)),
 (25, .ct (ctX [sConf, roU, .sc] sNdP fNd)), (24, .ct (ctS gNN fNN)), (26, .ct (ctS gW (fW bumpC))), (27, .ct (ctS gL1 fN8))]
theorem lEm_ok (b : Bool) (hm : Tryz.prog.follows .mixedOrders = true) : SmAll Tryz.prog (lEm b) :=
 ⟨smWrgT hm, smSz hm, smFitL hm, awake23m hm, smNw hm, smPt hm, smWd hm, smVerR hm, smFdL b hm, smPu hm, smDr hm, smCp hm, smLnT' hm, smMk hm @goalMkR_ok, smNwPT' hm, smDnP hm, smWtP hm, smDo hm, smTkP hm, smNd hm, smNN hm, smBumpR hm, smN8 hm, trivial⟩
def lEmS : List (Nat × Sm) := [(5, .ct (ctS gConf fWrongT)), (6, .ct (ctS gConf fSz)), (7, .ct (ctS gFits fFitL)), (8, .call (smB true)), (9, .ct (ctX [sConf] ownU fNw)),
 (10, .ct (ctX [sConf, mutU, .sc, sNdP] (.tup []) fPt)), (11, .ct (ctS gWd fWd)), (12, .ct (ctS gL1 (fR1 verC))), (13, .ct (ctX [sNdR, .sc] (.tup [.sc, .sc]) fFd))]
theorem lEmS_ok (hm : Tryz.prog.follows .mixedOrders = true) : SmAll Tryz.prog lEmS := ⟨smWrgT hm, smSz hm, smFitL hm, awake23m hm, smNw hm, smPt hm, smWd hm, smVerR hm, smFd hm, trivial⟩
def fWrongK (m : Nat) (ds : List Da) : Option (Bool × AV) :=
 match ds with
 | [.agg [.v (.y .i64 s), .v (.y .i64 t), .v (.y .i64 f), .v (.y .i64 l), .v (.y .i64 p)]] => some (yEq (wrongC s t f l p) (Int.ofNat m), .i .i64 (Int.ofNat m))
 | _ => none
theorem smWrgK (m : Nat) (hm : Tryz.prog.follows .mixedOrders = true) : SmCall Tryz.prog 5 (fun args h => (ctS gConf (fWrongK m) args h).sel) :=
 ctS_weak (smWrong hm) (fun ds a h => by
   unfold fWrongK at h
   split at h
   · rename_i s t f l p
     simp only [Option.some.injEq, Prod.mk.injEq] at h
     obtain ⟨h1, rfl⟩ := h
     refine ⟨_, rfl, fun M u hu => ?_⟩
     rw [yEq_t.mp h1] at hu
     exact hu
   · cases h)
def lEmF (m : Nat) : List (Nat × Sm) := [(5, .ct (ctS gConf (fWrongK m))), (8, .call (smB true))]
theorem lEmF_ok (m : Nat) (hm : Tryz.prog.follows .mixedOrders = true) : SmAll Tryz.prog (lEmF m) := ⟨smWrgK m hm, awake23m hm, trivial⟩
abbrev aEm (cs ct cf cl cp slot : Int) (i : Bool) (kn : Bool) (nk : Nat) (k : Nat → Int) (vn : Bool) (nv : Nat) (v : Nat → Int) (l kd ix0 key val count : Int) : List AV :=
 [.agg [.y .i64 cs, .y .i64 ct, .y .i64 cf, .y .i64 cl, .y .i64 cp], .y .i64 slot, .agg [.yb i, .lst false kn 1 nk (colF [.int .u64 k]), .lst false vn 1 nv (colF [.int .u64 v]), .y .u64 l], .agg [.i .i64 kd, .y .i64 ix0, .y .u64 key, .y .u64 val], .y .u64 count]
def w0Em (cs ct cf slot : Int) (nk : Nat) (k : Nat → Int) (nv : Nat) (v : Nat → Int) (l count : Int) : Nat → Int :=
 updW (putW ct cf slot false nk k nv v l (newW cs ct cf)) (yNat (verC cs ct cf slot)) (wordC false false count 3)
def x0Em (cs ct cf slot : Int) (nk : Nat) (k : Nat → Int) (nv : Nat) (v : Nat → Int) (l kd key val count : Int) : EmI :=
 x0M (makeC 3 slot) (wordC false false count 3) nk kd (yInt (atC k key nk)) key val (w0Em cs ct cf slot nk k nv v l count)
def tEm (cs ct cf slot : Int) (nk : Nat) (k v : Nat → Int) (kd key val count : Int) : Nat := chT cs ct cf (makeC 3 slot) (wordC false false count 3) kd nk k v key val
def goalEmF : Prop := ∀ (m : Nat) (cs ct cf cl cp slot : Int) (i kn : Bool) (nk : Nat) (k : Nat → Int) (vn : Bool) (nv : Nat) (v : Nat → Int) (l kd ix0 key val count : Int), yEq (wrongC cs ct cf cl cp) (Int.ofNat m) = true →
 wxF Tryz.prog (smL (lEmF m)) (fun _ => none) 1000 3 (aEm cs ct cf cl cp slot i kn nk k vn nv v l kd ix0 key val count) heap0 (fun v _ => cmpC (.yb true) v)
abbrev wEmS (kd cs ct cf cl cp slot : Int) (i kn : Bool) (nk : Nat) (k : Nat → Int) (vn : Bool) (nv : Nat) (v : Nat → Int) (l ix0 key val count : Int) : Prop :=
 wxF Tryz.prog (smL lEmS) (fun _ => none) 1000 3 (aEm cs ct cf cl cp slot i kn nk k vn nv v l kd ix0 key val count) heap0 (fun v _ => cmpC (.yb true) v)
abbrev wEm (kd : Int) (b : Bool) (cs ct cf cl cp slot : Int) (i kn : Bool) (nk : Nat) (k : Nat → Int) (vn : Bool) (nv : Nat) (v : Nat → Int) (l ix0 key val count : Int) (x0 : EmI) (T : Nat) : Prop :=
 wxF Tryz.prog (smL (lEm b)) (annEm cs ct cf cl cp (sizeN cs ct cf) x0 T) 1000 3 (aEm cs ct cf cl cp slot i kn nk k vn nv v l kd ix0 key val count) heap0 (fun v _ => cmpC (.yb true) v)
def goalEm1T : Prop := ∀ (cs ct cf cl cp slot : Int) (i kn : Bool) (nk : Nat) (k : Nat → Int) (vn : Bool) (nv : Nat) (v : Nat → Int) (l ix0 key val count : Int) (x0 : EmI) (T : Nat), rightC cs ct cf cl cp = true → inU count = true → isC k key nk = true →
 x0 = x0Em cs ct cf slot nk k nv v l (1) key val count → T = tEm cs ct cf slot nk k v (1) key val count → wEm (1) true cs ct cf cl cp slot i kn nk k vn nv v l ix0 key val count x0 T
def goalEm2F : Prop := ∀ (cs ct cf cl cp slot : Int) (i kn : Bool) (nk : Nat) (k : Nat → Int) (vn : Bool) (nv : Nat) (v : Nat → Int) (l ix0 key val count : Int) (x0 : EmI) (T : Nat), rightC cs ct cf cl cp = true → inU count = true → isC k key nk = false →
 x0 = x0Em cs ct cf slot nk k nv v l (2) key val count → T = tEm cs ct cf slot nk k v (2) key val count → wEm (2) false cs ct cf cl cp slot i kn nk k vn nv v l ix0 key val count x0 T
def goalEm3T : Prop := ∀ (cs ct cf cl cp slot : Int) (i kn : Bool) (nk : Nat) (k : Nat → Int) (vn : Bool) (nv : Nat) (v : Nat → Int) (l ix0 key val count : Int) (x0 : EmI) (T : Nat), rightC cs ct cf cl cp = true → inU count = true → isC k key nk = true →
 x0 = x0Em cs ct cf slot nk k nv v l (3) key val count → T = tEm cs ct cf slot nk k v (3) key val count → wEm (3) true cs ct cf cl cp slot i kn nk k vn nv v l ix0 key val count x0 T
def goalEm1F : Prop := ∀ (cs ct cf cl cp slot : Int) (i kn : Bool) (nk : Nat) (k : Nat → Int) (vn : Bool) (nv : Nat) (v : Nat → Int) (l ix0 key val count : Int) (x0 : EmI) (T : Nat), rightC cs ct cf cl cp = true → inU count = true → isC k key nk = false →
 x0 = x0Em cs ct cf slot nk k nv v l (1) key val count → T = tEm cs ct cf slot nk k v (1) key val count → wEm (1) false cs ct cf cl cp slot i kn nk k vn nv v l ix0 key val count x0 T
def goalEm2T : Prop := ∀ (cs ct cf cl cp slot : Int) (i kn : Bool) (nk : Nat) (k : Nat → Int) (vn : Bool) (nv : Nat) (v : Nat → Int) (l ix0 key val count : Int) (x0 : EmI) (T : Nat), rightC cs ct cf cl cp = true → inU count = true → isC k key nk = true →
 x0 = x0Em cs ct cf slot nk k nv v l (2) key val count → T = tEm cs ct cf slot nk k v (2) key val count → wEm (2) true cs ct cf cl cp slot i kn nk k vn nv v l ix0 key val count x0 T
def goalEm3F : Prop := ∀ (cs ct cf cl cp slot : Int) (i kn : Bool) (nk : Nat) (k : Nat → Int) (vn : Bool) (nv : Nat) (v : Nat → Int) (l ix0 key val count : Int) (x0 : EmI) (T : Nat), rightC cs ct cf cl cp = true → inU count = true → isC k key nk = false →
 x0 = x0Em cs ct cf slot nk k nv v l (3) key val count → T = tEm cs ct cf slot nk k v (3) key val count → wEm (3) false cs ct cf cl cp slot i kn nk k vn nv v l ix0 key val count x0 T
def goalEmZ : Prop := ∀ (cs ct cf cl cp slot : Int) (i kn : Bool) (nk : Nat) (k : Nat → Int) (vn : Bool) (nv : Nat) (v : Nat → Int) (l ix0 key val count : Int), rightC cs ct cf cl cp = true → inU count = true →
 wEmS (0) cs ct cf cl cp slot i kn nk k vn nv v l ix0 key val count
def goalEmP : Prop := ∀ (cs ct cf cl cp slot : Int) (i kn : Bool) (nk : Nat) (k : Nat → Int) (vn : Bool) (nv : Nat) (v : Nat → Int) (l ix0 key val count : Int) (q : Nat), rightC cs ct cf cl cp = true → inU count = true →
 wEmS (Int.ofNat (q + 4)) cs ct cf cl cp slot i kn nk k vn nv v l ix0 key val count
def goalEmN : Prop := ∀ (cs ct cf cl cp slot : Int) (i kn : Bool) (nk : Nat) (k : Nat → Int) (vn : Bool) (nv : Nat) (v : Nat → Int) (l ix0 key val count : Int) (q : Nat), rightC cs ct cf cl cp = true → inU count = true →
 wEmS (Int.negSucc q) cs ct cf cl cp slot i kn nk k vn nv v l ix0 key val count
end Go.Proofs.YtinijejfhmcmdaaGreatDoor.Ex
end
section
namespace Go.Proofs.YtinijejfhmcmdaaGreatDoor.Ex
open Go
theorem fork_t {p : Bool} {X Y : Prop} (h : p = true) (x : X) : (p = true → X) ∧ (p = false → Y) := ⟨fun _ => x, fun e => absurd (h.symm.trans e) (by decide)⟩
theorem fork_f {p : Bool} {X Y : Prop} (h : p = false) (y : Y) : (p = true → X) ∧ (p = false → Y) := ⟨fun e => absurd (h.symm.trans e) (by decide), fun _ => y⟩
theorem mstI {p : Bool} {X : Prop} (h : p = true) (x : X) : mst p X := ⟨fun _ => x, fun e => absurd (h.symm.trans e) (by decide)⟩
theorem yCol1 {n : Nat} {f : Nat → Int} : (yCol (CK.int IntKind.u64) n fun (i : Nat) => AV.y IntKind.u64 (f i)) = true := yCol_int
def goalEmFV : Prop := (∀ (m : Nat) (cs ct cf cl cp slot : Int) (i kn : Bool) (nk : Nat) (k : Nat → Int) (vn : Bool) (nv : Nat) (v : Nat → Int) (l kd ix0 key val count : Int), yEq (wrongC cs ct cf cl cp) (Int.ofNat m) = true → (yEq (wrongC cs ct cf cl cp) (Int.ofNat m) = true → true = true) ∧ (yEq (wrongC cs ct cf cl cp) (Int.ofNat m) = false → False))
theorem goalEmF_eq : goalEmF = goalEmFV := by kernel_rfl
set_option maxHeartbeats 8000000 in
theorem goalEmF_vc : goalEmFV := by
 unfold goalEmFV
 intro m cs ct cf cl cp slot i kn nk k vn nv v l kd ix0 key val count h
 exact fork_t h rfl
theorem goalEmF_tt : (goalEmF) = True := goalEmF_eq.trans (eq_true goalEmF_vc)
theorem goalEmF_ok : goalEmF := @ft' goalEmF goalEmF_tt
def goalEm1FV : Prop := (∀ (cs ct cf cl cp slot : Int) (i kn : Bool) (nk : Nat) (k : Nat → Int) (vn : Bool) (nv : Nat) (v : Nat → Int) (l ix0 key val count : Int) (x0 : EmI) (T : Nat), rightC cs ct cf cl cp = true → yAnd (yLe 0 count) (yLt count 18446744073709551616) = true → isC k key nk = false → x0 = x0Em cs ct cf slot nk k nv v l 1 key val count → T = tEm cs ct cf slot nk k v 1 key val count → mst (rightC cs ct cf cl cp) (mst (rightC cs ct cf cl cp) ((yLt 5000 (sizeC cs ct cf) = true → true = true) ∧ (yLt 5000 (sizeC cs ct cf) = false → (yLt slot (1 : Int) = true → true = true) ∧ (yLt slot (1 : Int) = false → (yLt cs slot = true → true = true) ∧ (yLt cs slot = false → (i = true → true = true) ∧ (i = false → mst (yCol (CK.int IntKind.u64) nk fun (i : Nat) => AV.y IntKind.u64 (k i)) (mst (yCol (CK.int IntKind.u64) nv fun (i : Nat) => AV.y IntKind.u64 (v i)) (mst (yAnd (yNot i) (yLe cf 64)) ((yNot (fitsC i nk (fun (i : Nat) => k i) nv cf) = true → true = true) ∧ (yNot (fitsC i nk (fun (i : Nat) => k i) nv cf) = false → mst (rightC cs ct cf cl cp) (mst (yNeq 0 0) (mst (yNeq (sizeN cs ct cf) (sizeN cs ct cf)) (mst (yCol (CK.int IntKind.u64) (sizeN cs ct cf) fun (i : Nat) => AV.y IntKind.u64 (newW cs ct cf i)) (mst (yCol (CK.int IntKind.u64) nk fun (i : Nat) => AV.y IntKind.u64 (k i)) (mst (yCol (CK.int IntKind.u64) nv fun (i : Nat) => AV.y IntKind.u64 (v i)) (mst (yAnd (rightC cs ct cf cl cp) (yAnd (yAnd (yLe 0 slot) (yLe slot cs)) (yAnd (yNeq (sizeN cs ct cf) (sizeN cs ct cf)) (yAnd (yLe (yInt nk) cf) (yLe (yInt nv) cf))))) (mst (yAnd (yAnd (yLe 0 count) (yLt count 18446744073709551616)) (yAnd (yLe 0 3) (yLt 3 18446744073709551616))) (mst (yAnd (rightC cs ct cf cl cp) (yAnd (yLe 0 slot) (yLe slot cs))) (mst (yIn (verC cs ct cf slot) (sizeN cs ct cf)) (mst (yNlt (yNadd 0 (yNat (verC cs ct cf slot))) (sizeN cs ct cf)) (mst (yCol (CK.int IntKind.u64) nk fun (i : Nat) => AV.y IntKind.u64 (k i)) (mst (yCol (CK.int IntKind.u64) nv fun (i : Nat) => AV.y IntKind.u64 (v i)) (mst (yAnd (yNle nk 1000000) (yIff (isC (fun (i : Nat) => k i) key nk) false)) (true = true)))))))))))))))))))))))))
theorem goalEm1F_eq : goalEm1F = goalEm1FV := by kernel_rfl
set_option maxHeartbeats 8000000 in
theorem goalEm1F_vc : goalEm1FV := by
 unfold goalEm1FV
 intro cs ct cf cl cp slot i kn nk k vn nv v l ix0 key val count x0 T hr hc his hx0 hT
 clear hx0 hT
 by_cases q1 : 5000 < sizeC cs ct cf
 · refine mstI hr (mstI hr (fork_t (yLt_t.mpr q1) rfl))
 have q1' : yLt 5000 (sizeC cs ct cf) = false := yLt_f.mpr (by omega)
 by_cases q2 : slot < 1
 · exact mstI hr (mstI hr (fork_f q1' (fork_t (yLt_t.mpr q2) rfl)))
 have q2' : yLt slot 1 = false := yLt_f.mpr (by omega)
 by_cases q3 : cs < slot
 · exact mstI hr (mstI hr (fork_f q1' (fork_f q2' (fork_t (yLt_t.mpr q3) rfl))))
 have q3' : yLt cs slot = false := yLt_f.mpr (by omega)
 cases i with
 | true => exact mstI hr (mstI hr (fork_f q1' (fork_f q2' (fork_f q3' (fork_t rfl rfl)))))
 | false =>
 have h := rightC_iff.1 hr
 have q4 : yAnd (yNot false) (yLe cf 64) = true := by simp only [vS, forall_const]; omega
 cases hf : fitsC false nk k nv cf with
 | false => exact mstI hr (mstI hr (fork_f q1' (fork_f q2' (fork_f q3' (fork_f rfl (mstI yCol1 (mstI yCol1 (mstI q4 (fork_t rfl rfl)))))))))
 | true =>
 obtain ⟨f1, f2, f3⟩ := fits_t.1 hf
 have f2 : nv = nk := by simpa using f2
 subst f2
 obtain ⟨eB, room, h3, hbig, eF, eS, g4, g64⟩ := slot_room hr (slot := slot) (by omega) (by omega)
 have eV := verN (cs := cs) eB ⟨by omega, by omega⟩
 have iV : 0 ≤ verC cs ct cf slot ∧ verC cs ct cf slot < (sizeN cs ct cf : Int) := by rw [eV]; omega
 have iV' : yNlt (yNadd 0 (yNat (verC cs ct cf slot))) (sizeN cs ct cf) = true := by rw [eV, yNatN]; simp only [vS, forall_const]; omega
 have pre : yAnd (rightC cs ct cf cl cp) (yAnd (yAnd (yLe 0 slot) (yLe slot cs)) (yAnd (yNeq (sizeN cs ct cf) (sizeN cs ct cf)) (yAnd (yLe (yInt nv) cf) (yLe (yInt nv) cf)))) = true := by
   simp only [vS, forall_const, hr]; omega
 have pv : yAnd (rightC cs ct cf cl cp) (yAnd (yLe 0 slot) (yLe slot cs)) = true := by simp only [vS, forall_const, hr]; omega
 have pc : yAnd (yAnd (yLe 0 count) (yLt count 18446744073709551616)) (yAnd (yLe 0 3) (yLt 3 18446744073709551616)) = true := by
   have hc := hc; simp only [yAnd_t, yLe_t, yLt_t] at hc
   simp only [vS, forall_const]; omega
 refine mstI hr (mstI hr (fork_f q1' (fork_f q2' (fork_f q3' (fork_f rfl (mstI yCol1 (mstI yCol1 (mstI q4 (fork_f rfl (mstI hr (mstI rfl (mstI (yNeq_t.mpr rfl) (mstI yCol1 (mstI yCol1 (mstI yCol1 (mstI pre (mstI pc (mstI pv (mstI (yIn_t.mpr iV) (mstI iV' (mstI yCol1 (mstI yCol1 ?_))))))))))))))))))))))
 refine mstI ?_ rfl
 simp only [vS, forall_const]
 exact ⟨by omega, his⟩
theorem goalEm1F_tt : (goalEm1F) = True := goalEm1F_eq.trans (eq_true goalEm1F_vc)
theorem goalEm1F_ok : goalEm1F := @ft' goalEm1F goalEm1F_tt
def goalEm2TV : Prop := (∀ (cs ct cf cl cp slot : Int) (i kn : Bool) (nk : Nat) (k : Nat → Int) (vn : Bool) (nv : Nat) (v : Nat → Int) (l ix0 key val count : Int) (x0 : EmI) (T : Nat), rightC cs ct cf cl cp = true → yAnd (yLe 0 count) (yLt count 18446744073709551616) = true → isC k key nk = true → x0 = x0Em cs ct cf slot nk k nv v l 2 key val count → T = tEm cs ct cf slot nk k v 2 key val count → mst (rightC cs ct cf cl cp) (mst (rightC cs ct cf cl cp) ((yLt 5000 (sizeC cs ct cf) = true → true = true) ∧ (yLt 5000 (sizeC cs ct cf) = false → (yLt slot (1 : Int) = true → true = true) ∧ (yLt slot (1 : Int) = false → (yLt cs slot = true → true = true) ∧ (yLt cs slot = false → (i = true → true = true) ∧ (i = false → mst (yCol (CK.int IntKind.u64) nk fun (i : Nat) => AV.y IntKind.u64 (k i)) (mst (yCol (CK.int IntKind.u64) nv fun (i : Nat) => AV.y IntKind.u64 (v i)) (mst (yAnd (yNot i) (yLe cf 64)) ((yNot (fitsC i nk (fun (i : Nat) => k i) nv cf) = true → true = true) ∧ (yNot (fitsC i nk (fun (i : Nat) => k i) nv cf) = false → mst (rightC cs ct cf cl cp) (mst (yNeq 0 0) (mst (yNeq (sizeN cs ct cf) (sizeN cs ct cf)) (mst (yCol (CK.int IntKind.u64) (sizeN cs ct cf) fun (i : Nat) => AV.y IntKind.u64 (newW cs ct cf i)) (mst (yCol (CK.int IntKind.u64) nk fun (i : Nat) => AV.y IntKind.u64 (k i)) (mst (yCol (CK.int IntKind.u64) nv fun (i : Nat) => AV.y IntKind.u64 (v i)) (mst (yAnd (rightC cs ct cf cl cp) (yAnd (yAnd (yLe 0 slot) (yLe slot cs)) (yAnd (yNeq (sizeN cs ct cf) (sizeN cs ct cf)) (yAnd (yLe (yInt nk) cf) (yLe (yInt nv) cf))))) (mst (yAnd (yAnd (yLe 0 count) (yLt count 18446744073709551616)) (yAnd (yLe 0 3) (yLt 3 18446744073709551616))) (mst (yAnd (rightC cs ct cf cl cp) (yAnd (yLe 0 slot) (yLe slot cs))) (mst (yIn (verC cs ct cf slot) (sizeN cs ct cf)) (mst (yNlt (yNadd 0 (yNat (verC cs ct cf slot))) (sizeN cs ct cf)) (mst (yCol (CK.int IntKind.u64) nk fun (i : Nat) => AV.y IntKind.u64 (k i)) (mst (yCol (CK.int IntKind.u64) nv fun (i : Nat) => AV.y IntKind.u64 (v i)) (mst (yAnd (yNle nk 1000000) (yIff (isC (fun (i : Nat) => k i) key nk) true)) (true = true)))))))))))))))))))))))))
theorem goalEm2T_eq : goalEm2T = goalEm2TV := by kernel_rfl
set_option maxHeartbeats 8000000 in
theorem goalEm2T_vc : goalEm2TV := by
 unfold goalEm2TV
 intro cs ct cf cl cp slot i kn nk k vn nv v l ix0 key val count x0 T hr hc his hx0 hT
 clear hx0 hT
 by_cases q1 : 5000 < sizeC cs ct cf
 · refine mstI hr (mstI hr (fork_t (yLt_t.mpr q1) rfl))
 have q1' : yLt 5000 (sizeC cs ct cf) = false := yLt_f.mpr (by omega)
 by_cases q2 : slot < 1
 · exact mstI hr (mstI hr (fork_f q1' (fork_t (yLt_t.mpr q2) rfl)))
 have q2' : yLt slot 1 = false := yLt_f.mpr (by omega)
 by_cases q3 : cs < slot
 · exact mstI hr (mstI hr (fork_f q1' (fork_f q2' (fork_t (yLt_t.mpr q3) rfl))))
 have q3' : yLt cs slot = false := yLt_f.mpr (by omega)
 cases i with
 | true => exact mstI hr (mstI hr (fork_f q1' (fork_f q2' (fork_f q3' (fork_t rfl rfl)))))
 | false =>
 have h := rightC_iff.1 hr
 have q4 : yAnd (yNot false) (yLe cf 64) = true := by simp only [vS, forall_const]; omega
 cases hf : fitsC false nk k nv cf with
 | false => exact mstI hr (mstI hr (fork_f q1' (fork_f q2' (fork_f q3' (fork_f rfl (mstI yCol1 (mstI yCol1 (mstI q4 (fork_t rfl rfl)))))))))
 | true =>
 obtain ⟨f1, f2, f3⟩ := fits_t.1 hf
 have f2 : nv = nk := by simpa using f2
 subst f2
 obtain ⟨eB, room, h3, hbig, eF, eS, g4, g64⟩ := slot_room hr (slot := slot) (by omega) (by omega)
 have eV := verN (cs := cs) eB ⟨by omega, by omega⟩
 have iV : 0 ≤ verC cs ct cf slot ∧ verC cs ct cf slot < (sizeN cs ct cf : Int) := by rw [eV]; omega
 have iV' : yNlt (yNadd 0 (yNat (verC cs ct cf slot))) (sizeN cs ct cf) = true := by rw [eV, yNatN]; simp only [vS, forall_const]; omega
 have pre : yAnd (rightC cs ct cf cl cp) (yAnd (yAnd (yLe 0 slot) (yLe slot cs)) (yAnd (yNeq (sizeN cs ct cf) (sizeN cs ct cf)) (yAnd (yLe (yInt nv) cf) (yLe (yInt nv) cf)))) = true := by
   simp only [vS, forall_const, hr]; omega
 have pv : yAnd (rightC cs ct cf cl cp) (yAnd (yLe 0 slot) (yLe slot cs)) = true := by simp only [vS, forall_const, hr]; omega
 have pc : yAnd (yAnd (yLe 0 count) (yLt count 18446744073709551616)) (yAnd (yLe 0 3) (yLt 3 18446744073709551616)) = true := by
   have hc := hc; simp only [yAnd_t, yLe_t, yLt_t] at hc
   simp only [vS, forall_const]; omega
 refine mstI hr (mstI hr (fork_f q1' (fork_f q2' (fork_f q3' (fork_f rfl (mstI yCol1 (mstI yCol1 (mstI q4 (fork_f rfl (mstI hr (mstI rfl (mstI (yNeq_t.mpr rfl) (mstI yCol1 (mstI yCol1 (mstI yCol1 (mstI pre (mstI pc (mstI pv (mstI (yIn_t.mpr iV) (mstI iV' (mstI yCol1 (mstI yCol1 ?_))))))))))))))))))))))
 refine mstI ?_ rfl
 simp only [vS, forall_const]
 exact ⟨by omega, his⟩
theorem goalEm2T_tt : (goalEm2T) = True := goalEm2T_eq.trans (eq_true goalEm2T_vc)
theorem goalEm2T_ok : goalEm2T := @ft' goalEm2T goalEm2T_tt
def goalEm3FV : Prop := (∀ (cs ct cf cl cp slot : Int) (i kn : Bool) (nk : Nat) (k : Nat → Int) (vn : Bool) (nv : Nat) (v : Nat → Int) (l ix0 key val count : Int) (x0 : EmI) (T : Nat), rightC cs ct cf cl cp = true → yAnd (yLe 0 count) (yLt count 18446744073709551616) = true → isC k key nk = false → x0 = x0Em cs ct cf slot nk k nv v l 3 key val count → T = tEm cs ct cf slot nk k v 3 key val count → mst (rightC cs ct cf cl cp) (mst (rightC cs ct cf cl cp) ((yLt 5000 (sizeC cs ct cf) = true → true = true) ∧ (yLt 5000 (sizeC cs ct cf) = false → (yLt slot (1 : Int) = true → true = true) ∧ (yLt slot (1 : Int) = false → (yLt cs slot = true → true = true) ∧ (yLt cs slot = false → (i = true → true = true) ∧ (i = false → mst (yCol (CK.int IntKind.u64) nk fun (i : Nat) => AV.y IntKind.u64 (k i)) (mst (yCol (CK.int IntKind.u64) nv fun (i : Nat) => AV.y IntKind.u64 (v i)) (mst (yAnd (yNot i) (yLe cf 64)) ((yNot (fitsC i nk (fun (i : Nat) => k i) nv cf) = true → true = true) ∧ (yNot (fitsC i nk (fun (i : Nat) => k i) nv cf) = false → mst (rightC cs ct cf cl cp) (mst (yNeq 0 0) (mst (yNeq (sizeN cs ct cf) (sizeN cs ct cf)) (mst (yCol (CK.int IntKind.u64) (sizeN cs ct cf) fun (i : Nat) => AV.y IntKind.u64 (newW cs ct cf i)) (mst (yCol (CK.int IntKind.u64) nk fun (i : Nat) => AV.y IntKind.u64 (k i)) (mst (yCol (CK.int IntKind.u64) nv fun (i : Nat) => AV.y IntKind.u64 (v i)) (mst (yAnd (rightC cs ct cf cl cp) (yAnd (yAnd (yLe 0 slot) (yLe slot cs)) (yAnd (yNeq (sizeN cs ct cf) (sizeN cs ct cf)) (yAnd (yLe (yInt nk) cf) (yLe (yInt nv) cf))))) (mst (yAnd (yAnd (yLe 0 count) (yLt count 18446744073709551616)) (yAnd (yLe 0 3) (yLt 3 18446744073709551616))) (mst (yAnd (rightC cs ct cf cl cp) (yAnd (yLe 0 slot) (yLe slot cs))) (mst (yIn (verC cs ct cf slot) (sizeN cs ct cf)) (mst (yNlt (yNadd 0 (yNat (verC cs ct cf slot))) (sizeN cs ct cf)) (mst (yCol (CK.int IntKind.u64) nk fun (i : Nat) => AV.y IntKind.u64 (k i)) (mst (yCol (CK.int IntKind.u64) nv fun (i : Nat) => AV.y IntKind.u64 (v i)) (mst (yAnd (yNle nk 1000000) (yIff (isC (fun (i : Nat) => k i) key nk) false)) (true = true)))))))))))))))))))))))))
theorem goalEm3F_eq : goalEm3F = goalEm3FV := by kernel_rfl
set_option maxHeartbeats 8000000 in
theorem goalEm3F_vc : goalEm3FV := by
 unfold goalEm3FV
 intro cs ct cf cl cp slot i kn nk k vn nv v l ix0 key val count x0 T hr hc his hx0 hT
 clear hx0 hT
 by_cases q1 : 5000 < sizeC cs ct cf
 · refine mstI hr (mstI hr (fork_t (yLt_t.mpr q1) rfl))
 have q1' : yLt 5000 (sizeC cs ct cf) = false := yLt_f.mpr (by omega)
 by_cases q2 : slot < 1
 · exact mstI hr (mstI hr (fork_f q1' (fork_t (yLt_t.mpr q2) rfl)))
 have q2' : yLt slot 1 = false := yLt_f.mpr (by omega)
 by_cases q3 : cs < slot
 · exact mstI hr (mstI hr (fork_f q1' (fork_f q2' (fork_t (yLt_t.mpr q3) rfl))))
 have q3' : yLt cs slot = false := yLt_f.mpr (by omega)
 cases i with
 | true => exact mstI hr (mstI hr (fork_f q1' (fork_f q2' (fork_f q3' (fork_t rfl rfl)))))
 | false =>
 have h := rightC_iff.1 hr
 have q4 : yAnd (yNot false) (yLe cf 64) = true := by simp only [vS, forall_const]; omega
 cases hf : fitsC false nk k nv cf with
 | false => exact mstI hr (mstI hr (fork_f q1' (fork_f q2' (fork_f q3' (fork_f rfl (mstI yCol1 (mstI yCol1 (mstI q4 (fork_t rfl rfl)))))))))
 | true =>
 obtain ⟨f1, f2, f3⟩ := fits_t.1 hf
 have f2 : nv = nk := by simpa using f2
 subst f2
 obtain ⟨eB, room, h3, hbig, eF, eS, g4, g64⟩ := slot_room hr (slot := slot) (by omega) (by omega)
 have eV := verN (cs := cs) eB ⟨by omega, by omega⟩
 have iV : 0 ≤ verC cs ct cf slot ∧ verC cs ct cf slot < (sizeN cs ct cf : Int) := by rw [eV]; omega
 have iV' : yNlt (yNadd 0 (yNat (verC cs ct cf slot))) (sizeN cs ct cf) = true := by rw [eV, yNatN]; simp only [vS, forall_const]; omega
 have pre : yAnd (rightC cs ct cf cl cp) (yAnd (yAnd (yLe 0 slot) (yLe slot cs)) (yAnd (yNeq (sizeN cs ct cf) (sizeN cs ct cf)) (yAnd (yLe (yInt nv) cf) (yLe (yInt nv) cf)))) = true := by
   simp only [vS, forall_const, hr]; omega
 have pv : yAnd (rightC cs ct cf cl cp) (yAnd (yLe 0 slot) (yLe slot cs)) = true := by simp only [vS, forall_const, hr]; omega
 have pc : yAnd (yAnd (yLe 0 count) (yLt count 18446744073709551616)) (yAnd (yLe 0 3) (yLt 3 18446744073709551616)) = true := by
   have hc := hc; simp only [yAnd_t, yLe_t, yLt_t] at hc
   simp only [vS, forall_const]; omega
 refine mstI hr (mstI hr (fork_f q1' (fork_f q2' (fork_f q3' (fork_f rfl (mstI yCol1 (mstI yCol1 (mstI q4 (fork_f rfl (mstI hr (mstI rfl (mstI (yNeq_t.mpr rfl) (mstI yCol1 (mstI yCol1 (mstI yCol1 (mstI pre (mstI pc (mstI pv (mstI (yIn_t.mpr iV) (mstI iV' (mstI yCol1 (mstI yCol1 ?_))))))))))))))))))))))
 refine mstI ?_ rfl
 simp only [vS, forall_const]
 exact ⟨by omega, his⟩
theorem goalEm3F_tt : (goalEm3F) = True := goalEm3F_eq.trans (eq_true goalEm3F_vc)
theorem goalEm3F_ok : goalEm3F := @ft' goalEm3F goalEm3F_tt
def goalEmZV : Prop := (∀ (cs ct cf cl cp slot : Int) (i kn : Bool) (nk : Nat) (k : Nat → Int) (vn : Bool) (nv : Nat) (v : Nat → Int) (l ix0 key val count : Int), rightC cs ct cf cl cp = true → yAnd (yLe 0 count) (yLt count 18446744073709551616) = true → mst (rightC cs ct cf cl cp) (mst (rightC cs ct cf cl cp) ((yLt 5000 (sizeC cs ct cf) = true → true = true) ∧ (yLt 5000 (sizeC cs ct cf) = false → (yLt slot (1 : Int) = true → true = true) ∧ (yLt slot (1 : Int) = false → (yLt cs slot = true → true = true) ∧ (yLt cs slot = false → (i = true → true = true) ∧ (i = false → mst (yCol (CK.int IntKind.u64) nk fun (i : Nat) => AV.y IntKind.u64 (k i)) (mst (yCol (CK.int IntKind.u64) nv fun (i : Nat) => AV.y IntKind.u64 (v i)) (mst (yAnd (yNot i) (yLe cf 64)) ((yNot (fitsC i nk (fun (i : Nat) => k i) nv cf) = true → true = true) ∧ (yNot (fitsC i nk (fun (i : Nat) => k i) nv cf) = false → mst (rightC cs ct cf cl cp) (mst (yNeq 0 0) (mst (yNeq (sizeN cs ct cf) (sizeN cs ct cf)) (mst (yCol (CK.int IntKind.u64) (sizeN cs ct cf) fun (i : Nat) => AV.y IntKind.u64 (newW cs ct cf i)) (mst (yCol (CK.int IntKind.u64) nk fun (i : Nat) => AV.y IntKind.u64 (k i)) (mst (yCol (CK.int IntKind.u64) nv fun (i : Nat) => AV.y IntKind.u64 (v i)) (mst (yAnd (rightC cs ct cf cl cp) (yAnd (yAnd (yLe 0 slot) (yLe slot cs)) (yAnd (yNeq (sizeN cs ct cf) (sizeN cs ct cf)) (yAnd (yLe (yInt nk) cf) (yLe (yInt nv) cf))))) (mst (yAnd (yAnd (yLe 0 count) (yLt count 18446744073709551616)) (yAnd (yLe 0 3) (yLt 3 18446744073709551616))) (mst (yAnd (rightC cs ct cf cl cp) (yAnd (yLe 0 slot) (yLe slot cs))) (mst (yIn (verC cs ct cf slot) (sizeN cs ct cf)) (mst (yNlt (yNadd 0 (yNat (verC cs ct cf slot))) (sizeN cs ct cf)) (mst (yCol (CK.int IntKind.u64) nk fun (i : Nat) => AV.y IntKind.u64 (k i)) (mst (yCol (CK.int IntKind.u64) nv fun (i : Nat) => AV.y IntKind.u64 (v i)) (mst (yNle nk 1000000) (true = true)))))))))))))))))))))))))
theorem goalEmZ_eq : goalEmZ = goalEmZV := by kernel_rfl
set_option maxHeartbeats 8000000 in
theorem goalEmZ_vc : goalEmZV := by
 unfold goalEmZV
 intro cs ct cf cl cp slot i kn nk k vn nv v l ix0 key val count hr hc
 by_cases q1 : 5000 < sizeC cs ct cf
 · refine mstI hr (mstI hr (fork_t (yLt_t.mpr q1) rfl))
 have q1' : yLt 5000 (sizeC cs ct cf) = false := yLt_f.mpr (by omega)
 by_cases q2 : slot < 1
 · exact mstI hr (mstI hr (fork_f q1' (fork_t (yLt_t.mpr q2) rfl)))
 have q2' : yLt slot 1 = false := yLt_f.mpr (by omega)
 by_cases q3 : cs < slot
 · exact mstI hr (mstI hr (fork_f q1' (fork_f q2' (fork_t (yLt_t.mpr q3) rfl))))
 have q3' : yLt cs slot = false := yLt_f.mpr (by omega)
 cases i with
 | true => exact mstI hr (mstI hr (fork_f q1' (fork_f q2' (fork_f q3' (fork_t rfl rfl)))))
 | false =>
 have h := rightC_iff.1 hr
 have q4 : yAnd (yNot false) (yLe cf 64) = true := by simp only [vS, forall_const]; omega
 cases hf : fitsC false nk k nv cf with
 | false => exact mstI hr (mstI hr (fork_f q1' (fork_f q2' (fork_f q3' (fork_f rfl (mstI yCol1 (mstI yCol1 (mstI q4 (fork_t rfl rfl)))))))))
 | true =>
 obtain ⟨f1, f2, f3⟩ := fits_t.1 hf
 have f2 : nv = nk := by simpa using f2
 subst f2
 obtain ⟨eB, room, h3, hbig, eF, eS, g4, g64⟩ := slot_room hr (slot := slot) (by omega) (by omega)
 have eV := verN (cs := cs) eB ⟨by omega, by omega⟩
 have iV : 0 ≤ verC cs ct cf slot ∧ verC cs ct cf slot < (sizeN cs ct cf : Int) := by rw [eV]; omega
 have iV' : yNlt (yNadd 0 (yNat (verC cs ct cf slot))) (sizeN cs ct cf) = true := by rw [eV, yNatN]; simp only [vS, forall_const]; omega
 have pre : yAnd (rightC cs ct cf cl cp) (yAnd (yAnd (yLe 0 slot) (yLe slot cs)) (yAnd (yNeq (sizeN cs ct cf) (sizeN cs ct cf)) (yAnd (yLe (yInt nv) cf) (yLe (yInt nv) cf)))) = true := by
   simp only [vS, forall_const, hr]; omega
 have pv : yAnd (rightC cs ct cf cl cp) (yAnd (yLe 0 slot) (yLe slot cs)) = true := by simp only [vS, forall_const, hr]; omega
 have pc : yAnd (yAnd (yLe 0 count) (yLt count 18446744073709551616)) (yAnd (yLe 0 3) (yLt 3 18446744073709551616)) = true := by
   have hc := hc; simp only [yAnd_t, yLe_t, yLt_t] at hc
   simp only [vS, forall_const]; omega
 refine mstI hr (mstI hr (fork_f q1' (fork_f q2' (fork_f q3' (fork_f rfl (mstI yCol1 (mstI yCol1 (mstI q4 (fork_f rfl (mstI hr (mstI rfl (mstI (yNeq_t.mpr rfl) (mstI yCol1 (mstI yCol1 (mstI yCol1 (mstI pre (mstI pc (mstI pv (mstI (yIn_t.mpr iV) (mstI iV' (mstI yCol1 (mstI yCol1 ?_))))))))))))))))))))))
 refine mstI ?_ ?_
 · simp only [vS, forall_const]; omega
 first | rfl | (trace_state; fail)
theorem goalEmZ_tt : (goalEmZ) = True := goalEmZ_eq.trans (eq_true goalEmZ_vc)
theorem goalEmZ_ok : goalEmZ := @ft' goalEmZ goalEmZ_tt
def goalEmPV : Prop := (∀ (cs ct cf cl cp slot : Int) (i kn : Bool) (nk : Nat) (k : Nat → Int) (vn : Bool) (nv : Nat) (v : Nat → Int) (l ix0 key val count : Int) (q : Nat), rightC cs ct cf cl cp = true → yAnd (yLe 0 count) (yLt count 18446744073709551616) = true → mst (rightC cs ct cf cl cp) (mst (rightC cs ct cf cl cp) ((yLt 5000 (sizeC cs ct cf) = true → true = true) ∧ (yLt 5000 (sizeC cs ct cf) = false → (yLt slot (1 : Int) = true → true = true) ∧ (yLt slot (1 : Int) = false → (yLt cs slot = true → true = true) ∧ (yLt cs slot = false → (i = true → true = true) ∧ (i = false → mst (yCol (CK.int IntKind.u64) nk fun (i : Nat) => AV.y IntKind.u64 (k i)) (mst (yCol (CK.int IntKind.u64) nv fun (i : Nat) => AV.y IntKind.u64 (v i)) (mst (yAnd (yNot i) (yLe cf 64)) ((yNot (fitsC i nk (fun (i : Nat) => k i) nv cf) = true → true = true) ∧ (yNot (fitsC i nk (fun (i : Nat) => k i) nv cf) = false → mst (rightC cs ct cf cl cp) (mst (yNeq 0 0) (mst (yNeq (sizeN cs ct cf) (sizeN cs ct cf)) (mst (yCol (CK.int IntKind.u64) (sizeN cs ct cf) fun (i : Nat) => AV.y IntKind.u64 (newW cs ct cf i)) (mst (yCol (CK.int IntKind.u64) nk fun (i : Nat) => AV.y IntKind.u64 (k i)) (mst (yCol (CK.int IntKind.u64) nv fun (i : Nat) => AV.y IntKind.u64 (v i)) (mst (yAnd (rightC cs ct cf cl cp) (yAnd (yAnd (yLe 0 slot) (yLe slot cs)) (yAnd (yNeq (sizeN cs ct cf) (sizeN cs ct cf)) (yAnd (yLe (yInt nk) cf) (yLe (yInt nv) cf))))) (mst (yAnd (yAnd (yLe 0 count) (yLt count 18446744073709551616)) (yAnd (yLe 0 3) (yLt 3 18446744073709551616))) (mst (yAnd (rightC cs ct cf cl cp) (yAnd (yLe 0 slot) (yLe slot cs))) (mst (yIn (verC cs ct cf slot) (sizeN cs ct cf)) (mst (yNlt (yNadd 0 (yNat (verC cs ct cf slot))) (sizeN cs ct cf)) (mst (yCol (CK.int IntKind.u64) nk fun (i : Nat) => AV.y IntKind.u64 (k i)) (mst (yCol (CK.int IntKind.u64) nv fun (i : Nat) => AV.y IntKind.u64 (v i)) (mst (yNle nk 1000000) (true = true)))))))))))))))))))))))))
theorem goalEmP_eq : goalEmP = goalEmPV := by kernel_rfl
set_option maxHeartbeats 8000000 in
theorem goalEmP_vc : goalEmPV := by
 unfold goalEmPV
 intro cs ct cf cl cp slot i kn nk k vn nv v l ix0 key val count q hr hc
 by_cases q1 : 5000 < sizeC cs ct cf
 · refine mstI hr (mstI hr (fork_t (yLt_t.mpr q1) rfl))
 have q1' : yLt 5000 (sizeC cs ct cf) = false := yLt_f.mpr (by omega)
 by_cases q2 : slot < 1
 · exact mstI hr (mstI hr (fork_f q1' (fork_t (yLt_t.mpr q2) rfl)))
 have q2' : yLt slot 1 = false := yLt_f.mpr (by omega)
 by_cases q3 : cs < slot
 · exact mstI hr (mstI hr (fork_f q1' (fork_f q2' (fork_t (yLt_t.mpr q3) rfl))))
 have q3' : yLt cs slot = false := yLt_f.mpr (by omega)
 cases i with
 | true => exact mstI hr (mstI hr (fork_f q1' (fork_f q2' (fork_f q3' (fork_t rfl rfl)))))
 | false =>
 have h := rightC_iff.1 hr
 have q4 : yAnd (yNot false) (yLe cf 64) = true := by simp only [vS, forall_const]; omega
 cases hf : fitsC false nk k nv cf with
 | false => exact mstI hr (mstI hr (fork_f q1' (fork_f q2' (fork_f q3' (fork_f rfl (mstI yCol1 (mstI yCol1 (mstI q4 (fork_t rfl rfl)))))))))
 | true =>
 obtain ⟨f1, f2, f3⟩ := fits_t.1 hf
 have f2 : nv = nk := by simpa using f2
 subst f2
 obtain ⟨eB, room, h3, hbig, eF, eS, g4, g64⟩ := slot_room hr (slot := slot) (by omega) (by omega)
 have eV := verN (cs := cs) eB ⟨by omega, by omega⟩
 have iV : 0 ≤ verC cs ct cf slot ∧ verC cs ct cf slot < (sizeN cs ct cf : Int) := by rw [eV]; omega
 have iV' : yNlt (yNadd 0 (yNat (verC cs ct cf slot))) (sizeN cs ct cf) = true := by rw [eV, yNatN]; simp only [vS, forall_const]; omega
 have pre : yAnd (rightC cs ct cf cl cp) (yAnd (yAnd (yLe 0 slot) (yLe slot cs)) (yAnd (yNeq (sizeN cs ct cf) (sizeN cs ct cf)) (yAnd (yLe (yInt nv) cf) (yLe (yInt nv) cf)))) = true := by
   simp only [vS, forall_const, hr]; omega
 have pv : yAnd (rightC cs ct cf cl cp) (yAnd (yLe 0 slot) (yLe slot cs)) = true := by simp only [vS, forall_const, hr]; omega
 have pc : yAnd (yAnd (yLe 0 count) (yLt count 18446744073709551616)) (yAnd (yLe 0 3) (yLt 3 18446744073709551616)) = true := by
   have hc := hc; simp only [yAnd_t, yLe_t, yLt_t] at hc
   simp only [vS, forall_const]; omega
 refine mstI hr (mstI hr (fork_f q1' (fork_f q2' (fork_f q3' (fork_f rfl (mstI yCol1 (mstI yCol1 (mstI q4 (fork_f rfl (mstI hr (mstI rfl (mstI (yNeq_t.mpr rfl) (mstI yCol1 (mstI yCol1 (mstI yCol1 (mstI pre (mstI pc (mstI pv (mstI (yIn_t.mpr iV) (mstI iV' (mstI yCol1 (mstI yCol1 ?_))))))))))))))))))))))
 refine mstI ?_ ?_
 · simp only [vS, forall_const]; omega
 first | rfl | (trace_state; fail)
theorem goalEmP_tt : (goalEmP) = True := goalEmP_eq.trans (eq_true goalEmP_vc)
theorem goalEmP_ok : goalEmP := @ft' goalEmP goalEmP_tt
def goalEmNV : Prop := (∀ (cs ct cf cl cp slot : Int) (i kn : Bool) (nk : Nat) (k : Nat → Int) (vn : Bool) (nv : Nat) (v : Nat → Int) (l ix0 key val count : Int) (q : Nat), rightC cs ct cf cl cp = true → yAnd (yLe 0 count) (yLt count 18446744073709551616) = true → mst (rightC cs ct cf cl cp) (mst (rightC cs ct cf cl cp) ((yLt 5000 (sizeC cs ct cf) = true → true = true) ∧ (yLt 5000 (sizeC cs ct cf) = false → (yLt slot (1 : Int) = true → true = true) ∧ (yLt slot (1 : Int) = false → (yLt cs slot = true → true = true) ∧ (yLt cs slot = false → (i = true → true = true) ∧ (i = false → mst (yCol (CK.int IntKind.u64) nk fun (i : Nat) => AV.y IntKind.u64 (k i)) (mst (yCol (CK.int IntKind.u64) nv fun (i : Nat) => AV.y IntKind.u64 (v i)) (mst (yAnd (yNot i) (yLe cf 64)) ((yNot (fitsC i nk (fun (i : Nat) => k i) nv cf) = true → true = true) ∧ (yNot (fitsC i nk (fun (i : Nat) => k i) nv cf) = false → mst (rightC cs ct cf cl cp) (mst (yNeq 0 0) (mst (yNeq (sizeN cs ct cf) (sizeN cs ct cf)) (mst (yCol (CK.int IntKind.u64) (sizeN cs ct cf) fun (i : Nat) => AV.y IntKind.u64 (newW cs ct cf i)) (mst (yCol (CK.int IntKind.u64) nk fun (i : Nat) => AV.y IntKind.u64 (k i)) (mst (yCol (CK.int IntKind.u64) nv fun (i : Nat) => AV.y IntKind.u64 (v i)) (mst (yAnd (rightC cs ct cf cl cp) (yAnd (yAnd (yLe 0 slot) (yLe slot cs)) (yAnd (yNeq (sizeN cs ct cf) (sizeN cs ct cf)) (yAnd (yLe (yInt nk) cf) (yLe (yInt nv) cf))))) (mst (yAnd (yAnd (yLe 0 count) (yLt count 18446744073709551616)) (yAnd (yLe 0 3) (yLt 3 18446744073709551616))) (mst (yAnd (rightC cs ct cf cl cp) (yAnd (yLe 0 slot) (yLe slot cs))) (mst (yIn (verC cs ct cf slot) (sizeN cs ct cf)) (mst (yNlt (yNadd 0 (yNat (verC cs ct cf slot))) (sizeN cs ct cf)) (mst (yCol (CK.int IntKind.u64) nk fun (i : Nat) => AV.y IntKind.u64 (k i)) (mst (yCol (CK.int IntKind.u64) nv fun (i : Nat) => AV.y IntKind.u64 (v i)) (mst (yNle nk 1000000) (true = true)))))))))))))))))))))))))
theorem goalEmN_eq : goalEmN = goalEmNV := by kernel_rfl
set_option maxHeartbeats 8000000 in
theorem goalEmN_vc : goalEmNV := by
 unfold goalEmNV
 intro cs ct cf cl cp slot i kn nk k vn nv v l ix0 key val count q hr hc
 by_cases q1 : 5000 < sizeC cs ct cf
 · refine mstI hr (mstI hr (fork_t (yLt_t.mpr q1) rfl))
 have q1' : yLt 5000 (sizeC cs ct cf) = false := yLt_f.mpr (by omega)
 by_cases q2 : slot < 1
 · exact mstI hr (mstI hr (fork_f q1' (fork_t (yLt_t.mpr q2) rfl)))
 have q2' : yLt slot 1 = false := yLt_f.mpr (by omega)
 by_cases q3 : cs < slot
 · exact mstI hr (mstI hr (fork_f q1' (fork_f q2' (fork_t (yLt_t.mpr q3) rfl))))
 have q3' : yLt cs slot = false := yLt_f.mpr (by omega)
 cases i with
 | true => exact mstI hr (mstI hr (fork_f q1' (fork_f q2' (fork_f q3' (fork_t rfl rfl)))))
 | false =>
 have h := rightC_iff.1 hr
 have q4 : yAnd (yNot false) (yLe cf 64) = true := by simp only [vS, forall_const]; omega
 cases hf : fitsC false nk k nv cf with
 | false => exact mstI hr (mstI hr (fork_f q1' (fork_f q2' (fork_f q3' (fork_f rfl (mstI yCol1 (mstI yCol1 (mstI q4 (fork_t rfl rfl)))))))))
 | true =>
 obtain ⟨f1, f2, f3⟩ := fits_t.1 hf
 have f2 : nv = nk := by simpa using f2
 subst f2
 obtain ⟨eB, room, h3, hbig, eF, eS, g4, g64⟩ := slot_room hr (slot := slot) (by omega) (by omega)
 have eV := verN (cs := cs) eB ⟨by omega, by omega⟩
 have iV : 0 ≤ verC cs ct cf slot ∧ verC cs ct cf slot < (sizeN cs ct cf : Int) := by rw [eV]; omega
 have iV' : yNlt (yNadd 0 (yNat (verC cs ct cf slot))) (sizeN cs ct cf) = true := by rw [eV, yNatN]; simp only [vS, forall_const]; omega
 have pre : yAnd (rightC cs ct cf cl cp) (yAnd (yAnd (yLe 0 slot) (yLe slot cs)) (yAnd (yNeq (sizeN cs ct cf) (sizeN cs ct cf)) (yAnd (yLe (yInt nv) cf) (yLe (yInt nv) cf)))) = true := by
   simp only [vS, forall_const, hr]; omega
 have pv : yAnd (rightC cs ct cf cl cp) (yAnd (yLe 0 slot) (yLe slot cs)) = true := by simp only [vS, forall_const, hr]; omega
 have pc : yAnd (yAnd (yLe 0 count) (yLt count 18446744073709551616)) (yAnd (yLe 0 3) (yLt 3 18446744073709551616)) = true := by
   have hc := hc; simp only [yAnd_t, yLe_t, yLt_t] at hc
   simp only [vS, forall_const]; omega
 refine mstI hr (mstI hr (fork_f q1' (fork_f q2' (fork_f q3' (fork_f rfl (mstI yCol1 (mstI yCol1 (mstI q4 (fork_f rfl (mstI hr (mstI rfl (mstI (yNeq_t.mpr rfl) (mstI yCol1 (mstI yCol1 (mstI yCol1 (mstI pre (mstI pc (mstI pv (mstI (yIn_t.mpr iV) (mstI iV' (mstI yCol1 (mstI yCol1 ?_))))))))))))))))))))))
 refine mstI ?_ ?_
 · simp only [vS, forall_const]; omega
 first | rfl | (trace_state; fail)
theorem goalEmN_tt : (goalEmN) = True := goalEmN_eq.trans (eq_true goalEmN_vc)
theorem goalEmN_ok : goalEmN := @ft' goalEmN goalEmN_tt
end Go.Proofs.YtinijejfhmcmdaaGreatDoor.Ex
end
section
namespace Go.Proofs.YtinijejfhmcmdaaGreatDoor.Ex
open Go
theorem hSlot {slot cs : Int} (h1 : 1 ≤ slot) (h2 : slot ≤ cs) (h3 : cs ≤ 1000) : slotC (makeC 3 slot) = slot ∧ inU (makeC 3 slot) = true ∧ hrC (makeC 3 slot) cs = true := by
 have e : makeC 3 slot = 196608 + slot := by unfold makeC; rw [if_pos (by omega)]; omega
 rw [e]
 refine ⟨?_, ?_, ?_⟩
 · unfold slotC; omega
 · simp only [inU, vS, forall_const]; omega
 · rw [hrC_t]; omega
theorem wordU {count : Int} (hc : 0 ≤ count ∧ count < 18446744073709551616) : 0 ≤ wordC false false count 3 ∧ wordC false false count 3 < 18446744073709551616 := by
 unfold wordC; simp only [Bool.false_eq_true, if_false]; omega
theorem em_leaf {cs ct cf cl cp slot l count : Int} {N : Nat} {k v : Nat → Int} (hr : rightC cs ct cf cl cp = true) (h1 : 1 ≤ slot) (h2 : slot ≤ cs) (hN : N ≤ yNat cf) :
   Leaf (nB ct cf slot) (yNat cf) (wordC false false count 3) N k v (w0Em cs ct cf slot N k N v l count) ∧ w0Em cs ct cf slot N k N v l count (nB ct cf slot + 2) = l := by
 obtain ⟨eB, room, h3, hbig, eF, eS, g4, g64⟩ := slot_room hr (slot := slot) (by omega) h2
 have eV : yNat (verC cs ct cf slot) = nB ct cf slot := by rw [verN (cs := cs) eB ⟨by omega, h2⟩, yNatN]
 have e : ∀ a, w0Em cs ct cf slot N k N v l count a = if a = nB ct cf slot then wordC false false count 3 else if a = nB ct cf slot + 1 then packC false N else if a = nB ct cf slot + 2 then l else spanW (spanW (newW cs ct cf) (nB ct cf slot + 3) N k) (nB ct cf slot + 3 + yNat cf) N v a := fun a => by
   unfold w0Em putW updW; rw [eV]
 refine ⟨⟨?_, ?_, fun j hj => ?_, fun j hj => ?_⟩, ?_⟩
 · rw [e, if_pos rfl]
 · rw [e, if_neg (by omega), if_pos rfl]
 · rw [e, if_neg (by omega), if_neg (by omega), if_neg (by omega)]
   unfold spanW; rw [if_neg (by omega), if_pos (by omega)]; congr 1; omega
 · rw [e, if_neg (by omega), if_neg (by omega), if_neg (by omega)]
   unfold spanW; rw [if_pos (by omega)]; congr 1; omega
 · rw [e, if_neg (by omega), if_neg (by omega), if_pos rfl]
section
variable {cs ct cf cl cp slot l kd key val count : Int} {N : Nat} {k v : Nat → Int}
theorem em_inv (hr : rightC cs ct cf cl cp = true) (h1 : 1 ≤ slot) (h2 : slot ≤ cs) (hN : (N : Int) ≤ cf) (hk : 1 ≤ kd ∧ kd ≤ 3) (hc : 0 ≤ count ∧ count < 18446744073709551616) (m : Nat) : ∀ i, i ≤ m + 1 →
   prEp cs ct cf cl cp (makeC 3 slot) m ⟨(runM cs ct cf (sizeN cs ct cf) (x0Em cs ct cf slot N k N v l kd key val count) i).e, (runM cs ct cf (sizeN cs ct cf) (x0Em cs ct cf slot N k N v l kd key val count) i).po, (runM cs ct cf (sizeN cs ct cf) (x0Em cs ct cf slot N k N v l kd key val count) i).mq, (runM cs ct cf (sizeN cs ct cf) (x0Em cs ct cf slot N k N v l kd key val count) i).mb, i⟩
 | 0, _ => by
   have h := rightC_iff.1 hr
   obtain ⟨e1, e2, e3⟩ := hSlot h1 h2 h.2.1
   have hv : inU (wordC false false count 3) = true := by
     have := wordU hc
     simp only [inU, vS, forall_const]; omega
   exact e0_inv m e2 hv hr (okNw_t.2 ⟨e3, hk.1, hk.2, rfl, Int.natCast_nonneg _, hN⟩)
 | i + 1, hi => tk_inv (em_inv hr h1 h2 hN hk hc m i (by omega)) hi
theorem dn_out {E : EdS} {po : Int} (h : E.at_ ≠ 0) : dnE E po = 0 := by unfold dnE; rw [if_neg h]
end
structure EmF (cs ct cf cl cp slot l kd key val count : Int) (N : Nat) (k v : Nat → Int) (M : Nat) (K' V' : Nat → Int) (x : EmI) : Prop where
 dn : dnE x.e x.po = 1
 inv : invO x.e x.po = true
 old : oldE x.e x.po = if kd = 2 then 0 else v (atC k key N)
 pre : preNd cs ct cf cl cp slot (sizeN cs ct cf) x.w = true
 sz : yAnd (yNle (ndM (ndI ct cf slot x.w) (ndN ct cf slot x.w)) 1000000) (yNle (ndN ct cf slot x.w) 1000000) = true
 nd : yAnd (yIff (ndI ct cf slot x.w) false) (yAnd (eqW (ndM (ndI ct cf slot x.w) (ndN ct cf slot x.w)) (ndK ct cf slot x.w) M K') (yAnd (eqW (ndN ct cf slot x.w) (ndVl ct cf slot x.w) M V') (yEq (ndL ct cf slot x.w) l))) = true
 ver : x.w (yNat (verC cs ct cf slot)) = bumpC (wordC false false count 3)
 out : ∀ a, a < sizeN cs ct cf → x.w a ≠ w0Em cs ct cf slot N k N v l count a → nodeC ct cf slot ≤ a ∧ (a : Int) < nodeC ct cf (slot + 1)
theorem em_fin {cs ct cf cl cp slot l kd key val count : Int} {N : Nat} {k v : Nat → Int} (hr : rightC cs ct cf cl cp = true) (h1 : 1 ≤ slot) (h2 : slot ≤ cs) (hN : (N : Int) ≤ cf) (hk : Rises k N) (hc : 0 ≤ count ∧ count < 18446744073709551616)
   (ok : chOk kd (isC k key N) N cf) {x : EmI} (hx : prEm cs ct cf (sizeN cs ct cf) (x0Em cs ct cf slot N k N v l kd key val count) (tEm cs ct cf slot N k v kd key val count) x) (hq : dnE x.e x.po ≠ 0 ∨ 6 * cf + 9 ≤ x.i)
   {M : Nat} {K' V' : Nat → Int} (hM : chN kd N = M) (hK : ∀ j, j < M → chK kd (atC k key N) key k j = K' j) (hV : ∀ j, j < M → chV kd (atC k key N) val v j = V' j) :
   EmF cs ct cf cl cp slot l kd key val count N k v M K' V' x := by
 have h := rightC_iff.1 hr
 have hk3 : 1 ≤ kd ∧ kd ≤ 3 := by rcases ok with ⟨e, _⟩ | ⟨e, _⟩ | ⟨e, _⟩ <;> omega
 obtain ⟨eB, room, h3, hbig, eF, eS, g4, g64⟩ := slot_room hr (slot := slot) (by omega) h2
 obtain ⟨e1, e2, e3⟩ := hSlot h1 h2 h.2.1
 have hNF : N ≤ yNat cf := by omega
 obtain ⟨lf, lnk⟩ := em_leaf (l := l) (count := count) (k := k) (v := v) hr h1 h2 hNF
 have E := ch_end (cs := cs) (h := makeC 3 slot) (val := val) (by rw [e1]; exact ⟨h1, h2⟩) (by rw [e1]; exact eB) eF g4 room hNF hk ok lf (fun i => runM cs ct cf (sizeN cs ct cf) (x0Em cs ct cf slot N k N v l kd key val count) i) rfl (tEm cs ct cf slot N k v kd key val count) rfl
 obtain ⟨b1, b2, b3, b4, b5, b6, b7, b8, b9, b10, b11⟩ := E
 obtain ⟨i1, i2⟩ := hx
 have iT : x.i = tEm cs ct cf slot N k v kd key val count := by
   rcases hq with q | q
   · rcases Nat.lt_or_ge x.i (tEm cs ct cf slot N k v kd key val count) with c | c
     · exfalso; apply q; rw [i2]; exact dn_out (b5 _ c)
     · omega
   · omega
 rw [iT] at i2
 have inv := em_inv (N := N) (k := k) (v := v) (l := l) (key := key) (val := val) hr h1 h2 hN hk3 hc (tEm cs ct cf slot N k v kd key val count) (tEm cs ct cf slot N k v kd key val count) (by omega)
 rw [← i2] at inv
 simp only [← i2] at b1 b2 b3 b6 b7 b8 b9 b10 b11
 have hM64 : M ≤ 64 := by
   rw [← hM]; unfold chN
   rcases ok with ⟨e, _⟩ | ⟨e, _, _⟩ | ⟨e, _⟩
   · rw [if_neg (by omega), if_neg (by omega)]; omega
   · rw [if_pos e]; omega
   · rw [if_neg (by omega), if_pos e]; omega
 have hMF : (M : Int) ≤ cf := by
   rw [← hM]; unfold chN
   rcases ok with ⟨e, _⟩ | ⟨e, _, _⟩ | ⟨e, _⟩
   · rw [if_neg (by omega), if_neg (by omega)]; omega
   · rw [if_pos e]; omega
   · rw [if_neg (by omega), if_pos e]; omega
 rw [hM] at b7 b9 b10
 have eP : packC false (M : Int) = 2 * M := by unfold packC; rw [if_pos (by omega), if_neg (by decide)]; omega
 have s1 : ndS ct cf slot x.w = 2 * M := by unfold ndS; rw [b7, eP]
 have s2 : ndI ct cf slot x.w = false := by unfold ndI innC; rw [s1]; exact decide_eq_false (by omega)
 have s3 : ndN ct cf slot x.w = M := by
   unfold ndN entC; rw [s1, if_neg (by omega), if_neg (by omega)]; unfold yNat; omega
 have s4 : ndM false M = M := rfl
 refine ⟨?_, inv.2.2.2.1, b3, ?_, ?_, ?_, ?_, fun a ha hne => ?_⟩
 · unfold dnE; rw [if_pos b1, if_pos b2]
 · unfold preNd
   simp only [inU, vS, forall_const, hr, s1]; omega
 · rw [s2, s3, s4]; simp only [vS, forall_const]; omega
 · rw [s2, s3, s4]
   have w1 : eqW M (ndK ct cf slot x.w) M K' = true := eqW_t.2 ⟨rfl, fun j hj => by unfold ndK; rw [b9 j hj]; exact hK j hj⟩
   have w2 : eqW M (ndVl ct cf slot x.w) M V' = true := eqW_t.2 ⟨rfl, fun j hj => by unfold ndVl; rw [b10 j hj]; exact hV j hj⟩
   have w3 : yEq (ndL ct cf slot x.w) l = true := by rw [yEq_t]; unfold ndL; rw [b8, lnk]
   rw [w1, w2, w3]; rfl
 · rw [verN (cs := cs) eB ⟨by omega, h2⟩, yNatN]; exact b6
 · have : ¬ (a < nB ct cf slot ∨ nB ct cf slot + 3 + 2 * yNat cf ≤ a) := fun c => hne (b11 a c)
   have e4 : nodeC ct cf (slot + 1) = nodeC ct cf slot + (3 + 2 * cf) := by unfold nodeC; rw [Int.add_mul, Int.one_mul]; omega
   omega
theorem em_big {cs ct cf cl cp slot l kd key val count : Int} {N : Nat} {k v : Nat → Int} (hr : rightC cs ct cf cl cp = true) (h1 : 1 ≤ slot) (h2 : slot ≤ cs) (hN : (N : Int) ≤ cf) (hk : Rises k N) (_hc : 0 ≤ count ∧ count < 18446744073709551616)
   (ok : chOk kd (isC k key N) N cf) {x : EmI} (hx : prEm cs ct cf (sizeN cs ct cf) (x0Em cs ct cf slot N k N v l kd key val count) (tEm cs ct cf slot N k v kd key val count) x) (hq : tEm cs ct cf slot N k v kd key val count ≤ x.i) : dnE x.e x.po = 1 := by
 have h := rightC_iff.1 hr
 obtain ⟨eB, room, h3, hbig, eF, eS, g4, g64⟩ := slot_room hr (slot := slot) (by omega) h2
 obtain ⟨e1, e2, e3⟩ := hSlot h1 h2 h.2.1
 have hNF : N ≤ yNat cf := by omega
 obtain ⟨lf, lnk⟩ := em_leaf (l := l) (count := count) (k := k) (v := v) hr h1 h2 hNF
 have E := ch_end (cs := cs) (h := makeC 3 slot) (val := val) (by rw [e1]; exact ⟨h1, h2⟩) (by rw [e1]; exact eB) eF g4 room hNF hk ok lf (fun i => runM cs ct cf (sizeN cs ct cf) (x0Em cs ct cf slot N k N v l kd key val count) i) rfl (tEm cs ct cf slot N k v kd key val count) rfl
 obtain ⟨i1, i2⟩ := hx
 have iT : x.i = tEm cs ct cf slot N k v kd key val count := by omega
 rw [iT] at i2
 have b1 := E.1
 have b2 := E.2.1
 simp only [← i2] at b1 b2
 unfold dnE; rw [if_pos b1, if_pos b2]
theorem tEm_le {cs ct cf slot kd key val count : Int} {N : Nat} {k v : Nat → Int} (hN : (N : Int) ≤ cf) (h64 : yNat cf ≤ 64) : tEm cs ct cf slot N k v kd key val count ≤ 10000 := by
 have h1 : N ≤ 64 := by unfold yNat at h64; omega
 have := ch_len (cs := cs) (ct := ct) (cf := cf) (v := wordC false false count 3) (kd := kd) (key := key) (val := val) (s := slotC (makeC 3 slot)) (k := trI N k) (w := trI N v) (atC_le (k := k) (x := key) N)
 unfold tEm chT; omega
theorem chk1 {k : Nat → Int} {key : Int} {N j : Nat} (hk : Rises k N) (his : isC k key N = true) : chK 1 (atC k key N) key k j = putK (isC k key N) (atC k key N) key k j := by
 have := isC_at hk his
 rw [his]
 show k j = if j < atC k key N then k j else if j = atC k key N then key else k (if true then j else j - 1)
 by_cases h1 : j < atC k key N
 · rw [if_pos h1]
 · rw [if_neg h1]
   by_cases h2 : j = atC k key N
   · rw [if_pos h2, h2]; exact this.2
   · rw [if_neg h2]; rfl
theorem chv1 {k v : Nat → Int} {key val : Int} {N j : Nat} (his : isC k key N = true) : chV 1 (atC k key N) val v j = putK (isC k key N) (atC k key N) val v j := by
 rw [his]
 show (if j = atC k key N then val else v j) = if j < atC k key N then v j else if j = atC k key N then val else v (if true then j else j - 1)
 by_cases h1 : j < atC k key N
 · rw [if_pos h1, if_neg (by omega)]
 · rw [if_neg h1]; rfl
end Go.Proofs.YtinijejfhmcmdaaGreatDoor.Ex
end
