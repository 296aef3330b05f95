/- Contracts: script.Op and gleaningref28.Op: an operation's words. -/
import Derived.Test.YtjelhmdkaemiiaaDoorCInt
namespace Go.Proofs.YtjelhmdkaemiiaaDoor.Ex
open Go

-- OPEN opC wGet wPut wDelete wScan
def wGet : List UInt8 := [103, 101, 116]
def wPut : List UInt8 := [112, 117, 116]
def wDelete : List UInt8 := [100, 101, 108, 101, 116, 101]
def wScan : List UInt8 := [115, 99, 97, 110]
/-- An operation's words; none: it has none. -/
def opC (k key val hi most : Int) : List UInt8 :=
  bif yEq k 1 then (bif yAnd (yEq val 0) (yAnd (yEq hi 0) (yEq most 0)) then wGet ++ 32 :: fm key else [])
  else bif yEq k 2 then (bif yAnd (yEq hi 0) (yEq most 0) then wPut ++ 32 :: fm key ++ 32 :: fm val else [])
  else bif yEq k 3 then (bif yAnd (yEq val 0) (yAnd (yEq hi 0) (yEq most 0)) then wDelete ++ 32 :: fm key else [])
  else bif yAnd (yEq k 4) (yAnd (yLe 1 most) (yLe most 1000)) then (bif yEq val 0 then wScan ++ 32 :: fm key ++ 32 :: fm hi ++ 32 :: fmI most else [])
  else []
def fOp (ds : List Da) : Option (Bool × AV) :=
  match ds with
  | [.agg [.v (.y .i64 k), .v (.y .u64 key), .v (.y .u64 val), .v (.y .u64 hi), .v (.y .i64 most)]] => some (inO key val hi, .ys (opC k key val hi most))
  | _ => none
def kindsL : List UInt8 := [32, 103, 101, 116, 32, 112, 117, 116, 32, 100, 101, 108, 101, 116, 101, 32, 115, 99, 97, 110]
abbrev aoKinds : AO := .cells [.s [103, 101, 116], .s [112, 117, 116], .s [100, 101, 108, 101, 116, 101], .s [115, 99, 97, 110]] 9 none
set_option maxRecDepth 100000 in
theorem fields_eq : isSl 0 4 4 false [.s [103, 101, 116], .s [112, 117, 116], .s [100, 101, 108, 101, 116, 101], .s [115, 99, 97, 110]] 9 none (callS Tryd.prog noSm 1000 36 [.s kindsL]) = ((0 : Nat) = 0 ∧ (4 : Nat) = 4 ∧ (4 : Nat) = 4 ∧ false = false ∧ some aoKinds = some aoKinds) := by kernel_rfl
set_option maxRecDepth 100000 in
theorem smFields (hm : Tryd.prog.follows .mixedOrders = true) : SmCall Tryd.prog 36 (closG kindsL 0 4 4 false aoKinds) :=
  sm_closed hm noSm_ok (kernel_go fields_eq ⟨rfl, rfl, rfl, rfl, rfl⟩) rfl
/-- What Right tells where it is known. -/
def fRgT (ds : List Da) : Option (Bool × AV) :=
  match ds with
  | [.agg [.v (.y .i64 k), .v (.y .u64 _), .v (.y .u64 _), .v (.y .u64 _), .v (.y .i64 most)]] => some (rightO k most, .b true)
  | _ => none
def fRgF (ds : List Da) : Option (Bool × AV) :=
  match ds with
  | [.agg [.v (.y .i64 k), .v (.y .u64 _), .v (.y .u64 _), .v (.y .u64 _), .v (.y .i64 most)]] => some (yNot (rightO k most), .b false)
  | _ => none
def lOpA (fR : List Da → Option (Bool × AV)) : List (Nat × Sm) := [(36, .call (closG kindsL 0 4 4 false aoKinds)), (33, .ct (ctS gOp fR)), (19, .ct (ctS gOp fR)), (25, .ct (ctS gI1 fInt)), (11, .ct (ctS gI1 fInt)), (35, .ct (ctX [sO] sO fPl)), (37, .ct (ctS [.cell cStr, .cell none] fJoin)), (47, .ct (ctS gForm fForm)), (20, .ct (ctS gForm fForm))]
abbrev dOk (k : AV) (key val hi most : Int) : List Da := [.agg [.v k, .v (.y .u64 key), .v (.y .u64 val), .v (.y .u64 hi), .v (.y .i64 most)]]
def gOpg (P : Program) (f : FuncId) (fR : List Da → Option (Bool × AV)) (k : AV) (n : Int) (r : Bool) : Prop := ∀ (key val hi most : Int), inO key val hi = true → rightO n most = r → wxF P (smL (lOpA fR)) (fun _ => none) 1000 f (canA gOp (dOk k key val hi most) []).1 (heapOf (canA gOp (dOk k key val hi most) []).2) (fun v _ => cmpC (.ys (opC n key val hi most)) v)
def goalOp0 : Prop := ∀ (k : Int), gOpg Tryd.prog 26 fRgF (.y .i64 k) k false
def goalOp1 : Prop := gOpg Tryd.prog 26 fRgT (.i .i64 (.ofNat 1)) 1 true
def goalOp2 : Prop := gOpg Tryd.prog 26 fRgT (.i .i64 (.ofNat 2)) 2 true
def goalOp3 : Prop := gOpg Tryd.prog 26 fRgT (.i .i64 (.ofNat 3)) 3 true
def goalOp4 : Prop := gOpg Tryd.prog 26 fRgT (.i .i64 (.ofNat 4)) 4 true
def goalOpR0 : Prop := ∀ (k : Int), gOpg Tryd.prog 10 fRgF (.y .i64 k) k false
def goalOpR1 : Prop := gOpg Tryd.prog 10 fRgT (.i .i64 (.ofNat 1)) 1 true
def goalOpR2 : Prop := gOpg Tryd.prog 10 fRgT (.i .i64 (.ofNat 2)) 2 true
def goalOpR3 : Prop := gOpg Tryd.prog 10 fRgT (.i .i64 (.ofNat 3)) 3 true
def goalOpR4 : Prop := gOpg Tryd.prog 10 fRgT (.i .i64 (.ofNat 4)) 4 true
theorem inO_t {key val hi : Int} (h : inO key val hi = true) : inU key = true ∧ inU val = true ∧ inU hi = true := by
  simpa only [inO, yAnd_t] using h
theorem yLen_cat (a b : List UInt8) : yLen (yCat a b) = yLen a + yLen b := List.length_append
theorem yLen_cons (a : UInt8) (b : List UInt8) : yLen (a :: b) = yLen b + 1 := rfl
theorem yLen_nil : yLen [] = 0 := rfl
theorem fmI_len (n : Int) : yLen (fmI n) ≤ 21 := by
  unfold fmI
  have h1 := fm_len n
  have h2 := fm_len (0 - n)
  cases yLt n 0 with
  | true => show yLen (fm (0 - n)) + 1 ≤ 21; omega
  | false => show yLen (fm n) ≤ 21; omega
theorem opC_1 (key val hi most : Int) : opC 1 key val hi most = bif yAnd (yEq val 0) (yAnd (yEq hi 0) (yEq most 0)) then wGet ++ 32 :: fm key else [] := rfl
theorem opC_2 (key val hi most : Int) : opC 2 key val hi most = bif yAnd (yEq hi 0) (yEq most 0) then wPut ++ 32 :: fm key ++ 32 :: fm val else [] := rfl
theorem opC_3 (key val hi most : Int) : opC 3 key val hi most = bif yAnd (yEq val 0) (yAnd (yEq hi 0) (yEq most 0)) then wDelete ++ 32 :: fm key else [] := rfl
theorem opC_4 {most : Int} (h : rightO 4 most = true) (key val hi : Int) : opC 4 key val hi most = bif yEq val 0 then wScan ++ 32 :: fm key ++ 32 :: fm hi ++ 32 :: fmI most else [] := by
  have h2 : yAnd (yLe 1 most) (yLe most 1000) = true := h
  show (bif yAnd (yEq 4 4) (yAnd (yLe 1 most) (yLe most 1000)) then _ else _) = _
  rw [h2]; rfl
theorem opC_off {k most : Int} (h : rightO k most = false) (key val hi : Int) : opC k key val hi most = [] := by
  unfold opC
  unfold rightO at h
  cases h4 : yEq k 4 with
  | true =>
    rw [h4, cond_true] at h
    have e : k = 4 := of_decide_eq_true h4
    subst e
    rw [h]; rfl
  | false =>
    rw [h4, cond_false] at h
    have n1 : yEq k 1 = false := by
      cases e : yEq k 1 with
      | false => rfl
      | true => rw [of_decide_eq_true e] at h; cases h
    have n2 : yEq k 2 = false := by
      cases e : yEq k 2 with
      | false => rfl
      | true => rw [of_decide_eq_true e] at h; cases h
    have n3 : yEq k 3 = false := by
      cases e : yEq k 3 with
      | false => rfl
      | true => rw [of_decide_eq_true e] at h; cases h
    rw [n1, n2, n3]; rfl
theorem rightO_cases {k most : Int} (h : rightO k most = true) : k = 1 ∨ k = 2 ∨ k = 3 ∨ k = 4 := by
  unfold rightO at h
  cases h4 : yEq k 4 with
  | true => exact .inr (.inr (.inr (of_decide_eq_true h4)))
  | false =>
    rw [h4, cond_false] at h
    simp only [yAnd_t, yLe_t] at h
    omega
theorem joinL2 (a b : List UInt8) : joinL [a, b] [32] = a ++ 32 :: b := by simp [joinL, Lib.join_cons, Lib.joinTail]
theorem joinL3 (a b c : List UInt8) : joinL [a, b, c] [32] = a ++ 32 :: b ++ 32 :: c := by simp [joinL, Lib.join_cons, Lib.joinTail]
theorem joinL4 (a b c d : List UInt8) : joinL [a, b, c, d] [32] = a ++ 32 :: b ++ 32 :: c ++ 32 :: d := by simp [joinL, Lib.join_cons, Lib.joinTail]
theorem join2 (a b : List UInt8) (h1 : yLen a ≤ 100) (h2 : yLen b ≤ 100) : joinB [a, b] [32] = true := by
  unfold yLen at *
  unfold joinB; rw [joinL2]; simp; omega
theorem join3 (a b c : List UInt8) (h1 : yLen a ≤ 100) (h2 : yLen b ≤ 100) (h3 : yLen c ≤ 100) : joinB [a, b, c] [32] = true := by
  unfold yLen at *
  unfold joinB; rw [joinL3]; simp; omega
theorem join4 (a b c d : List UInt8) (h1 : yLen a ≤ 100) (h2 : yLen b ≤ 100) (h3 : yLen c ≤ 100) (h4 : yLen d ≤ 100) : joinB [a, b, c, d] [32] = true := by
  unfold yLen at *
  unfold joinB; rw [joinL4]; simp; omega
set_option maxRecDepth 100000 in
theorem goalOp0_eq : goalOp0 = (∀ (k key val hi most : Int), inO key val hi = true → rightO k most = false → (yNot (rightO k most) = true → opC k key val hi most = []) ∧ (yNot (rightO k most) = false → False)) := by kernel_rfl
set_option maxRecDepth 100000 in
theorem goalOp1_eq : goalOp1 = (∀ (key val hi most : Int), inO key val hi = true → rightO (1 : Int) most = true → (rightO (1 : Int) most = true → (true = true → (yNot (yAnd (yEq (1 : Int) (1 : Int)) (yAnd (yEq key key) (yAnd (yEq val (ySel (yEq (1 : Int) (2 : Int)) val (0 : Int))) (yAnd (yEq hi (ySel (yEq (1 : Int) (4 : Int)) hi (0 : Int))) (yAnd (yEq most (ySel (yEq (1 : Int) (4 : Int)) most (0 : Int))) true))))) = true → opC (1 : Int) key val hi most = []) ∧ (yNot (yAnd (yEq (1 : Int) (1 : Int)) (yAnd (yEq key key) (yAnd (yEq val (ySel (yEq (1 : Int) (2 : Int)) val (0 : Int))) (yAnd (yEq hi (ySel (yEq (1 : Int) (4 : Int)) hi (0 : Int))) (yAnd (yEq most (ySel (yEq (1 : Int) (4 : Int)) most (0 : Int))) true))))) = false → (yAnd (yEq (10 : Int) (10 : Int)) (inU key) = true → (joinB [[(103 : UInt8), (101 : UInt8), (116 : UInt8)], fm key] [(32 : UInt8)] = true → opC (1 : Int) key val hi most = joinL [[(103 : UInt8), (101 : UInt8), (116 : UInt8)], fm key] [(32 : UInt8)]) ∧ (joinB [[(103 : UInt8), (101 : UInt8), (116 : UInt8)], fm key] [(32 : UInt8)] = false → False)) ∧ (yAnd (yEq (10 : Int) (10 : Int)) (inU key) = false → False))) ∧ (true = false → False)) ∧ (rightO (1 : Int) most = false → False)) := by kernel_rfl
set_option maxRecDepth 100000 in
theorem goalOp2_eq : goalOp2 = (∀ (key val hi most : Int), inO key val hi = true → rightO (2 : Int) most = true → (rightO (2 : Int) most = true → (true = true → (yNot (yAnd (yEq (2 : Int) (2 : Int)) (yAnd (yEq key key) (yAnd (yEq val (ySel (yEq (2 : Int) (2 : Int)) val (0 : Int))) (yAnd (yEq hi (ySel (yEq (2 : Int) (4 : Int)) hi (0 : Int))) (yAnd (yEq most (ySel (yEq (2 : Int) (4 : Int)) most (0 : Int))) true))))) = true → opC (2 : Int) key val hi most = []) ∧ (yNot (yAnd (yEq (2 : Int) (2 : Int)) (yAnd (yEq key key) (yAnd (yEq val (ySel (yEq (2 : Int) (2 : Int)) val (0 : Int))) (yAnd (yEq hi (ySel (yEq (2 : Int) (4 : Int)) hi (0 : Int))) (yAnd (yEq most (ySel (yEq (2 : Int) (4 : Int)) most (0 : Int))) true))))) = false → (yAnd (yEq (10 : Int) (10 : Int)) (inU key) = true → (yAnd (yEq (10 : Int) (10 : Int)) (inU val) = true → (joinB [[(112 : UInt8), (117 : UInt8), (116 : UInt8)], fm key, fm val] [(32 : UInt8)] = true → opC (2 : Int) key val hi most = joinL [[(112 : UInt8), (117 : UInt8), (116 : UInt8)], fm key, fm val] [(32 : UInt8)]) ∧ (joinB [[(112 : UInt8), (117 : UInt8), (116 : UInt8)], fm key, fm val] [(32 : UInt8)] = false → False)) ∧ (yAnd (yEq (10 : Int) (10 : Int)) (inU val) = false → False)) ∧ (yAnd (yEq (10 : Int) (10 : Int)) (inU key) = false → False))) ∧ (true = false → False)) ∧ (rightO (2 : Int) most = false → False)) := by kernel_rfl
set_option maxRecDepth 100000 in
theorem goalOp3_eq : goalOp3 = (∀ (key val hi most : Int), inO key val hi = true → rightO (3 : Int) most = true → (rightO (3 : Int) most = true → (true = true → (yNot (yAnd (yEq (3 : Int) (3 : Int)) (yAnd (yEq key key) (yAnd (yEq val (ySel (yEq (3 : Int) (2 : Int)) val (0 : Int))) (yAnd (yEq hi (ySel (yEq (3 : Int) (4 : Int)) hi (0 : Int))) (yAnd (yEq most (ySel (yEq (3 : Int) (4 : Int)) most (0 : Int))) true))))) = true → opC (3 : Int) key val hi most = []) ∧ (yNot (yAnd (yEq (3 : Int) (3 : Int)) (yAnd (yEq key key) (yAnd (yEq val (ySel (yEq (3 : Int) (2 : Int)) val (0 : Int))) (yAnd (yEq hi (ySel (yEq (3 : Int) (4 : Int)) hi (0 : Int))) (yAnd (yEq most (ySel (yEq (3 : Int) (4 : Int)) most (0 : Int))) true))))) = false → (yAnd (yEq (10 : Int) (10 : Int)) (inU key) = true → (joinB [[(100 : UInt8), (101 : UInt8), (108 : UInt8), (101 : UInt8), (116 : UInt8), (101 : UInt8)], fm key] [(32 : UInt8)] = true → opC (3 : Int) key val hi most = joinL [[(100 : UInt8), (101 : UInt8), (108 : UInt8), (101 : UInt8), (116 : UInt8), (101 : UInt8)], fm key] [(32 : UInt8)]) ∧ (joinB [[(100 : UInt8), (101 : UInt8), (108 : UInt8), (101 : UInt8), (116 : UInt8), (101 : UInt8)], fm key] [(32 : UInt8)] = false → False)) ∧ (yAnd (yEq (10 : Int) (10 : Int)) (inU key) = false → False))) ∧ (true = false → False)) ∧ (rightO (3 : Int) most = false → False)) := by kernel_rfl
set_option maxRecDepth 100000 in
theorem goalOp4_eq : goalOp4 = (∀ (key val hi most : Int), inO key val hi = true → rightO (4 : Int) most = true → (rightO (4 : Int) most = true → (true = true → (yNot (yAnd (yEq (4 : Int) (4 : Int)) (yAnd (yEq key key) (yAnd (yEq val (ySel (yEq (4 : Int) (2 : Int)) val (0 : Int))) (yAnd (yEq hi (ySel (yEq (4 : Int) (4 : Int)) hi (0 : Int))) (yAnd (yEq most (ySel (yEq (4 : Int) (4 : Int)) most (0 : Int))) true))))) = true → opC (4 : Int) key val hi most = []) ∧ (yNot (yAnd (yEq (4 : Int) (4 : Int)) (yAnd (yEq key key) (yAnd (yEq val (ySel (yEq (4 : Int) (2 : Int)) val (0 : Int))) (yAnd (yEq hi (ySel (yEq (4 : Int) (4 : Int)) hi (0 : Int))) (yAnd (yEq most (ySel (yEq (4 : Int) (4 : Int)) most (0 : Int))) true))))) = false → (yAnd (yEq (10 : Int) (10 : Int)) (inU key) = true → (yAnd (yEq (10 : Int) (10 : Int)) (inU hi) = true → (inI most = true → (joinB [[(115 : UInt8), (99 : UInt8), (97 : UInt8), (110 : UInt8)], fm key, fm hi, fmI most] [(32 : UInt8)] = true → opC (4 : Int) key val hi most = joinL [[(115 : UInt8), (99 : UInt8), (97 : UInt8), (110 : UInt8)], fm key, fm hi, fmI most] [(32 : UInt8)]) ∧ (joinB [[(115 : UInt8), (99 : UInt8), (97 : UInt8), (110 : UInt8)], fm key, fm hi, fmI most] [(32 : UInt8)] = false → False)) ∧ (inI most = false → False)) ∧ (yAnd (yEq (10 : Int) (10 : Int)) (inU hi) = false → False)) ∧ (yAnd (yEq (10 : Int) (10 : Int)) (inU key) = false → False))) ∧ (true = false → False)) ∧ (rightO (4 : Int) most = false → False)) := by kernel_rfl
set_option maxRecDepth 100000 in
theorem goalOpR0_eq : goalOpR0 = (∀ (k key val hi most : Int), inO key val hi = true → rightO k most = false → (yNot (rightO k most) = true → opC k key val hi most = []) ∧ (yNot (rightO k most) = false → False)) := by kernel_rfl
set_option maxRecDepth 100000 in
theorem goalOpR1_eq : goalOpR1 = (∀ (key val hi most : Int), inO key val hi = true → rightO (1 : Int) most = true → (rightO (1 : Int) most = true → (yNot (yEq val (0 : Int)) = true → opC (1 : Int) key val hi most = []) ∧ (yNot (yEq val (0 : Int)) = false → (yNot (yEq hi (0 : Int)) = true → opC (1 : Int) key val hi most = []) ∧ (yNot (yEq hi (0 : Int)) = false → (yNot (yEq most (0 : Int)) = true → opC (1 : Int) key val hi most = []) ∧ (yNot (yEq most (0 : Int)) = false → (yAnd (yEq (10 : Int) (10 : Int)) (inU key) = true → (yNle (yNadd (yLen [(103 : UInt8), (101 : UInt8), (116 : UInt8), (32 : UInt8)]) (yLen (fm key))) (nat_lit 9223372036854775807) = true → opC (1 : Int) key val hi most = yCat [(103 : UInt8), (101 : UInt8), (116 : UInt8), (32 : UInt8)] (fm key)) ∧ (yNle (yNadd (yLen [(103 : UInt8), (101 : UInt8), (116 : UInt8), (32 : UInt8)]) (yLen (fm key))) (nat_lit 9223372036854775807) = false → False)) ∧ (yAnd (yEq (10 : Int) (10 : Int)) (inU key) = false → False))))) ∧ (rightO (1 : Int) most = false → False)) := by kernel_rfl
set_option maxRecDepth 100000 in
theorem goalOpR2_eq : goalOpR2 = (∀ (key val hi most : Int), inO key val hi = true → rightO (2 : Int) most = true → (rightO (2 : Int) most = true → (yNot (yEq hi (0 : Int)) = true → opC (2 : Int) key val hi most = []) ∧ (yNot (yEq hi (0 : Int)) = false → (yNot (yEq most (0 : Int)) = true → opC (2 : Int) key val hi most = []) ∧ (yNot (yEq most (0 : Int)) = false → (yAnd (yEq (10 : Int) (10 : Int)) (inU key) = true → (yNle (yNadd (yLen [(112 : UInt8), (117 : UInt8), (116 : UInt8), (32 : UInt8)]) (yLen (fm key))) (nat_lit 9223372036854775807) = true → (yNle (yNadd (yLen (yCat [(112 : UInt8), (117 : UInt8), (116 : UInt8), (32 : UInt8)] (fm key))) (yLen [(32 : UInt8)])) (nat_lit 9223372036854775807) = true → (yAnd (yEq (10 : Int) (10 : Int)) (inU val) = true → (yNle (yNadd (yLen (yCat (yCat [(112 : UInt8), (117 : UInt8), (116 : UInt8), (32 : UInt8)] (fm key)) [(32 : UInt8)])) (yLen (fm val))) (nat_lit 9223372036854775807) = true → opC (2 : Int) key val hi most = yCat (yCat (yCat [(112 : UInt8), (117 : UInt8), (116 : UInt8), (32 : UInt8)] (fm key)) [(32 : UInt8)]) (fm val)) ∧ (yNle (yNadd (yLen (yCat (yCat [(112 : UInt8), (117 : UInt8), (116 : UInt8), (32 : UInt8)] (fm key)) [(32 : UInt8)])) (yLen (fm val))) (nat_lit 9223372036854775807) = false → False)) ∧ (yAnd (yEq (10 : Int) (10 : Int)) (inU val) = false → False)) ∧ (yNle (yNadd (yLen (yCat [(112 : UInt8), (117 : UInt8), (116 : UInt8), (32 : UInt8)] (fm key))) (yLen [(32 : UInt8)])) (nat_lit 9223372036854775807) = false → False)) ∧ (yNle (yNadd (yLen [(112 : UInt8), (117 : UInt8), (116 : UInt8), (32 : UInt8)]) (yLen (fm key))) (nat_lit 9223372036854775807) = false → False)) ∧ (yAnd (yEq (10 : Int) (10 : Int)) (inU key) = false → False)))) ∧ (rightO (2 : Int) most = false → False)) := by kernel_rfl
set_option maxRecDepth 100000 in
theorem goalOpR3_eq : goalOpR3 = (∀ (key val hi most : Int), inO key val hi = true → rightO (3 : Int) most = true → (rightO (3 : Int) most = true → (yNot (yEq val (0 : Int)) = true → opC (3 : Int) key val hi most = []) ∧ (yNot (yEq val (0 : Int)) = false → (yNot (yEq hi (0 : Int)) = true → opC (3 : Int) key val hi most = []) ∧ (yNot (yEq hi (0 : Int)) = false → (yNot (yEq most (0 : Int)) = true → opC (3 : Int) key val hi most = []) ∧ (yNot (yEq most (0 : Int)) = false → (yAnd (yEq (10 : Int) (10 : Int)) (inU key) = true → (yNle (yNadd (yLen [(100 : UInt8), (101 : UInt8), (108 : UInt8), (101 : UInt8), (116 : UInt8), (101 : UInt8), (32 : UInt8)]) (yLen (fm key))) (nat_lit 9223372036854775807) = true → opC (3 : Int) key val hi most = yCat [(100 : UInt8), (101 : UInt8), (108 : UInt8), (101 : UInt8), (116 : UInt8), (101 : UInt8), (32 : UInt8)] (fm key)) ∧ (yNle (yNadd (yLen [(100 : UInt8), (101 : UInt8), (108 : UInt8), (101 : UInt8), (116 : UInt8), (101 : UInt8), (32 : UInt8)]) (yLen (fm key))) (nat_lit 9223372036854775807) = false → False)) ∧ (yAnd (yEq (10 : Int) (10 : Int)) (inU key) = false → False))))) ∧ (rightO (3 : Int) most = false → False)) := by kernel_rfl
set_option maxRecDepth 100000 in
theorem goalOpR4_eq : goalOpR4 = (∀ (key val hi most : Int), inO key val hi = true → rightO (4 : Int) most = true → (rightO (4 : Int) most = true → (yNot (yEq val (0 : Int)) = true → opC (4 : Int) key val hi most = []) ∧ (yNot (yEq val (0 : Int)) = false → (yAnd (yEq (10 : Int) (10 : Int)) (inU key) = true → (yNle (yNadd (yLen [(115 : UInt8), (99 : UInt8), (97 : UInt8), (110 : UInt8), (32 : UInt8)]) (yLen (fm key))) (nat_lit 9223372036854775807) = true → (yNle (yNadd (yLen (yCat [(115 : UInt8), (99 : UInt8), (97 : UInt8), (110 : UInt8), (32 : UInt8)] (fm key))) (yLen [(32 : UInt8)])) (nat_lit 9223372036854775807) = true → (yAnd (yEq (10 : Int) (10 : Int)) (inU hi) = true → (yNle (yNadd (yLen (yCat (yCat [(115 : UInt8), (99 : UInt8), (97 : UInt8), (110 : UInt8), (32 : UInt8)] (fm key)) [(32 : UInt8)])) (yLen (fm hi))) (nat_lit 9223372036854775807) = true → (yNle (yNadd (yLen (yCat (yCat (yCat [(115 : UInt8), (99 : UInt8), (97 : UInt8), (110 : UInt8), (32 : UInt8)] (fm key)) [(32 : UInt8)]) (fm hi))) (yLen [(32 : UInt8)])) (nat_lit 9223372036854775807) = true → (inI most = true → (yNle (yNadd (yLen (yCat (yCat (yCat (yCat [(115 : UInt8), (99 : UInt8), (97 : UInt8), (110 : UInt8), (32 : UInt8)] (fm key)) [(32 : UInt8)]) (fm hi)) [(32 : UInt8)])) (yLen (fmI most))) (nat_lit 9223372036854775807) = true → opC (4 : Int) key val hi most = yCat (yCat (yCat (yCat (yCat [(115 : UInt8), (99 : UInt8), (97 : UInt8), (110 : UInt8), (32 : UInt8)] (fm key)) [(32 : UInt8)]) (fm hi)) [(32 : UInt8)]) (fmI most)) ∧ (yNle (yNadd (yLen (yCat (yCat (yCat (yCat [(115 : UInt8), (99 : UInt8), (97 : UInt8), (110 : UInt8), (32 : UInt8)] (fm key)) [(32 : UInt8)]) (fm hi)) [(32 : UInt8)])) (yLen (fmI most))) (nat_lit 9223372036854775807) = false → False)) ∧ (inI most = false → False)) ∧ (yNle (yNadd (yLen (yCat (yCat (yCat [(115 : UInt8), (99 : UInt8), (97 : UInt8), (110 : UInt8), (32 : UInt8)] (fm key)) [(32 : UInt8)]) (fm hi))) (yLen [(32 : UInt8)])) (nat_lit 9223372036854775807) = false → False)) ∧ (yNle (yNadd (yLen (yCat (yCat [(115 : UInt8), (99 : UInt8), (97 : UInt8), (110 : UInt8), (32 : UInt8)] (fm key)) [(32 : UInt8)])) (yLen (fm hi))) (nat_lit 9223372036854775807) = false → False)) ∧ (yAnd (yEq (10 : Int) (10 : Int)) (inU hi) = false → False)) ∧ (yNle (yNadd (yLen (yCat [(115 : UInt8), (99 : UInt8), (97 : UInt8), (110 : UInt8), (32 : UInt8)] (fm key))) (yLen [(32 : UInt8)])) (nat_lit 9223372036854775807) = false → False)) ∧ (yNle (yNadd (yLen [(115 : UInt8), (99 : UInt8), (97 : UInt8), (110 : UInt8), (32 : UInt8)]) (yLen (fm key))) (nat_lit 9223372036854775807) = false → False)) ∧ (yAnd (yEq (10 : Int) (10 : Int)) (inU key) = false → False))) ∧ (rightO (4 : Int) most = false → False)) := by kernel_rfl
set_option maxRecDepth 100000 in
theorem goalOp0_ok : goalOp0 := by
  refine kernel_go goalOp0_eq ?_
  intro k key val hi most ho hR
  simp only [hR, opC_off hR, yNot_t, yNot_f, forall_const, Bool.false_eq_true, false_implies, implies_true, and_self]
  try simp
set_option maxRecDepth 100000 in
theorem goalOp1_ok : goalOp1 := by
  refine kernel_go goalOp1_eq ?_
  intro key val hi most ho hR
  obtain ⟨u1, u2, u3⟩ := inO_t ho
  have o := opC_1 key val hi most
  have l1 := fm_len key
  have l2 := fm_len val
  have l3 := fm_len hi
  have l4 := fmI_len most
  have b2 : ∀ a b : List UInt8, yLen a ≤ 100 → yLen b ≤ 100 → joinB [a, b] [32] = true := join2
  have b3 : ∀ a b c : List UInt8, yLen a ≤ 100 → yLen b ≤ 100 → yLen c ≤ 100 → joinB [a, b, c] [32] = true := join3
  have b4 : ∀ a b c d : List UInt8, yLen a ≤ 100 → yLen b ≤ 100 → yLen c ≤ 100 → yLen d ≤ 100 → joinB [a, b, c, d] [32] = true := join4
  rw [o]
  clear o ho
  by_cases h1 : val = 0 <;> by_cases h2 : hi = 0 <;> by_cases h3 : most = 0
  all_goals simp [h1, h2, h3, hR, show inU 0 = true from rfl, show inI 0 = true from rfl, u1, u2, u3, yNot, yAnd, yEq, ySel, b2, b3, b4, joinL2, joinL3, joinL4, yLen_cons, yLen_nil, wGet, wPut, wDelete, wScan]
  all_goals (repeat' (first | apply And.intro | intro _)) <;> first | omega | ((first | refine b2 _ _ ?_ ?_ | refine b3 _ _ _ ?_ ?_ ?_ | refine b4 _ _ _ _ ?_ ?_ ?_ ?_) <;> (first | exact Nat.le_trans (fm_len _) (by decide) | exact Nat.le_trans (fmI_len _) (by decide) | (simp only [yLen_cons, yLen_nil]; omega))) | (simp_all; done) | (trace_state; fail)
set_option maxRecDepth 100000 in
theorem goalOp2_ok : goalOp2 := by
  refine kernel_go goalOp2_eq ?_
  intro key val hi most ho hR
  obtain ⟨u1, u2, u3⟩ := inO_t ho
  have o := opC_2 key val hi most
  have l1 := fm_len key
  have l2 := fm_len val
  have l3 := fm_len hi
  have l4 := fmI_len most
  have b2 : ∀ a b : List UInt8, yLen a ≤ 100 → yLen b ≤ 100 → joinB [a, b] [32] = true := join2
  have b3 : ∀ a b c : List UInt8, yLen a ≤ 100 → yLen b ≤ 100 → yLen c ≤ 100 → joinB [a, b, c] [32] = true := join3
  have b4 : ∀ a b c d : List UInt8, yLen a ≤ 100 → yLen b ≤ 100 → yLen c ≤ 100 → yLen d ≤ 100 → joinB [a, b, c, d] [32] = true := join4
  rw [o]
  clear o ho
  by_cases h1 : val = 0 <;> by_cases h2 : hi = 0 <;> by_cases h3 : most = 0
  all_goals simp [h1, h2, h3, hR, show inU 0 = true from rfl, show inI 0 = true from rfl, u1, u2, u3, yNot, yAnd, yEq, ySel, b2, b3, b4, joinL2, joinL3, joinL4, yLen_cons, yLen_nil, wGet, wPut, wDelete, wScan]
  all_goals (repeat' (first | apply And.intro | intro _)) <;> first | omega | ((first | refine b2 _ _ ?_ ?_ | refine b3 _ _ _ ?_ ?_ ?_ | refine b4 _ _ _ _ ?_ ?_ ?_ ?_) <;> (first | exact Nat.le_trans (fm_len _) (by decide) | exact Nat.le_trans (fmI_len _) (by decide) | (simp only [yLen_cons, yLen_nil]; omega))) | (simp_all; done) | (trace_state; fail)
set_option maxRecDepth 100000 in
theorem goalOp3_ok : goalOp3 := by
  refine kernel_go goalOp3_eq ?_
  intro key val hi most ho hR
  obtain ⟨u1, u2, u3⟩ := inO_t ho
  have o := opC_3 key val hi most
  have l1 := fm_len key
  have l2 := fm_len val
  have l3 := fm_len hi
  have l4 := fmI_len most
  have b2 : ∀ a b : List UInt8, yLen a ≤ 100 → yLen b ≤ 100 → joinB [a, b] [32] = true := join2
  have b3 : ∀ a b c : List UInt8, yLen a ≤ 100 → yLen b ≤ 100 → yLen c ≤ 100 → joinB [a, b, c] [32] = true := join3
  have b4 : ∀ a b c d : List UInt8, yLen a ≤ 100 → yLen b ≤ 100 → yLen c ≤ 100 → yLen d ≤ 100 → joinB [a, b, c, d] [32] = true := join4
  rw [o]
  clear o ho
  by_cases h1 : val = 0 <;> by_cases h2 : hi = 0 <;> by_cases h3 : most = 0
  all_goals simp [h1, h2, h3, hR, show inU 0 = true from rfl, show inI 0 = true from rfl, u1, u2, u3, yNot, yAnd, yEq, ySel, b2, b3, b4, joinL2, joinL3, joinL4, yLen_cons, yLen_nil, wGet, wPut, wDelete, wScan]
  all_goals (repeat' (first | apply And.intro | intro _)) <;> first | omega | ((first | refine b2 _ _ ?_ ?_ | refine b3 _ _ _ ?_ ?_ ?_ | refine b4 _ _ _ _ ?_ ?_ ?_ ?_) <;> (first | exact Nat.le_trans (fm_len _) (by decide) | exact Nat.le_trans (fmI_len _) (by decide) | (simp only [yLen_cons, yLen_nil]; omega))) | (simp_all; done) | (trace_state; fail)
set_option maxRecDepth 100000 in
theorem goalOp4_ok : goalOp4 := by
  refine kernel_go goalOp4_eq ?_
  intro key val hi most ho hR
  obtain ⟨u1, u2, u3⟩ := inO_t ho
  have u4 : inI most = true := by
    have h2 : yAnd (yLe 1 most) (yLe most 1000) = true := hR
    simp only [yAnd_t, yLe_t] at h2
    simp only [inI, yAnd_t, yLe_t, yLt_t]
    omega
  have o := opC_4 hR key val hi
  have l1 := fm_len key
  have l2 := fm_len val
  have l3 := fm_len hi
  have l4 := fmI_len most
  have b2 : ∀ a b : List UInt8, yLen a ≤ 100 → yLen b ≤ 100 → joinB [a, b] [32] = true := join2
  have b3 : ∀ a b c : List UInt8, yLen a ≤ 100 → yLen b ≤ 100 → yLen c ≤ 100 → joinB [a, b, c] [32] = true := join3
  have b4 : ∀ a b c d : List UInt8, yLen a ≤ 100 → yLen b ≤ 100 → yLen c ≤ 100 → yLen d ≤ 100 → joinB [a, b, c, d] [32] = true := join4
  rw [o]
  clear o ho
  by_cases h1 : val = 0 <;> by_cases h2 : hi = 0 <;> by_cases h3 : most = 0
  all_goals simp [h1, h2, h3, hR, show inU 0 = true from rfl, show inI 0 = true from rfl, u1, u2, u3, u4, yNot, yAnd, yEq, ySel, b2, b3, b4, joinL2, joinL3, joinL4, yLen_cons, yLen_nil, wGet, wPut, wDelete, wScan]
  all_goals (repeat' (first | apply And.intro | intro _)) <;> first | omega | ((first | refine b2 _ _ ?_ ?_ | refine b3 _ _ _ ?_ ?_ ?_ | refine b4 _ _ _ _ ?_ ?_ ?_ ?_) <;> (first | exact Nat.le_trans (fm_len _) (by decide) | exact Nat.le_trans (fmI_len _) (by decide) | (simp only [yLen_cons, yLen_nil]; omega))) | (simp_all; done) | (trace_state; fail)
set_option maxRecDepth 100000 in
theorem goalOpR0_ok : goalOpR0 := by
  refine kernel_go goalOpR0_eq ?_
  intro k key val hi most ho hR
  simp only [hR, opC_off hR, yNot_t, yNot_f, forall_const, Bool.false_eq_true, false_implies, implies_true, and_self]
  try simp
set_option maxRecDepth 100000 in
theorem goalOpR1_ok : goalOpR1 := by
  refine kernel_go goalOpR1_eq ?_
  intro key val hi most ho hR
  obtain ⟨u1, u2, u3⟩ := inO_t ho
  have l1 := fm_len key
  have l2 := fm_len val
  have l3 := fm_len hi
  have l4 := fmI_len most
  have o := opC_1 key val hi most
  simp only [hR, u1, u2, u3, yLen_cat, yLen_cons, yLen_nil, or_false, yNot_t, yNot_f, yEq_t, yEq_f, yAnd_t, yAnd_f, yNle_t, yNle_f, yNadd_e, and_true, Nat.zero_add, forall_const, Bool.true_eq_false, false_implies]
  repeat' (first | apply And.intro | intro _)
  all_goals first | omega | (rw [o]; simp_all [yCat, yEq, yAnd, wGet, wPut, wDelete, wScan]; done) | (trace_state; fail)
set_option maxRecDepth 100000 in
theorem goalOpR2_ok : goalOpR2 := by
  refine kernel_go goalOpR2_eq ?_
  intro key val hi most ho hR
  obtain ⟨u1, u2, u3⟩ := inO_t ho
  have l1 := fm_len key
  have l2 := fm_len val
  have l3 := fm_len hi
  have l4 := fmI_len most
  have o := opC_2 key val hi most
  simp only [hR, u1, u2, u3, yLen_cat, yLen_cons, yLen_nil, or_false, yNot_t, yNot_f, yEq_t, yEq_f, yAnd_t, yAnd_f, yNle_t, yNle_f, yNadd_e, and_true, Nat.zero_add, forall_const, Bool.true_eq_false, false_implies]
  repeat' (first | apply And.intro | intro _)
  all_goals first | omega | (rw [o]; simp_all [yCat, yEq, yAnd, wGet, wPut, wDelete, wScan]; done) | (trace_state; fail)
set_option maxRecDepth 100000 in
theorem goalOpR3_ok : goalOpR3 := by
  refine kernel_go goalOpR3_eq ?_
  intro key val hi most ho hR
  obtain ⟨u1, u2, u3⟩ := inO_t ho
  have l1 := fm_len key
  have l2 := fm_len val
  have l3 := fm_len hi
  have l4 := fmI_len most
  have o := opC_3 key val hi most
  simp only [hR, u1, u2, u3, yLen_cat, yLen_cons, yLen_nil, or_false, yNot_t, yNot_f, yEq_t, yEq_f, yAnd_t, yAnd_f, yNle_t, yNle_f, yNadd_e, and_true, Nat.zero_add, forall_const, Bool.true_eq_false, false_implies]
  repeat' (first | apply And.intro | intro _)
  all_goals first | omega | (rw [o]; simp_all [yCat, yEq, yAnd, wGet, wPut, wDelete, wScan]; done) | (trace_state; fail)
set_option maxRecDepth 100000 in
theorem goalOpR4_ok : goalOpR4 := by
  refine kernel_go goalOpR4_eq ?_
  intro key val hi most ho hR
  obtain ⟨u1, u2, u3⟩ := inO_t ho
  have l1 := fm_len key
  have l2 := fm_len val
  have l3 := fm_len hi
  have l4 := fmI_len most
  have u4 : inI most = true := by
    have h2 : yAnd (yLe 1 most) (yLe most 1000) = true := hR
    simp only [yAnd_t, yLe_t] at h2
    simp only [inI, yAnd_t, yLe_t, yLt_t]
    omega
  have o := opC_4 hR key val hi
  simp only [hR, u1, u2, u3, u4, yLen_cat, yLen_cons, yLen_nil, or_false, yNot_t, yNot_f, yEq_t, yEq_f, yAnd_t, yAnd_f, yNle_t, yNle_f, yNadd_e, and_true, Nat.zero_add, forall_const, Bool.true_eq_false, false_implies]
  repeat' (first | apply And.intro | intro _)
  all_goals first | omega | (rw [o]; simp_all [yCat, yEq, yAnd, wGet, wPut, wDelete, wScan]; done) | (trace_state; fail)
theorem smRgT {f : FuncId} (hm : Tryd.prog.follows .mixedOrders = true) (h : gRgg Tryd.prog f) : SmCall Tryd.prog f (fun args h => (ctS gOp fRgT args h).sel) :=
  ctS_weak (smRg hm h) (fun ds a e => by
    unfold fRgT at e
    split at e
    · rename_i k key val hi most
      simp only [Option.some.injEq, Prod.mk.injEq] at e
      obtain ⟨h1, rfl⟩ := e
      exact ⟨_, rfl, fun M u r => by rw [h1] at r; exact r⟩
    · cases e)
theorem smRgF {f : FuncId} (hm : Tryd.prog.follows .mixedOrders = true) (h : gRgg Tryd.prog f) : SmCall Tryd.prog f (fun args h => (ctS gOp fRgF args h).sel) :=
  ctS_weak (smRg hm h) (fun ds a e => by
    unfold fRgF at e
    split at e
    · rename_i k key val hi most
      simp only [Option.some.injEq, Prod.mk.injEq] at e
      obtain ⟨h1, rfl⟩ := e
      have h2 : rightO k most = false := by simpa [yNot] using h1
      exact ⟨_, rfl, fun M u r => by rw [h2] at r; exact r⟩
    · cases e)
theorem lFm_ok (hm : Tryd.prog.follows .mixedOrders = true) : SmOK Tryd.prog (smL lFm) := smL_ok ⟨smForm hm, smFormR hm, trivial⟩
theorem lOpT_ok (hm : Tryd.prog.follows .mixedOrders = true) : SmOK Tryd.prog (smL (lOpA fRgT)) :=
  smL_ok ⟨smFields hm, smRgT hm @goalRg_ok, smRgT hm @goalRgR_ok, smInt hm (lFm_ok hm) @goalInt_ok, smInt hm (lFm_ok hm) @goalIntR_ok, smPl hm, smJoin, smForm hm, smFormR hm, trivial⟩
theorem lOpF_ok (hm : Tryd.prog.follows .mixedOrders = true) : SmOK Tryd.prog (smL (lOpA fRgF)) :=
  smL_ok ⟨smFields hm, smRgF hm @goalRg_ok, smRgF hm @goalRgR_ok, smInt hm (lFm_ok hm) @goalInt_ok, smInt hm (lFm_ok hm) @goalIntR_ok, smPl hm, smJoin, smForm hm, smFormR hm, trivial⟩
/-- A first cell that is written out. -/
theorem first_R {w : World} {n : Int} {cs : List Cs} {r : List Dc} {us : List Value} (h : DaRs w [.agg (none :: cs)] [.agg (.v (.y .i64 n) :: r)] us) : DaRs w [.agg (none :: cs)] [.agg (.v (.i .i64 n) :: r)] us := by
  obtain ⟨d, ds', u, us', e, rfl, h1, h2⟩ := h
  simp only [List.cons.injEq] at e
  obtain ⟨rfl, rfl⟩ := e
  obtain ⟨vs, rfl, h3⟩ := h1
  obtain ⟨d1, ds1, v1, vs1, e1, rfl, q1, q2⟩ := h3
  simp only [List.cons.injEq] at e1
  obtain ⟨rfl, rfl⟩ := e1
  exact ⟨_, _, _, _, rfl, rfl, ⟨_, rfl, ⟨_, _, _, _, rfl, rfl, q1, q2⟩⟩, h2⟩
theorem smOpG {f : FuncId} (hm : Tryd.prog.follows .mixedOrders = true) (h0 : ∀ k : Int, gOpg Tryd.prog f fRgF (.y .i64 k) k false) (h1 : gOpg Tryd.prog f fRgT (.i .i64 (.ofNat 1)) 1 true) (h2 : gOpg Tryd.prog f fRgT (.i .i64 (.ofNat 2)) 2 true)
    (h3 : gOpg Tryd.prog f fRgT (.i .i64 (.ofNat 3)) 3 true) (h4 : gOpg Tryd.prog f fRgT (.i .i64 (.ofNat 4)) 4 true) : SmCall Tryd.prog f (fun args h => (ctS gOp fOp args h).sel) :=
  ctS_any hm (by decide) (fun ds a e => by
    unfold fOp at e
    split at e
    case h_2 => cases e
    rename_i k key val hi most
    simp only [Option.some.injEq, Prod.mk.injEq] at e
    obtain ⟨ho, rfl⟩ := e
    cases hR : rightO k most with
    | false => exact ⟨_, _, lOpF_ok hm, fun _ _ h => h, _, 1000, h0 k key val hi most ho hR⟩
    | true =>
      rcases rightO_cases hR with rfl | rfl | rfl | rfl
      · exact ⟨_, dOk (.i .i64 (.ofNat 1)) key val hi most, lOpT_ok hm, fun _ _ h => first_R h, _, 1000, h1 key val hi most ho hR⟩
      · exact ⟨_, dOk (.i .i64 (.ofNat 2)) key val hi most, lOpT_ok hm, fun _ _ h => first_R h, _, 1000, h2 key val hi most ho hR⟩
      · exact ⟨_, dOk (.i .i64 (.ofNat 3)) key val hi most, lOpT_ok hm, fun _ _ h => first_R h, _, 1000, h3 key val hi most ho hR⟩
      · exact ⟨_, dOk (.i .i64 (.ofNat 4)) key val hi most, lOpT_ok hm, fun _ _ h => first_R h, _, 1000, h4 key val hi most ho hR⟩)
theorem smOp (hm : Tryd.prog.follows .mixedOrders = true) : SmCall Tryd.prog 26 (fun args h => (ctS gOp fOp args h).sel) := smOpG hm @goalOp0_ok @goalOp1_ok @goalOp2_ok @goalOp3_ok @goalOp4_ok
theorem smOpRef (hm : Tryd.prog.follows .mixedOrders = true) : SmCall Tryd.prog 10 (fun args h => (ctS gOp fOp args h).sel) := smOpG hm @goalOpR0_ok @goalOpR1_ok @goalOpR2_ok @goalOpR3_ok @goalOpR4_ok
end Go.Proofs.YtjelhmdkaemiiaaDoor.Ex
