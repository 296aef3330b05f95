/- The texts Ml, Lst: The law EditMakes: the walks where a change is made. What came in as cells and rows of words, as lists that nobody .. -/
import Derived.Test.YtinijejfhmcmdaaGreatDoorU6
set_option linter.all false
set_option maxRecDepth 100000
section
namespace Go.Proofs.YtinijejfhmcmdaaGreatDoor.Ex
open Go
theorem yColI {n : Nat} {f : Nat → Int} : (yCol (CK.int IntKind.i64) n fun (i : Nat) => AV.y IntKind.i64 (f i)) = true := yCol_int
def goalEm1TV : Prop := (∀ (cs ct cf cl cp slot : Int) (i kn : Bool) (nk : Nat) (k : Nat → Int) (vn : Bool) (nv : Nat) (v : Nat → Int) (l ix0 key val count : Int) (x0 : EmI) (T : Nat), rightC cs ct cf cl cp = true → yAnd (yLe 0 count) (yLt count 18446744073709551616) = true → isC k key nk = true → x0 = x0Em cs ct cf slot nk k nv v l 1 key val count → T = tEm cs ct cf slot nk k v 1 key val count → mst (rightC cs ct cf cl cp) (mst (rightC cs ct cf cl cp) ((yLt 5000 (sizeC cs ct cf) = true → true = true) ∧ (yLt 5000 (sizeC cs ct cf) = false → (yLt slot (1 : Int) = true → true = true) ∧ (yLt slot (1 : Int) = false → (yLt cs slot = true → true = true) ∧ (yLt cs slot = false → (i = true → true = true) ∧ (i = false → mst (yCol (CK.int IntKind.u64) nk fun (i : Nat) => AV.y IntKind.u64 (k i)) (mst (yCol (CK.int IntKind.u64) nv fun (i : Nat) => AV.y IntKind.u64 (v i)) (mst (yAnd (yNot i) (yLe cf 64)) ((yNot (fitsC i nk (fun (i : Nat) => k i) nv cf) = true → true = true) ∧ (yNot (fitsC i nk (fun (i : Nat) => k i) nv cf) = false → mst (rightC cs ct cf cl cp) (mst (yNeq 0 0) (mst (yNeq (sizeN cs ct cf) (sizeN cs ct cf)) (mst (yCol (CK.int IntKind.u64) (sizeN cs ct cf) fun (i : Nat) => AV.y IntKind.u64 (newW cs ct cf i)) (mst (yCol (CK.int IntKind.u64) nk fun (i : Nat) => AV.y IntKind.u64 (k i)) (mst (yCol (CK.int IntKind.u64) nv fun (i : Nat) => AV.y IntKind.u64 (v i)) (mst (yAnd (rightC cs ct cf cl cp) (yAnd (yAnd (yLe 0 slot) (yLe slot cs)) (yAnd (yNeq (sizeN cs ct cf) (sizeN cs ct cf)) (yAnd (yLe (yInt nk) cf) (yLe (yInt nv) cf))))) (mst (yAnd (yAnd (yLe 0 count) (yLt count 18446744073709551616)) (yAnd (yLe 0 3) (yLt 3 18446744073709551616))) (mst (yAnd (rightC cs ct cf cl cp) (yAnd (yLe 0 slot) (yLe slot cs))) (mst (yIn (verC cs ct cf slot) (sizeN cs ct cf)) (mst (yNlt (yNadd 0 (yNat (verC cs ct cf slot))) (sizeN cs ct cf)) (mst (yCol (CK.int IntKind.u64) nk fun (i : Nat) => AV.y IntKind.u64 (k i)) (mst (yCol (CK.int IntKind.u64) nv fun (i : Nat) => AV.y IntKind.u64 (v i)) (mst (yAnd (yNle nk 1000000) (yIff (isC (fun (i : Nat) => k i) key nk) true)) (mst (yCol (CK.int IntKind.u64) nk fun (i : Nat) => AV.y IntKind.u64 (k i)) (mst (yCol (CK.int IntKind.u64) nv fun (i : Nat) => AV.y IntKind.u64 (v i)) (mst (yAnd (yAnd (yNle nk 64) (yNeq nk nv)) (risesB (fun (i : Nat) => k i) nk)) (mst (yNle (yNadd 0 (sizeN cs ct cf)) (sizeN cs ct cf)) (mst (yCol (CK.int IntKind.u64) (sizeN cs ct cf) fun (i_1 : Nat) => AV.y IntKind.u64 (ySel (yNeq i_1 (yNadd 0 (yNat (verC cs ct cf slot)))) (wordC false false count 3) (putW ct cf slot i nk (fun (i : Nat) => k i) nv (fun (i : Nat) => v i) l (fun (i : Nat) => newW cs ct cf i) i_1))) (mst (yNle (sizeN cs ct cf) 1000000) (mst (rightC cs ct cf cl cp) (mst (yAnd (yLe 0 3) (yLt 3 18446744073709551616)) (mst (yAnd (yAnd (yLe 0 (makeC 3 slot)) (yLt (makeC 3 slot) 18446744073709551616)) (okNw (makeC 3 slot) (yInt nk) 1 false cs cf)) (mst (yCol (CK.int IntKind.u64) 0 fun (i : Nat) => AV.y IntKind.u64 0) (mst (yCol (CK.int IntKind.u64) 0 fun (i : Nat) => AV.y IntKind.u64 0) (mst (yCol (CK.int IntKind.i64) 0 fun (i : Nat) => AV.y IntKind.i64 0) (mst (yCol (CK.int IntKind.u64) 0 fun (i : Nat) => AV.y IntKind.u64 0) (mst (invO { h := makeC 3 slot, v := wordC false false count 3, n := yInt nk, kd := (1 : Int), ix := yInt (atC (fun (i : Nat) => k i) key nk), key := key, val := val, at_ := (1 : Int), nb := false, kn := true, nk := nat_lit 0, k := fun (i : Nat) => (0 : Int), vn := true, nv := nat_lit 0, w := fun (i : Nat) => (0 : Int), lk := (0 : Int), wn := true, nw := nat_lit 0, wa := fun (i : Nat) => (0 : Int), wb := fun (i : Nat) => (0 : Int) } (0 : Int)) (true = true ∧ (∃ (i0 : EmI), prEm cs ct cf (sizeN cs ct cf) x0 T i0 ∧ true = true ∧ dnE i0.1 i0.2 = dnE { h := makeC 3 slot, v := wordC false false count 3, n := yInt nk, kd := (1 : Int), ix := yInt (atC (fun (i : Nat) => k i) key nk), key := key, val := val, at_ := (1 : Int), nb := false, kn := true, nk := nat_lit 0, k := fun (i : Nat) => (0 : Int), vn := true, nv := nat_lit 0, w := fun (i : Nat) => (0 : Int), lk := (0 : Int), wn := true, nw := nat_lit 0, wa := fun (i : Nat) => (0 : Int), wb := fun (i : Nat) => (0 : Int) } (0 : Int) ∧ yInt i0.5 = (0 : Int) ∧ (0 : Int) = (0 : Int) ∧ (0 : Int) = (0 : Int) ∧ (0 : Int) = (0 : Int) ∧ (0 : Int) = (0 : Int) ∧ qH i0.1 = makeC 3 slot ∧ qV i0.1 = wordC false false count 3 ∧ qN i0.1 = yInt nk ∧ false = false ∧ (0 : Int) = (0 : Int) ∧ cs = cs ∧ ct = ct ∧ cf = cf ∧ cl = cl ∧ cp = cp ∧ qKd i0.1 = (1 : Int) ∧ qIx i0.1 = yInt (atC (fun (i : Nat) => k i) key nk) ∧ qKey i0.1 = key ∧ qVal i0.1 = val ∧ qAt i0.1 = (1 : Int) ∧ i0.2 = (0 : Int) ∧ qNb i0.1 = false ∧ (qKn i0.1 = true ∧ qNk i0.1 = nat_lit 0 ∧ ∀ (i : Nat), Nat.succ i ≤ qNk i0.1 → qK i0.1 i = (0 : Int) ∧ True) ∧ (qVn i0.1 = true ∧ qNv i0.1 = nat_lit 0 ∧ ∀ (i : Nat), Nat.succ i ≤ qNv i0.1 → qW i0.1 i = (0 : Int) ∧ True) ∧ qLk i0.1 = (0 : Int) ∧ (qWn i0.1 = true ∧ qNw i0.1 = nat_lit 0 ∧ ∀ (i : Nat), Nat.succ i ≤ qNw i0.1 → qWa i0.1 i = (0 : Int) ∧ qWb i0.1 i = (0 : Int) ∧ True) ∧ i0.3 = (0 : Int) ∧ i0.4 = (0 : Int) ∧ (0 : Int) = (0 : Int) ∧ sizeN cs ct cf = sizeN cs ct cf ∧ (∀ (i_1 : Nat), Nat.succ i_1 ≤ sizeN cs ct cf → i0.6 i_1 = ySel (yNeq i_1 (yNadd 0 (yNat (verC cs ct cf slot)))) (wordC false false count 3) (putW ct cf slot i nk (fun (i : Nat) => k i) nv (fun (i : Nat) => v i) l (fun (i : Nat) => newW cs ct cf i) i_1) ∧ True) ∧ true = true) ∧ ∀ (g : Nat → AV) (i_1 : EmI), prEm cs ct cf (sizeN cs ct cf) x0 T i_1 → (yLt (yInt i_1.5) (yWrap IntKind.i64 (yAdd (yWrap IntKind.i64 (yMul 6 cf)) 9)) = true → (yEq (dnE i_1.1 i_1.2) (0 : Int) = true → mst (yCol (CK.int IntKind.u64) (qNk i_1.1) fun (i : Nat) => AV.y IntKind.u64 (qK i_1.1 i)) (mst (yCol (CK.int IntKind.u64) (qNv i_1.1) fun (i : Nat) => AV.y IntKind.u64 (qW i_1.1 i)) (mst (yCol (CK.int IntKind.i64) (qNw i_1.1) fun (i : Nat) => AV.y IntKind.i64 (qWa i_1.1 i)) (mst (yCol (CK.int IntKind.u64) (qNw i_1.1) fun (i : Nat) => AV.y IntKind.u64 (qWb i_1.1 i)) (mst (invE cs ct cf cl cp i_1.1) (mst (yNeq 0 0) (mst (yNeq (sizeN cs ct cf) (sizeN cs ct cf)) (mst (yCol (CK.int IntKind.u64) (sizeN cs ct cf) fun (i : Nat) => AV.y IntKind.u64 (i_1.6 i)) (mst (yNle (sizeN cs ct cf) 1000000) (mst (yCol (CK.int IntKind.u64) (qNk i_1.1) fun (i : Nat) => AV.y IntKind.u64 (qK i_1.1 i)) (mst (yCol (CK.int IntKind.u64) (qNv i_1.1) fun (i : Nat) => AV.y IntKind.u64 (qW i_1.1 i)) (mst (yCol (CK.int IntKind.i64) (qNw i_1.1) fun (i : Nat) => AV.y IntKind.i64 (qWa i_1.1 i)) (mst (yCol (CK.int IntKind.u64) (qNw i_1.1) fun (i : Nat) => AV.y IntKind.u64 (qWb i_1.1 i)) (mst (invE cs ct cf cl cp i_1.1) (mst (yCol (CK.int IntKind.u64) (qNk (tkE cs ct cf i_1.1 (doR (wtK i_1.1) (wtA cs ct cf i_1.1) (wtO i_1.1) (sizeN cs ct cf) fun (i : Nat) => i_1.6 i))) fun (i : Nat) => AV.y IntKind.u64 (qK (tkE cs ct cf i_1.1 (doR (wtK i_1.1) (wtA cs ct cf i_1.1) (wtO i_1.1) (sizeN cs ct cf) fun (i : Nat) => i_1.6 i)) i)) (mst (yCol (CK.int IntKind.u64) (qNv (tkE cs ct cf i_1.1 (doR (wtK i_1.1) (wtA cs ct cf i_1.1) (wtO i_1.1) (sizeN cs ct cf) fun (i : Nat) => i_1.6 i))) fun (i : Nat) => AV.y IntKind.u64 (qW (tkE cs ct cf i_1.1 (doR (wtK i_1.1) (wtA cs ct cf i_1.1) (wtO i_1.1) (sizeN cs ct cf) fun (i : Nat) => i_1.6 i)) i)) (mst (yCol (CK.int IntKind.i64) (qNw (tkE cs ct cf i_1.1 (doR (wtK i_1.1) (wtA cs ct cf i_1.1) (wtO i_1.1) (sizeN cs ct cf) fun (i : Nat) => i_1.6 i))) fun (i : Nat) => AV.y IntKind.i64 (qWa (tkE cs ct cf i_1.1 (doR (wtK i_1.1) (wtA cs ct cf i_1.1) (wtO i_1.1) (sizeN cs ct cf) fun (i : Nat) => i_1.6 i)) i)) (mst (yCol (CK.int IntKind.u64) (qNw (tkE cs ct cf i_1.1 (doR (wtK i_1.1) (wtA cs ct cf i_1.1) (wtO i_1.1) (sizeN cs ct cf) fun (i : Nat) => i_1.6 i))) fun (i : Nat) => AV.y IntKind.u64 (qWb (tkE cs ct cf i_1.1 (doR (wtK i_1.1) (wtA cs ct cf i_1.1) (wtO i_1.1) (sizeN cs ct cf) fun (i : Nat) => i_1.6 i)) i)) (mst (invO (tkE cs ct cf i_1.1 (doR (wtK i_1.1) (wtA cs ct cf i_1.1) (wtO i_1.1) (sizeN cs ct cf) fun (i : Nat) => i_1.6 i)) (outE i_1.1 i_1.2 (doR (wtK i_1.1) (wtA cs ct cf i_1.1) (wtO i_1.1) (sizeN cs ct cf) fun (i : Nat) => i_1.6 i))) (true = true ∧ ∃ (i' : EmI), prEm cs ct cf (sizeN cs ct cf) x0 T i' ∧ Nat.succ (msEm T i') ≤ msEm T i_1 ∧ true = true ∧ dnE i'.1 i'.2 = dnE (tkE cs ct cf i_1.1 (doR (wtK i_1.1) (wtA cs ct cf i_1.1) (wtO i_1.1) (sizeN cs ct cf) fun (i : Nat) => i_1.6 i)) (outE i_1.1 i_1.2 (doR (wtK i_1.1) (wtA cs ct cf i_1.1) (wtO i_1.1) (sizeN cs ct cf) fun (i : Nat) => i_1.6 i)) ∧ yInt i'.5 = yWrap IntKind.i64 (yAdd (yInt i_1.5) 1) ∧ (0 : Int) = (0 : Int) ∧ (0 : Int) = (0 : Int) ∧ (0 : Int) = (0 : Int) ∧ (0 : Int) = (0 : Int) ∧ qH i'.1 = qH (tkE cs ct cf i_1.1 (doR (wtK i_1.1) (wtA cs ct cf i_1.1) (wtO i_1.1) (sizeN cs ct cf) fun (i : Nat) => i_1.6 i)) ∧ qV i'.1 = qV (tkE cs ct cf i_1.1 (doR (wtK i_1.1) (wtA cs ct cf i_1.1) (wtO i_1.1) (sizeN cs ct cf) fun (i : Nat) => i_1.6 i)) ∧ qN i'.1 = qN (tkE cs ct cf i_1.1 (doR (wtK i_1.1) (wtA cs ct cf i_1.1) (wtO i_1.1) (sizeN cs ct cf) fun (i : Nat) => i_1.6 i)) ∧ false = false ∧ (0 : Int) = (0 : Int) ∧ cs = cs ∧ ct = ct ∧ cf = cf ∧ cl = cl ∧ cp = cp ∧ qKd i'.1 = qKd (tkE cs ct cf i_1.1 (doR (wtK i_1.1) (wtA cs ct cf i_1.1) (wtO i_1.1) (sizeN cs ct cf) fun (i : Nat) => i_1.6 i)) ∧ qIx i'.1 = qIx (tkE cs ct cf i_1.1 (doR (wtK i_1.1) (wtA cs ct cf i_1.1) (wtO i_1.1) (sizeN cs ct cf) fun (i : Nat) => i_1.6 i)) ∧ qKey i'.1 = qKey (tkE cs ct cf i_1.1 (doR (wtK i_1.1) (wtA cs ct cf i_1.1) (wtO i_1.1) (sizeN cs ct cf) fun (i : Nat) => i_1.6 i)) ∧ qVal i'.1 = qVal (tkE cs ct cf i_1.1 (doR (wtK i_1.1) (wtA cs ct cf i_1.1) (wtO i_1.1) (sizeN cs ct cf) fun (i : Nat) => i_1.6 i)) ∧ qAt i'.1 = qAt (tkE cs ct cf i_1.1 (doR (wtK i_1.1) (wtA cs ct cf i_1.1) (wtO i_1.1) (sizeN cs ct cf) fun (i : Nat) => i_1.6 i)) ∧ i'.2 = outE i_1.1 i_1.2 (doR (wtK i_1.1) (wtA cs ct cf i_1.1) (wtO i_1.1) (sizeN cs ct cf) fun (i : Nat) => i_1.6 i) ∧ qNb i'.1 = qNb (tkE cs ct cf i_1.1 (doR (wtK i_1.1) (wtA cs ct cf i_1.1) (wtO i_1.1) (sizeN cs ct cf) fun (i : Nat) => i_1.6 i)) ∧ (qKn i'.1 = qKn (tkE cs ct cf i_1.1 (doR (wtK i_1.1) (wtA cs ct cf i_1.1) (wtO i_1.1) (sizeN cs ct cf) fun (i : Nat) => i_1.6 i)) ∧ qNk i'.1 = qNk (tkE cs ct cf i_1.1 (doR (wtK i_1.1) (wtA cs ct cf i_1.1) (wtO i_1.1) (sizeN cs ct cf) fun (i : Nat) => i_1.6 i)) ∧ ∀ (i : Nat), Nat.succ i ≤ qNk i'.1 → qK i'.1 i = qK (tkE cs ct cf i_1.1 (doR (wtK i_1.1) (wtA cs ct cf i_1.1) (wtO i_1.1) (sizeN cs ct cf) fun (i : Nat) => i_1.6 i)) i ∧ True) ∧ (qVn i'.1 = qVn (tkE cs ct cf i_1.1 (doR (wtK i_1.1) (wtA cs ct cf i_1.1) (wtO i_1.1) (sizeN cs ct cf) fun (i : Nat) => i_1.6 i)) ∧ qNv i'.1 = qNv (tkE cs ct cf i_1.1 (doR (wtK i_1.1) (wtA cs ct cf i_1.1) (wtO i_1.1) (sizeN cs ct cf) fun (i : Nat) => i_1.6 i)) ∧ ∀ (i : Nat), Nat.succ i ≤ qNv i'.1 → qW i'.1 i = qW (tkE cs ct cf i_1.1 (doR (wtK i_1.1) (wtA cs ct cf i_1.1) (wtO i_1.1) (sizeN cs ct cf) fun (i : Nat) => i_1.6 i)) i ∧ True) ∧ qLk i'.1 = qLk (tkE cs ct cf i_1.1 (doR (wtK i_1.1) (wtA cs ct cf i_1.1) (wtO i_1.1) (sizeN cs ct cf) fun (i : Nat) => i_1.6 i)) ∧ (qWn i'.1 = qWn (tkE cs ct cf i_1.1 (doR (wtK i_1.1) (wtA cs ct cf i_1.1) (wtO i_1.1) (sizeN cs ct cf) fun (i : Nat) => i_1.6 i)) ∧ qNw i'.1 = qNw (tkE cs ct cf i_1.1 (doR (wtK i_1.1) (wtA cs ct cf i_1.1) (wtO i_1.1) (sizeN cs ct cf) fun (i : Nat) => i_1.6 i)) ∧ ∀ (i : Nat), Nat.succ i ≤ qNw i'.1 → qWa i'.1 i = qWa (tkE cs ct cf i_1.1 (doR (wtK i_1.1) (wtA cs ct cf i_1.1) (wtO i_1.1) (sizeN cs ct cf) fun (i : Nat) => i_1.6 i)) i ∧ qWb i'.1 i = qWb (tkE cs ct cf i_1.1 (doR (wtK i_1.1) (wtA cs ct cf i_1.1) (wtO i_1.1) (sizeN cs ct cf) fun (i : Nat) => i_1.6 i)) i ∧ True) ∧ i'.3 = mkE i_1.1 (doR (wtK i_1.1) (wtA cs ct cf i_1.1) (wtO i_1.1) (sizeN cs ct cf) fun (i : Nat) => i_1.6 i) ∧ i'.4 = maE i_1.1 (doR (wtK i_1.1) (wtA cs ct cf i_1.1) (wtO i_1.1) (sizeN cs ct cf) fun (i : Nat) => i_1.6 i) ∧ (0 : Int) = (0 : Int) ∧ sizeN cs ct cf = sizeN cs ct cf ∧ (∀ (i : Nat), Nat.succ i ≤ sizeN cs ct cf → i'.6 i = doW (wtK i_1.1) (wtA cs ct cf i_1.1) (wtO i_1.1) (wtN i_1.1) (sizeN cs ct cf) (fun (i : Nat) => i_1.6 i) i ∧ True) ∧ true = true)))))))))))))))))))) ∧ (yEq (dnE i_1.1 i_1.2) (0 : Int) = false → mst (yCol (CK.int IntKind.u64) (qNk i_1.1) fun (i : Nat) => AV.y IntKind.u64 (qK i_1.1 i)) (mst (yCol (CK.int IntKind.u64) (qNv i_1.1) fun (i : Nat) => AV.y IntKind.u64 (qW i_1.1 i)) (mst (yCol (CK.int IntKind.i64) (qNw i_1.1) fun (i : Nat) => AV.y IntKind.i64 (qWa i_1.1 i)) (mst (yCol (CK.int IntKind.u64) (qNw i_1.1) fun (i : Nat) => AV.y IntKind.u64 (qWb i_1.1 i)) (mst (invO i_1.1 i_1.2) ((yNot (yEq (dnE i_1.1 i_1.2) 1) = true → true = false) ∧ (yNot (yEq (dnE i_1.1 i_1.2) 1) = false → mst (yIn (yInt (atC (fun (i : Nat) => k i) key nk)) nv) ((yNot (yEq (oldE i_1.1 i_1.2) (v (yNat (yInt (atC (fun (i : Nat) => k i) key nk))))) = true → true = false) ∧ (yNot (yEq (oldE i_1.1 i_1.2) (v (yNat (yInt (atC (fun (i : Nat) => k i) key nk))))) = false → mst (yNle (yNadd 0 (sizeN cs ct cf)) (sizeN cs ct cf)) (mst (yCol (CK.int IntKind.u64) (sizeN cs ct cf) fun (i : Nat) => AV.y IntKind.u64 (i_1.6 i)) (mst (yAnd (rightC cs ct cf cl cp) (yAnd (yAnd (yLe 0 slot) (yLe slot cs)) (yAnd (yNeq (sizeN cs ct cf) (sizeN cs ct cf)) (yAnd (yLe 0 (ndS ct cf slot fun (i : Nat) => i_1.6 i)) (yLt (ndS ct cf slot fun (i : Nat) => i_1.6 i) 18446744073709551616))))) (mst (yCol (CK.int IntKind.u64) (ndM (ndI ct cf slot fun (i : Nat) => i_1.6 i) (ndN ct cf slot fun (i : Nat) => i_1.6 i)) fun (i : Nat) => AV.y IntKind.u64 (ndK ct cf slot (fun (i : Nat) => i_1.6 i) i)) (mst (yCol (CK.int IntKind.u64) (ndN ct cf slot fun (i : Nat) => i_1.6 i) fun (i : Nat) => AV.y IntKind.u64 (ndVl ct cf slot (fun (i : Nat) => i_1.6 i) i)) (mst (yCol (CK.int IntKind.u64) (putN (isC (fun (i : Nat) => k i) key nk) nk) fun (i : Nat) => AV.y IntKind.u64 (putK (isC (fun (i : Nat) => k i) key nk) (atC (fun (i : Nat) => k i) key nk) key (fun (i : Nat) => k i) i)) (mst (yCol (CK.int IntKind.u64) (putN (isC (fun (i : Nat) => k i) key nk) nk) fun (i : Nat) => AV.y IntKind.u64 (putK (isC (fun (i : Nat) => k i) key nk) (atC (fun (i : Nat) => k i) key nk) val (fun (i : Nat) => v i) i)) (mst (yAnd (yNle (ndM (ndI ct cf slot fun (i : Nat) => i_1.6 i) (ndN ct cf slot fun (i : Nat) => i_1.6 i)) 1000000) (yNle (ndN ct cf slot fun (i : Nat) => i_1.6 i) 1000000)) ((yNot (yAnd (yIff (ndI ct cf slot fun (i : Nat) => i_1.6 i) false) (yAnd (eqW (ndM (ndI ct cf slot fun (i : Nat) => i_1.6 i) (ndN ct cf slot fun (i : Nat) => i_1.6 i)) (fun (i : Nat) => ndK ct cf slot (fun (i : Nat) => i_1.6 i) i) (putN (isC (fun (i : Nat) => k i) key nk) nk) fun (i : Nat) => putK (isC (fun (i : Nat) => k i) key nk) (atC (fun (i : Nat) => k i) key nk) key (fun (i : Nat) => k i) i) (yAnd (eqW (ndN ct cf slot fun (i : Nat) => i_1.6 i) (fun (i : Nat) => ndVl ct cf slot (fun (i : Nat) => i_1.6 i) i) (putN (isC (fun (i : Nat) => k i) key nk) nk) fun (i : Nat) => putK (isC (fun (i : Nat) => k i) key nk) (atC (fun (i : Nat) => k i) key nk) val (fun (i : Nat) => v i) i) (yEq (ndL ct cf slot fun (i : Nat) => i_1.6 i) l)))) = true → true = false) ∧ (yNot (yAnd (yIff (ndI ct cf slot fun (i : Nat) => i_1.6 i) false) (yAnd (eqW (ndM (ndI ct cf slot fun (i : Nat) => i_1.6 i) (ndN ct cf slot fun (i : Nat) => i_1.6 i)) (fun (i : Nat) => ndK ct cf slot (fun (i : Nat) => i_1.6 i) i) (putN (isC (fun (i : Nat) => k i) key nk) nk) fun (i : Nat) => putK (isC (fun (i : Nat) => k i) key nk) (atC (fun (i : Nat) => k i) key nk) key (fun (i : Nat) => k i) i) (yAnd (eqW (ndN ct cf slot fun (i : Nat) => i_1.6 i) (fun (i : Nat) => ndVl ct cf slot (fun (i : Nat) => i_1.6 i) i) (putN (isC (fun (i : Nat) => k i) key nk) nk) fun (i : Nat) => putK (isC (fun (i : Nat) => k i) key nk) (atC (fun (i : Nat) => k i) key nk) val (fun (i : Nat) => v i) i) (yEq (ndL ct cf slot fun (i : Nat) => i_1.6 i) l)))) = false → mst (yAnd (rightC cs ct cf cl cp) (yAnd (yLe 0 slot) (yLe slot cs))) (mst (yIn (verC cs ct cf slot) (sizeN cs ct cf)) (mst (yNlt (yNadd 0 (yNat (verC cs ct cf slot))) (sizeN cs ct cf)) (mst (yAnd (yLe 0 (wordC false false count 3)) (yLt (wordC false false count 3) 18446744073709551616)) ((yNot (yEq (i_1.6 (yNadd (0 : Nat) (yNat (verC cs ct cf slot)))) (bumpC (wordC false false count 3))) = true → true = false) ∧ (yNot (yEq (i_1.6 (yNadd (0 : Nat) (yNat (verC cs ct cf slot)))) (bumpC (wordC false false count 3))) = false → true = true ∧ (∃ (i0 : Nat), prFd (sizeN cs ct cf) i0 ∧ true = true ∧ yInt i0 = (0 : Int) ∧ true = true) ∧ ∀ (g : Nat → AV) (i_2 : Nat), prFd (sizeN cs ct cf) i_2 → (yLt (yInt i_2) (yInt (sizeN cs ct cf)) = true → mst (yIn (yInt i_2) (sizeN cs ct cf)) (mst (yNlt (yNadd 0 (yNat (yInt i_2))) (sizeN cs ct cf)) (mst (yIn (yInt i_2) (sizeN cs ct cf)) ((yNot (yEq (i_1.6 (yNadd (0 : Nat) (yNat (yInt i_2)))) (ySel (yNeq (yNat (yInt i_2)) (yNadd 0 (yNat (verC cs ct cf slot)))) (wordC false false count 3) (putW ct cf slot i nk (fun (i : Nat) => k i) nv (fun (i : Nat) => v i) l (fun (i : Nat) => newW cs ct cf i) (yNat (yInt i_2))))) = true → mst (yAnd (rightC cs ct cf cl cp) (yAnd (yLe 0 slot) (yLe slot (yAdd cs 1)))) ((yLt (yInt i_2) (nodeC ct cf slot) = true → true = false) ∧ (yLt (yInt i_2) (nodeC ct cf slot) = false → mst (yAnd (rightC cs ct cf cl cp) (yAnd (yLe 0 (yWrap IntKind.i64 (yAdd slot 1))) (yLe (yWrap IntKind.i64 (yAdd slot 1)) (yAdd cs 1)))) ((yLe (nodeC ct cf (yWrap IntKind.i64 (yAdd slot 1))) (yInt i_2) = true → true = false) ∧ (yLe (nodeC ct cf (yWrap IntKind.i64 (yAdd slot 1))) (yInt i_2) = false → true = true ∧ ∃ (i' : Nat), prFd (sizeN cs ct cf) i' ∧ Nat.succ (msFit (sizeN cs ct cf) i') ≤ msFit (sizeN cs ct cf) i_2 ∧ true = true ∧ yInt i' = yWrap IntKind.i64 (yAdd (yInt i_2) 1) ∧ true = true))))) ∧ (yNot (yEq (i_1.6 (yNadd (0 : Nat) (yNat (yInt i_2)))) (ySel (yNeq (yNat (yInt i_2)) (yNadd 0 (yNat (verC cs ct cf slot)))) (wordC false false count 3) (putW ct cf slot i nk (fun (i : Nat) => k i) nv (fun (i : Nat) => v i) l (fun (i : Nat) => newW cs ct cf i) (yNat (yInt i_2))))) = false → true = true ∧ ∃ (i' : Nat), prFd (sizeN cs ct cf) i' ∧ Nat.succ (msFit (sizeN cs ct cf) i') ≤ msFit (sizeN cs ct cf) i_2 ∧ true = true ∧ yInt i' = yWrap IntKind.i64 (yAdd (yInt i_2) 1) ∧ true = true))))) ∧ (yLt (yInt i_2) (yInt (sizeN cs ct cf)) = false → true = true))))))))))))))))))))))))) ∧ (yLt (yInt i_1.5) (yWrap IntKind.i64 (yAdd (yWrap IntKind.i64 (yMul 6 cf)) 9)) = false → mst (yCol (CK.int IntKind.u64) (qNk i_1.1) fun (i : Nat) => AV.y IntKind.u64 (qK i_1.1 i)) (mst (yCol (CK.int IntKind.u64) (qNv i_1.1) fun (i : Nat) => AV.y IntKind.u64 (qW i_1.1 i)) (mst (yCol (CK.int IntKind.i64) (qNw i_1.1) fun (i : Nat) => AV.y IntKind.i64 (qWa i_1.1 i)) (mst (yCol (CK.int IntKind.u64) (qNw i_1.1) fun (i : Nat) => AV.y IntKind.u64 (qWb i_1.1 i)) (mst (invO i_1.1 i_1.2) ((yNot (yEq (dnE i_1.1 i_1.2) 1) = true → true = false) ∧ (yNot (yEq (dnE i_1.1 i_1.2) 1) = false → mst (yIn (yInt (atC (fun (i : Nat) => k i) key nk)) nv) ((yNot (yEq (oldE i_1.1 i_1.2) (v (yNat (yInt (atC (fun (i : Nat) => k i) key nk))))) = true → true = false) ∧ (yNot (yEq (oldE i_1.1 i_1.2) (v (yNat (yInt (atC (fun (i : Nat) => k i) key nk))))) = false → mst (yNle (yNadd 0 (sizeN cs ct cf)) (sizeN cs ct cf)) (mst (yCol (CK.int IntKind.u64) (sizeN cs ct cf) fun (i : Nat) => AV.y IntKind.u64 (i_1.6 i)) (mst (yAnd (rightC cs ct cf cl cp) (yAnd (yAnd (yLe 0 slot) (yLe slot cs)) (yAnd (yNeq (sizeN cs ct cf) (sizeN cs ct cf)) (yAnd (yLe 0 (ndS ct cf slot fun (i : Nat) => i_1.6 i)) (yLt (ndS ct cf slot fun (i : Nat) => i_1.6 i) 18446744073709551616))))) (mst (yCol (CK.int IntKind.u64) (ndM (ndI ct cf slot fun (i : Nat) => i_1.6 i) (ndN ct cf slot fun (i : Nat) => i_1.6 i)) fun (i : Nat) => AV.y IntKind.u64 (ndK ct cf slot (fun (i : Nat) => i_1.6 i) i)) (mst (yCol (CK.int IntKind.u64) (ndN ct cf slot fun (i : Nat) => i_1.6 i) fun (i : Nat) => AV.y IntKind.u64 (ndVl ct cf slot (fun (i : Nat) => i_1.6 i) i)) (mst (yCol (CK.int IntKind.u64) (putN (isC (fun (i : Nat) => k i) key nk) nk) fun (i : Nat) => AV.y IntKind.u64 (putK (isC (fun (i : Nat) => k i) key nk) (atC (fun (i : Nat) => k i) key nk) key (fun (i : Nat) => k i) i)) (mst (yCol (CK.int IntKind.u64) (putN (isC (fun (i : Nat) => k i) key nk) nk) fun (i : Nat) => AV.y IntKind.u64 (putK (isC (fun (i : Nat) => k i) key nk) (atC (fun (i : Nat) => k i) key nk) val (fun (i : Nat) => v i) i)) (mst (yAnd (yNle (ndM (ndI ct cf slot fun (i : Nat) => i_1.6 i) (ndN ct cf slot fun (i : Nat) => i_1.6 i)) 1000000) (yNle (ndN ct cf slot fun (i : Nat) => i_1.6 i) 1000000)) ((yNot (yAnd (yIff (ndI ct cf slot fun (i : Nat) => i_1.6 i) false) (yAnd (eqW (ndM (ndI ct cf slot fun (i : Nat) => i_1.6 i) (ndN ct cf slot fun (i : Nat) => i_1.6 i)) (fun (i : Nat) => ndK ct cf slot (fun (i : Nat) => i_1.6 i) i) (putN (isC (fun (i : Nat) => k i) key nk) nk) fun (i : Nat) => putK (isC (fun (i : Nat) => k i) key nk) (atC (fun (i : Nat) => k i) key nk) key (fun (i : Nat) => k i) i) (yAnd (eqW (ndN ct cf slot fun (i : Nat) => i_1.6 i) (fun (i : Nat) => ndVl ct cf slot (fun (i : Nat) => i_1.6 i) i) (putN (isC (fun (i : Nat) => k i) key nk) nk) fun (i : Nat) => putK (isC (fun (i : Nat) => k i) key nk) (atC (fun (i : Nat) => k i) key nk) val (fun (i : Nat) => v i) i) (yEq (ndL ct cf slot fun (i : Nat) => i_1.6 i) l)))) = true → true = false) ∧ (yNot (yAnd (yIff (ndI ct cf slot fun (i : Nat) => i_1.6 i) false) (yAnd (eqW (ndM (ndI ct cf slot fun (i : Nat) => i_1.6 i) (ndN ct cf slot fun (i : Nat) => i_1.6 i)) (fun (i : Nat) => ndK ct cf slot (fun (i : Nat) => i_1.6 i) i) (putN (isC (fun (i : Nat) => k i) key nk) nk) fun (i : Nat) => putK (isC (fun (i : Nat) => k i) key nk) (atC (fun (i : Nat) => k i) key nk) key (fun (i : Nat) => k i) i) (yAnd (eqW (ndN ct cf slot fun (i : Nat) => i_1.6 i) (fun (i : Nat) => ndVl ct cf slot (fun (i : Nat) => i_1.6 i) i) (putN (isC (fun (i : Nat) => k i) key nk) nk) fun (i : Nat) => putK (isC (fun (i : Nat) => k i) key nk) (atC (fun (i : Nat) => k i) key nk) val (fun (i : Nat) => v i) i) (yEq (ndL ct cf slot fun (i : Nat) => i_1.6 i) l)))) = false → mst (yAnd (rightC cs ct cf cl cp) (yAnd (yLe 0 slot) (yLe slot cs))) (mst (yIn (verC cs ct cf slot) (sizeN cs ct cf)) (mst (yNlt (yNadd 0 (yNat (verC cs ct cf slot))) (sizeN cs ct cf)) (mst (yAnd (yLe 0 (wordC false false count 3)) (yLt (wordC false false count 3) 18446744073709551616)) ((yNot (yEq (i_1.6 (yNadd (0 : Nat) (yNat (verC cs ct cf slot)))) (bumpC (wordC false false count 3))) = true → true = false) ∧ (yNot (yEq (i_1.6 (yNadd (0 : Nat) (yNat (verC cs ct cf slot)))) (bumpC (wordC false false count 3))) = false → true = true ∧ (∃ (i0 : Nat), prFd (sizeN cs ct cf) i0 ∧ true = true ∧ yInt i0 = (0 : Int) ∧ true = true) ∧ ∀ (g : Nat → AV) (i_2 : Nat), prFd (sizeN cs ct cf) i_2 → (yLt (yInt i_2) (yInt (sizeN cs ct cf)) = true → mst (yIn (yInt i_2) (sizeN cs ct cf)) (mst (yNlt (yNadd 0 (yNat (yInt i_2))) (sizeN cs ct cf)) (mst (yIn (yInt i_2) (sizeN cs ct cf)) ((yNot (yEq (i_1.6 (yNadd (0 : Nat) (yNat (yInt i_2)))) (ySel (yNeq (yNat (yInt i_2)) (yNadd 0 (yNat (verC cs ct cf slot)))) (wordC false false count 3) (putW ct cf slot i nk (fun (i : Nat) => k i) nv (fun (i : Nat) => v i) l (fun (i : Nat) => newW cs ct cf i) (yNat (yInt i_2))))) = true → mst (yAnd (rightC cs ct cf cl cp) (yAnd (yLe 0 slot) (yLe slot (yAdd cs 1)))) ((yLt (yInt i_2) (nodeC ct cf slot) = true → true = false) ∧ (yLt (yInt i_2) (nodeC ct cf slot) = false → mst (yAnd (rightC cs ct cf cl cp) (yAnd (yLe 0 (yWrap IntKind.i64 (yAdd slot 1))) (yLe (yWrap IntKind.i64 (yAdd slot 1)) (yAdd cs 1)))) ((yLe (nodeC ct cf (yWrap IntKind.i64 (yAdd slot 1))) (yInt i_2) = true → true = false) ∧ (yLe (nodeC ct cf (yWrap IntKind.i64 (yAdd slot 1))) (yInt i_2) = false → true = true ∧ ∃ (i' : Nat), prFd (sizeN cs ct cf) i' ∧ Nat.succ (msFit (sizeN cs ct cf) i') ≤ msFit (sizeN cs ct cf) i_2 ∧ true = true ∧ yInt i' = yWrap IntKind.i64 (yAdd (yInt i_2) 1) ∧ true = true))))) ∧ (yNot (yEq (i_1.6 (yNadd (0 : Nat) (yNat (yInt i_2)))) (ySel (yNeq (yNat (yInt i_2)) (yNadd 0 (yNat (verC cs ct cf slot)))) (wordC false false count 3) (putW ct cf slot i nk (fun (i : Nat) => k i) nv (fun (i : Nat) => v i) l (fun (i : Nat) => newW cs ct cf i) (yNat (yInt i_2))))) = false → true = true ∧ ∃ (i' : Nat), prFd (sizeN cs ct cf) i' ∧ Nat.succ (msFit (sizeN cs ct cf) i') ≤ msFit (sizeN cs ct cf) i_2 ∧ true = true ∧ yInt i' = yWrap IntKind.i64 (yAdd (yInt i_2) 1) ∧ true = true))))) ∧ (yLt (yInt i_2) (yInt (sizeN cs ct cf)) = false → true = true)))))))))))))))))))))))))))))))))))))))))))))))))))))))))))))))
theorem goalEm1T_eq : goalEm1T = goalEm1TV := by kernel_rfl
set_option maxHeartbeats 8000000 in
theorem goalEm1T_vc : goalEm1TV := by
 unfold goalEm1TV
 intro cs ct cf cl cp slot i kn nk k vn nv v l ix0 key val count x0 T hr hc his hx0 hT
 subst hx0 hT
 by_cases q1 : 5000 < sizeC cs ct cf
 · refine mstI hr (mstI hr (fork_t (yLt_t.mpr q1) rfl))
 have q1' : yLt 5000 (sizeC cs ct cf) = false := yLt_f.mpr (by omega)
 by_cases q2 : slot < 1
 · exact mstI hr (mstI hr (fork_f q1' (fork_t (yLt_t.mpr q2) rfl)))
 have q2' : yLt slot 1 = false := yLt_f.mpr (by omega)
 by_cases q3 : cs < slot
 · exact mstI hr (mstI hr (fork_f q1' (fork_f q2' (fork_t (yLt_t.mpr q3) rfl))))
 have q3' : yLt cs slot = false := yLt_f.mpr (by omega)
 cases i with
 | true => exact mstI hr (mstI hr (fork_f q1' (fork_f q2' (fork_f q3' (fork_t rfl rfl)))))
 | false =>
 have h := rightC_iff.1 hr
 have q4 : yAnd (yNot false) (yLe cf 64) = true := by simp only [vS, forall_const]; omega
 cases hf : fitsC false nk k nv cf with
 | false => exact mstI hr (mstI hr (fork_f q1' (fork_f q2' (fork_f q3' (fork_f rfl (mstI yCol1 (mstI yCol1 (mstI q4 (fork_t rfl rfl)))))))))
 | true =>
 obtain ⟨f1, f2, f3⟩ := fits_t.1 hf
 have f2 : nv = nk := by simpa using f2
 subst f2
 obtain ⟨eB, room, h3, hbig, eF, eS, g4, g64⟩ := slot_room hr (slot := slot) (by omega) (by omega)
 have eV := verN (cs := cs) eB ⟨by omega, by omega⟩
 have iV : 0 ≤ verC cs ct cf slot ∧ verC cs ct cf slot < (sizeN cs ct cf : Int) := by rw [eV]; omega
 have iV' : yNlt (yNadd 0 (yNat (verC cs ct cf slot))) (sizeN cs ct cf) = true := by rw [eV, yNatN]; simp only [vS, forall_const]; omega
 have pre : yAnd (rightC cs ct cf cl cp) (yAnd (yAnd (yLe 0 slot) (yLe slot cs)) (yAnd (yNeq (sizeN cs ct cf) (sizeN cs ct cf)) (yAnd (yLe (yInt nv) cf) (yLe (yInt nv) cf)))) = true := by
   simp only [vS, forall_const, hr]; omega
 have pv : yAnd (rightC cs ct cf cl cp) (yAnd (yLe 0 slot) (yLe slot cs)) = true := by simp only [vS, forall_const, hr]; omega
 have pc : yAnd (yAnd (yLe 0 count) (yLt count 18446744073709551616)) (yAnd (yLe 0 3) (yLt 3 18446744073709551616)) = true := by
   have hc := hc; simp only [yAnd_t, yLe_t, yLt_t] at hc
   simp only [vS, forall_const]; omega
 refine mstI hr (mstI hr (fork_f q1' (fork_f q2' (fork_f q3' (fork_f rfl (mstI yCol1 (mstI yCol1 (mstI q4 (fork_f rfl (mstI hr (mstI rfl (mstI (yNeq_t.mpr rfl) (mstI yCol1 (mstI yCol1 (mstI yCol1 (mstI pre (mstI pc (mstI pv (mstI (yIn_t.mpr iV) (mstI iV' (mstI yCol1 (mstI yCol1 ?_))))))))))))))))))))))
 have hc' : 0 ≤ count ∧ count < 18446744073709551616 := by have hc := hc; simp only [vS, forall_const] at hc; exact hc
 obtain ⟨e1, e2, e3⟩ := hSlot (slot := slot) (cs := cs) (by omega) (by omega) (by omega)
 have wu := wordU hc'
 have hle := atC_le (k := k) (x := key) nv
 have hris : risesB k nv = true := risesB_iff.2 f3
 have p1 : yAnd (yNle nv 1000000) (yIff (isC k key nv) true) = true := by simp only [vS, forall_const]; exact ⟨by omega, his⟩
 have p2 : yAnd (yAnd (yNle nv 64) (yNeq nv nv)) (risesB k nv) = true := by simp only [vS, forall_const, hris]; omega
 have p3 : yNle (yNadd 0 (sizeN cs ct cf)) (sizeN cs ct cf) = true := by simp only [vS, forall_const]
 have p4 : yNle (sizeN cs ct cf) 1000000 = true := by simp only [vS, forall_const]; omega
 have p5 : yAnd (yLe 0 3) (yLt 3 18446744073709551616) = true := by decide
 have ok : okNw (makeC 3 slot) (yInt nv) 1 false cs cf = true := okNw_t.2 ⟨e3, by decide, by decide, rfl, Int.natCast_nonneg _, f1⟩
 have p6 : yAnd (yAnd (yLe 0 (makeC 3 slot)) (yLt (makeC 3 slot) 18446744073709551616)) (okNw (makeC 3 slot) (yInt nv) 1 false cs cf) = true := by
   have e2 := e2
   simp only [inU, vS, forall_const] at e2
   rw [ok]; simp only [vS, forall_const]; omega
 have n1 := p3
 have pw : yAnd (yLe 0 (wordC false false count 3)) (yLt (wordC false false count 3) 18446744073709551616) = true := by simp only [vS, forall_const]; omega
 have iv := fun m i hi => em_inv (slot := slot) (count := count) (N := nv) (k := k) (v := v) (l := l) (kd := 1) (key := key) (val := val) hr (by omega) (by omega) f1 (by decide) hc' m i hi
 have iv0 := (iv 0 0 (by omega)).2.2.2.1
 refine mstI p1 ?_
 repeat (refine mstI (by first | exact yCol1 | exact yColI | exact hr | exact p2 | exact p3 | exact p4 | exact p5 | exact p6 | exact iv0) ?_)
 refine ⟨rfl, ⟨x0Em cs ct cf slot nv k nv v l 1 key val count, ⟨Nat.zero_le _, rfl⟩, ?_⟩, fun _ x hx => ⟨fun hA => ⟨fun hB => ?_, fun hB => ?_⟩, fun hA => ?_⟩⟩
 · repeat' (first | apply And.intro | intro _)
   all_goals first
     | rfl
     | trivial
     | (show w0Em cs ct cf slot nv k nv v l count _ = _
        unfold w0Em
        rw [show yNadd 0 (yNat (verC cs ct cf slot)) = yNat (verC cs ct cf slot) from Nat.zero_add _]; exact updSel)
 · obtain ⟨x1, x2⟩ := hx
   have ivx := iv x.i x.i (by omega)
   rw [← x2] at ivx
   have ivs := iv (x.i + 1) (x.i + 1) (by omega)
   simp only [runM] at ivs
   rw [← x2] at ivs
   have i1 : invE cs ct cf cl cp x.e = true := ivx.2.1
   have i2 := ivs.2.2.2.1
   have lt : x.i < tEm cs ct cf slot nv k v 1 key val count := by
     rcases Nat.lt_or_ge x.i (tEm cs ct cf slot nv k v 1 key val count) with c | c
     · exact c
     · exfalso
       have hx' : prEm cs ct cf (sizeN cs ct cf) (x0Em cs ct cf slot nv k nv v l 1 key val count) (tEm cs ct cf slot nv k v 1 key val count) x := ⟨x1, x2⟩
       have := em_big hr (by omega) (by omega) f1 f3 hc' (.inl ⟨rfl, his⟩) hx' c
       rw [this] at hB; revert hB; decide
   have bnd : x.i < 100000 := by
     have := tEm_le (slot := slot) (val := val) (count := count) (v := v) (cs := cs) (ct := ct) (kd := 1) (key := key) (k := k) (N := nv) f1 g64
     omega
   repeat (refine mstI (by first | exact yCol1 | exact yColI | exact i1 | exact i2 | exact p3 | exact p4 | rfl | exact yNeq_t.mpr rfl) ?_)
   refine ⟨rfl, stpM cs ct cf (sizeN cs ct cf) x, ⟨lt, ?_⟩, ?_, ?_⟩
   · show stpM _ _ _ _ x = stpM _ _ _ _ (runM _ _ _ _ _ x.i)
     rw [← x2]
   · show Nat.succ (tEm cs ct cf slot nv k v 1 key val count - (x.i + 1)) ≤ tEm cs ct cf slot nv k v 1 key val count - x.i
     omega
   · repeat' (first | apply And.intro | intro _)
     all_goals first
       | rfl
       | trivial
       | (show ((x.i + 1 : Nat) : Int) = yWrap .i64 ((x.i : Int) + 1); rw [wrap64 (by omega) (by omega)]; omega)
 · have F := em_fin hr (by omega) (by omega) f1 f3 hc' (.inl ⟨rfl, his⟩) hx (.inl (by simpa only [yEq_f] using hB)) (M := putN (isC k key nv) nv) (K' := putK (isC k key nv) (atC k key nv) key k) (V' := putK (isC k key nv) (atC k key nv) val v) (by rw [his]; rfl) (fun j hj => chk1 f3 his) (fun j hj => chv1 his)
   repeat (refine mstI (by first | exact yCol1 | exact yColI | exact F.inv) ?_)
   refine fork_f (by rw [F.dn]; rfl) ?_
   refine mstI (by show yIn (yInt (atC k key nv)) nv = true; simp only [vS, forall_const]; have := isC_at f3 his; omega) ?_
   refine fork_f (by
     have e : yEq (oldE x.e x.po) (v (yNat (yInt (atC k key nv)))) = true := by rw [yNat_yInt, yEq_t, F.old, if_neg (by decide)]
     exact congrArg yNot e) ?_
   repeat (refine mstI (by first | exact yCol1 | exact yColI | exact n1 | exact F.pre | exact F.sz) ?_)
   refine fork_f (congrArg yNot F.nd) ?_
   refine mstI pv (mstI (yIn_t.mpr iV) (mstI iV' (mstI pw ?_)))
   refine fork_f (by
     have e : yEq (x.w (yNadd 0 (yNat (verC cs ct cf slot)))) (bumpC (wordC false false count 3)) = true := by simp only [vS, forall_const]; exact F.ver
     exact congrArg yNot e) ?_
   refine ⟨rfl, ⟨0, Nat.zero_le _, rfl, rfl, rfl⟩, fun _ j hj => ⟨fun hC => ?_, fun _ => rfl⟩⟩
   have hj : j ≤ sizeN cs ct cf := hj
   have hlt : j < sizeN cs ct cf := by simp only [vS, forall_const] at hC; omega
   have nx : ∃ i' : Nat, prFd (sizeN cs ct cf) i' ∧ Nat.succ (msFit (sizeN cs ct cf) i') ≤ msFit (sizeN cs ct cf) j ∧ true = true ∧ yInt i' = yWrap IntKind.i64 (yAdd (yInt j) 1) ∧ true = true := by
     refine ⟨j + 1, hlt, by unfold msFit; omega, rfl, ?_, rfl⟩
     show ((j + 1 : Nat) : Int) = yWrap .i64 ((j : Int) + 1)
     rw [wrap64 (by omega) (by omega)]; omega
   have j1 : yIn (yInt j) (sizeN cs ct cf) = true := by simp only [vS, forall_const]; omega
   have j2 : yNlt (yNadd 0 (yNat (yInt j))) (sizeN cs ct cf) = true := by rw [yNat_yInt]; simp only [vS, forall_const]; omega
   refine mstI j1 (mstI j2 (mstI j1 ⟨fun hD => ?_, fun _ => ⟨rfl, nx⟩⟩))
   have hne : x.w j ≠ w0Em cs ct cf slot nv k nv v l count j := fun e => by
     have hD' : yNot (yEq (x.w (yNadd 0 (yNat (yInt j)))) (ySel (yNeq (yNat (yInt j)) (yNadd 0 (yNat (verC cs ct cf slot)))) (wordC false false count 3) (putW ct cf slot false nv (fun (i : Nat) => k i) nv (fun (i : Nat) => v i) l (fun (i : Nat) => newW cs ct cf i) (yNat (yInt j))))) = true := hD
     rw [yNat_yInt] at hD'
     simp only [vS, forall_const] at hD'
     apply hD'
     rw [e]; exact updSel
   obtain ⟨k1, k2⟩ := F.out j hlt hne
   have pn : yAnd (rightC cs ct cf cl cp) (yAnd (yLe 0 slot) (yLe slot (yAdd cs 1))) = true := by simp only [vS, forall_const, hr]; omega
   have ws : yWrap .i64 (yAdd slot 1) = slot + 1 := wrap64 (n := slot + 1) (by omega) (by omega)
   have pn2 : yAnd (rightC cs ct cf cl cp) (yAnd (yLe 0 (yWrap .i64 (yAdd slot 1))) (yLe (yWrap .i64 (yAdd slot 1)) (yAdd cs 1))) = true := by rw [ws]; simp only [vS, forall_const, hr]; omega
   exact mstI pn (fork_f (yLt_f.mpr k1) (mstI pn2 (fork_f (by rw [ws, yLe_f]; exact k2) ⟨rfl, nx⟩)))
 · have F := em_fin hr (by omega) (by omega) f1 f3 hc' (.inl ⟨rfl, his⟩) hx (.inr (by
     have hA := hA
     have w1 : yWrap .i64 (yMul 6 cf) = 6 * cf := wrap64 (n := 6 * cf) (by omega) (by omega)
     have w2 : yWrap .i64 (yAdd (6 * cf) 9) = 6 * cf + 9 := wrap64 (n := 6 * cf + 9) (by omega) (by omega)
     rw [w1, w2, yLt_f] at hA
     exact hA)) (M := putN (isC k key nv) nv) (K' := putK (isC k key nv) (atC k key nv) key k) (V' := putK (isC k key nv) (atC k key nv) val v) (by rw [his]; rfl) (fun j hj => chk1 f3 his) (fun j hj => chv1 his)
   repeat (refine mstI (by first | exact yCol1 | exact yColI | exact F.inv) ?_)
   refine fork_f (by rw [F.dn]; rfl) ?_
   refine mstI (by show yIn (yInt (atC k key nv)) nv = true; simp only [vS, forall_const]; have := isC_at f3 his; omega) ?_
   refine fork_f (by
     have e : yEq (oldE x.e x.po) (v (yNat (yInt (atC k key nv)))) = true := by rw [yNat_yInt, yEq_t, F.old, if_neg (by decide)]
     exact congrArg yNot e) ?_
   repeat (refine mstI (by first | exact yCol1 | exact yColI | exact n1 | exact F.pre | exact F.sz) ?_)
   refine fork_f (congrArg yNot F.nd) ?_
   refine mstI pv (mstI (yIn_t.mpr iV) (mstI iV' (mstI pw ?_)))
   refine fork_f (by
     have e : yEq (x.w (yNadd 0 (yNat (verC cs ct cf slot)))) (bumpC (wordC false false count 3)) = true := by simp only [vS, forall_const]; exact F.ver
     exact congrArg yNot e) ?_
   refine ⟨rfl, ⟨0, Nat.zero_le _, rfl, rfl, rfl⟩, fun _ j hj => ⟨fun hC => ?_, fun _ => rfl⟩⟩
   have hj : j ≤ sizeN cs ct cf := hj
   have hlt : j < sizeN cs ct cf := by simp only [vS, forall_const] at hC; omega
   have nx : ∃ i' : Nat, prFd (sizeN cs ct cf) i' ∧ Nat.succ (msFit (sizeN cs ct cf) i') ≤ msFit (sizeN cs ct cf) j ∧ true = true ∧ yInt i' = yWrap IntKind.i64 (yAdd (yInt j) 1) ∧ true = true := by
     refine ⟨j + 1, hlt, by unfold msFit; omega, rfl, ?_, rfl⟩
     show ((j + 1 : Nat) : Int) = yWrap .i64 ((j : Int) + 1)
     rw [wrap64 (by omega) (by omega)]; omega
   have j1 : yIn (yInt j) (sizeN cs ct cf) = true := by simp only [vS, forall_const]; omega
   have j2 : yNlt (yNadd 0 (yNat (yInt j))) (sizeN cs ct cf) = true := by rw [yNat_yInt]; simp only [vS, forall_const]; omega
   refine mstI j1 (mstI j2 (mstI j1 ⟨fun hD => ?_, fun _ => ⟨rfl, nx⟩⟩))
   have hne : x.w j ≠ w0Em cs ct cf slot nv k nv v l count j := fun e => by
     have hD' : yNot (yEq (x.w (yNadd 0 (yNat (yInt j)))) (ySel (yNeq (yNat (yInt j)) (yNadd 0 (yNat (verC cs ct cf slot)))) (wordC false false count 3) (putW ct cf slot false nv (fun (i : Nat) => k i) nv (fun (i : Nat) => v i) l (fun (i : Nat) => newW cs ct cf i) (yNat (yInt j))))) = true := hD
     rw [yNat_yInt] at hD'
     simp only [vS, forall_const] at hD'
     apply hD'
     rw [e]; exact updSel
   obtain ⟨k1, k2⟩ := F.out j hlt hne
   have pn : yAnd (rightC cs ct cf cl cp) (yAnd (yLe 0 slot) (yLe slot (yAdd cs 1))) = true := by simp only [vS, forall_const, hr]; omega
   have ws : yWrap .i64 (yAdd slot 1) = slot + 1 := wrap64 (n := slot + 1) (by omega) (by omega)
   have pn2 : yAnd (rightC cs ct cf cl cp) (yAnd (yLe 0 (yWrap .i64 (yAdd slot 1))) (yLe (yWrap .i64 (yAdd slot 1)) (yAdd cs 1))) = true := by rw [ws]; simp only [vS, forall_const, hr]; omega
   exact mstI pn (fork_f (yLt_f.mpr k1) (mstI pn2 (fork_f (by rw [ws, yLe_f]; exact k2) ⟨rfl, nx⟩)))
theorem goalEm1T_tt : (goalEm1T) = True := goalEm1T_eq.trans (eq_true goalEm1T_vc)
theorem goalEm1T_ok : goalEm1T := @ft' goalEm1T goalEm1T_tt
def goalEm2FV : Prop := (∀ (cs ct cf cl cp slot : Int) (i kn : Bool) (nk : Nat) (k : Nat → Int) (vn : Bool) (nv : Nat) (v : Nat → Int) (l ix0 key val count : Int) (x0 : EmI) (T : Nat), rightC cs ct cf cl cp = true → yAnd (yLe 0 count) (yLt count 18446744073709551616) = true → isC k key nk = false → x0 = x0Em cs ct cf slot nk k nv v l 2 key val count → T = tEm cs ct cf slot nk k v 2 key val count → mst (rightC cs ct cf cl cp) (mst (rightC cs ct cf cl cp) ((yLt 5000 (sizeC cs ct cf) = true → true = true) ∧ (yLt 5000 (sizeC cs ct cf) = false → (yLt slot (1 : Int) = true → true = true) ∧ (yLt slot (1 : Int) = false → (yLt cs slot = true → true = true) ∧ (yLt cs slot = false → (i = true → true = true) ∧ (i = false → mst (yCol (CK.int IntKind.u64) nk fun (i : Nat) => AV.y IntKind.u64 (k i)) (mst (yCol (CK.int IntKind.u64) nv fun (i : Nat) => AV.y IntKind.u64 (v i)) (mst (yAnd (yNot i) (yLe cf 64)) ((yNot (fitsC i nk (fun (i : Nat) => k i) nv cf) = true → true = true) ∧ (yNot (fitsC i nk (fun (i : Nat) => k i) nv cf) = false → mst (rightC cs ct cf cl cp) (mst (yNeq 0 0) (mst (yNeq (sizeN cs ct cf) (sizeN cs ct cf)) (mst (yCol (CK.int IntKind.u64) (sizeN cs ct cf) fun (i : Nat) => AV.y IntKind.u64 (newW cs ct cf i)) (mst (yCol (CK.int IntKind.u64) nk fun (i : Nat) => AV.y IntKind.u64 (k i)) (mst (yCol (CK.int IntKind.u64) nv fun (i : Nat) => AV.y IntKind.u64 (v i)) (mst (yAnd (rightC cs ct cf cl cp) (yAnd (yAnd (yLe 0 slot) (yLe slot cs)) (yAnd (yNeq (sizeN cs ct cf) (sizeN cs ct cf)) (yAnd (yLe (yInt nk) cf) (yLe (yInt nv) cf))))) (mst (yAnd (yAnd (yLe 0 count) (yLt count 18446744073709551616)) (yAnd (yLe 0 3) (yLt 3 18446744073709551616))) (mst (yAnd (rightC cs ct cf cl cp) (yAnd (yLe 0 slot) (yLe slot cs))) (mst (yIn (verC cs ct cf slot) (sizeN cs ct cf)) (mst (yNlt (yNadd 0 (yNat (verC cs ct cf slot))) (sizeN cs ct cf)) (mst (yCol (CK.int IntKind.u64) nk fun (i : Nat) => AV.y IntKind.u64 (k i)) (mst (yCol (CK.int IntKind.u64) nv fun (i : Nat) => AV.y IntKind.u64 (v i)) (mst (yAnd (yNle nk 1000000) (yIff (isC (fun (i : Nat) => k i) key nk) false)) ((yLt (yInt nk) cf = true → mst (yCol (CK.int IntKind.u64) nk fun (i : Nat) => AV.y IntKind.u64 (k i)) (mst (yCol (CK.int IntKind.u64) nv fun (i : Nat) => AV.y IntKind.u64 (v i)) (mst (yAnd (yAnd (yNle nk 64) (yNeq nk nv)) (risesB (fun (i : Nat) => k i) nk)) (mst (yNle (yNadd 0 (sizeN cs ct cf)) (sizeN cs ct cf)) (mst (yCol (CK.int IntKind.u64) (sizeN cs ct cf) fun (i_1 : Nat) => AV.y IntKind.u64 (ySel (yNeq i_1 (yNadd 0 (yNat (verC cs ct cf slot)))) (wordC false false count 3) (putW ct cf slot i nk (fun (i : Nat) => k i) nv (fun (i : Nat) => v i) l (fun (i : Nat) => newW cs ct cf i) i_1))) (mst (yNle (sizeN cs ct cf) 1000000) (mst (rightC cs ct cf cl cp) (mst (yAnd (yLe 0 3) (yLt 3 18446744073709551616)) (mst (yAnd (yAnd (yLe 0 (makeC 3 slot)) (yLt (makeC 3 slot) 18446744073709551616)) (okNw (makeC 3 slot) (yInt nk) 2 false cs cf)) (mst (yCol (CK.int IntKind.u64) 0 fun (i : Nat) => AV.y IntKind.u64 0) (mst (yCol (CK.int IntKind.u64) 0 fun (i : Nat) => AV.y IntKind.u64 0) (mst (yCol (CK.int IntKind.i64) 0 fun (i : Nat) => AV.y IntKind.i64 0) (mst (yCol (CK.int IntKind.u64) 0 fun (i : Nat) => AV.y IntKind.u64 0) (mst (invO { h := makeC 3 slot, v := wordC false false count 3, n := yInt nk, kd := (2 : Int), ix := yInt (atC (fun (i : Nat) => k i) key nk), key := key, val := val, at_ := (1 : Int), nb := false, kn := true, nk := nat_lit 0, k := fun (i : Nat) => (0 : Int), vn := true, nv := nat_lit 0, w := fun (i : Nat) => (0 : Int), lk := (0 : Int), wn := true, nw := nat_lit 0, wa := fun (i : Nat) => (0 : Int), wb := fun (i : Nat) => (0 : Int) } (0 : Int)) (true = true ∧ (∃ (i0 : EmI), prEm cs ct cf (sizeN cs ct cf) x0 T i0 ∧ true = true ∧ dnE i0.1 i0.2 = dnE { h := makeC 3 slot, v := wordC false false count 3, n := yInt nk, kd := (2 : Int), ix := yInt (atC (fun (i : Nat) => k i) key nk), key := key, val := val, at_ := (1 : Int), nb := false, kn := true, nk := nat_lit 0, k := fun (i : Nat) => (0 : Int), vn := true, nv := nat_lit 0, w := fun (i : Nat) => (0 : Int), lk := (0 : Int), wn := true, nw := nat_lit 0, wa := fun (i : Nat) => (0 : Int), wb := fun (i : Nat) => (0 : Int) } (0 : Int) ∧ yInt i0.5 = (0 : Int) ∧ (0 : Int) = (0 : Int) ∧ (0 : Int) = (0 : Int) ∧ (0 : Int) = (0 : Int) ∧ (0 : Int) = (0 : Int) ∧ qH i0.1 = makeC 3 slot ∧ qV i0.1 = wordC false false count 3 ∧ qN i0.1 = yInt nk ∧ false = false ∧ (0 : Int) = (0 : Int) ∧ cs = cs ∧ ct = ct ∧ cf = cf ∧ cl = cl ∧ cp = cp ∧ qKd i0.1 = (2 : Int) ∧ qIx i0.1 = yInt (atC (fun (i : Nat) => k i) key nk) ∧ qKey i0.1 = key ∧ qVal i0.1 = val ∧ qAt i0.1 = (1 : Int) ∧ i0.2 = (0 : Int) ∧ qNb i0.1 = false ∧ (qKn i0.1 = true ∧ qNk i0.1 = nat_lit 0 ∧ ∀ (i : Nat), Nat.succ i ≤ qNk i0.1 → qK i0.1 i = (0 : Int) ∧ True) ∧ (qVn i0.1 = true ∧ qNv i0.1 = nat_lit 0 ∧ ∀ (i : Nat), Nat.succ i ≤ qNv i0.1 → qW i0.1 i = (0 : Int) ∧ True) ∧ qLk i0.1 = (0 : Int) ∧ (qWn i0.1 = true ∧ qNw i0.1 = nat_lit 0 ∧ ∀ (i : Nat), Nat.succ i ≤ qNw i0.1 → qWa i0.1 i = (0 : Int) ∧ qWb i0.1 i = (0 : Int) ∧ True) ∧ i0.3 = (0 : Int) ∧ i0.4 = (0 : Int) ∧ (0 : Int) = (0 : Int) ∧ sizeN cs ct cf = sizeN cs ct cf ∧ (∀ (i_1 : Nat), Nat.succ i_1 ≤ sizeN cs ct cf → i0.6 i_1 = ySel (yNeq i_1 (yNadd 0 (yNat (verC cs ct cf slot)))) (wordC false false count 3) (putW ct cf slot i nk (fun (i : Nat) => k i) nv (fun (i : Nat) => v i) l (fun (i : Nat) => newW cs ct cf i) i_1) ∧ True) ∧ true = true) ∧ ∀ (g : Nat → AV) (i_1 : EmI), prEm cs ct cf (sizeN cs ct cf) x0 T i_1 → (yLt (yInt i_1.5) (yWrap IntKind.i64 (yAdd (yWrap IntKind.i64 (yMul 6 cf)) 9)) = true → (yEq (dnE i_1.1 i_1.2) (0 : Int) = true → mst (yCol (CK.int IntKind.u64) (qNk i_1.1) fun (i : Nat) => AV.y IntKind.u64 (qK i_1.1 i)) (mst (yCol (CK.int IntKind.u64) (qNv i_1.1) fun (i : Nat) => AV.y IntKind.u64 (qW i_1.1 i)) (mst (yCol (CK.int IntKind.i64) (qNw i_1.1) fun (i : Nat) => AV.y IntKind.i64 (qWa i_1.1 i)) (mst (yCol (CK.int IntKind.u64) (qNw i_1.1) fun (i : Nat) => AV.y IntKind.u64 (qWb i_1.1 i)) (mst (invE cs ct cf cl cp i_1.1) (mst (yNeq 0 0) (mst (yNeq (sizeN cs ct cf) (sizeN cs ct cf)) (mst (yCol (CK.int IntKind.u64) (sizeN cs ct cf) fun (i : Nat) => AV.y IntKind.u64 (i_1.6 i)) (mst (yNle (sizeN cs ct cf) 1000000) (mst (yCol (CK.int IntKind.u64) (qNk i_1.1) fun (i : Nat) => AV.y IntKind.u64 (qK i_1.1 i)) (mst (yCol (CK.int IntKind.u64) (qNv i_1.1) fun (i : Nat) => AV.y IntKind.u64 (qW i_1.1 i)) (mst (yCol (CK.int IntKind.i64) (qNw i_1.1) fun (i : Nat) => AV.y IntKind.i64 (qWa i_1.1 i)) (mst (yCol (CK.int IntKind.u64) (qNw i_1.1) fun (i : Nat) => AV.y IntKind.u64 (qWb i_1.1 i)) (mst (invE cs ct cf cl cp i_1.1) (mst (yCol (CK.int IntKind.u64) (qNk (tkE cs ct cf i_1.1 (doR (wtK i_1.1) (wtA cs ct cf i_1.1) (wtO i_1.1) (sizeN cs ct cf) fun (i : Nat) => i_1.6 i))) fun (i : Nat) => AV.y IntKind.u64 (qK (tkE cs ct cf i_1.1 (doR (wtK i_1.1) (wtA cs ct cf i_1.1) (wtO i_1.1) (sizeN cs ct cf) fun (i : Nat) => i_1.6 i)) i)) (mst (yCol (CK.int IntKind.u64) (qNv (tkE cs ct cf i_1.1 (doR (wtK i_1.1) (wtA cs ct cf i_1.1) (wtO i_1.1) (sizeN cs ct cf) fun (i : Nat) => i_1.6 i))) fun (i : Nat) => AV.y IntKind.u64 (qW (tkE cs ct cf i_1.1 (doR (wtK i_1.1) (wtA cs ct cf i_1.1) (wtO i_1.1) (sizeN cs ct cf) fun (i : Nat) => i_1.6 i)) i)) (mst (yCol (CK.int IntKind.i64) (qNw (tkE cs ct cf i_1.1 (doR (wtK i_1.1) (wtA cs ct cf i_1.1) (wtO i_1.1) (sizeN cs ct cf) fun (i : Nat) => i_1.6 i))) fun (i : Nat) => AV.y IntKind.i64 (qWa (tkE cs ct cf i_1.1 (doR (wtK i_1.1) (wtA cs ct cf i_1.1) (wtO i_1.1) (sizeN cs ct cf) fun (i : Nat) => i_1.6 i)) i)) (mst (yCol (CK.int IntKind.u64) (qNw (tkE cs ct cf i_1.1 (doR (wtK i_1.1) (wtA cs ct cf i_1.1) (wtO i_1.1) (sizeN cs ct cf) fun (i : Nat) => i_1.6 i))) fun (i : Nat) => AV.y IntKind.u64 (qWb (tkE cs ct cf i_1.1 (doR (wtK i_1.1) (wtA cs ct cf i_1.1) (wtO i_1.1) (sizeN cs ct cf) fun (i : Nat) => i_1.6 i)) i)) (mst (invO (tkE cs ct cf i_1.1 (doR (wtK i_1.1) (wtA cs ct cf i_1.1) (wtO i_1.1) (sizeN cs ct cf) fun (i : Nat) => i_1.6 i)) (outE i_1.1 i_1.2 (doR (wtK i_1.1) (wtA cs ct cf i_1.1) (wtO i_1.1) (sizeN cs ct cf) fun (i : Nat) => i_1.6 i))) (true = true ∧ ∃ (i' : EmI), prEm cs ct cf (sizeN cs ct cf) x0 T i' ∧ Nat.succ (msEm T i') ≤ msEm T i_1 ∧ true = true ∧ dnE i'.1 i'.2 = dnE (tkE cs ct cf i_1.1 (doR (wtK i_1.1) (wtA cs ct cf i_1.1) (wtO i_1.1) (sizeN cs ct cf) fun (i : Nat) => i_1.6 i)) (outE i_1.1 i_1.2 (doR (wtK i_1.1) (wtA cs ct cf i_1.1) (wtO i_1.1) (sizeN cs ct cf) fun (i : Nat) => i_1.6 i)) ∧ yInt i'.5 = yWrap IntKind.i64 (yAdd (yInt i_1.5) 1) ∧ (0 : Int) = (0 : Int) ∧ (0 : Int) = (0 : Int) ∧ (0 : Int) = (0 : Int) ∧ (0 : Int) = (0 : Int) ∧ qH i'.1 = qH (tkE cs ct cf i_1.1 (doR (wtK i_1.1) (wtA cs ct cf i_1.1) (wtO i_1.1) (sizeN cs ct cf) fun (i : Nat) => i_1.6 i)) ∧ qV i'.1 = qV (tkE cs ct cf i_1.1 (doR (wtK i_1.1) (wtA cs ct cf i_1.1) (wtO i_1.1) (sizeN cs ct cf) fun (i : Nat) => i_1.6 i)) ∧ qN i'.1 = qN (tkE cs ct cf i_1.1 (doR (wtK i_1.1) (wtA cs ct cf i_1.1) (wtO i_1.1) (sizeN cs ct cf) fun (i : Nat) => i_1.6 i)) ∧ false = false ∧ (0 : Int) = (0 : Int) ∧ cs = cs ∧ ct = ct ∧ cf = cf ∧ cl = cl ∧ cp = cp ∧ qKd i'.1 = qKd (tkE cs ct cf i_1.1 (doR (wtK i_1.1) (wtA cs ct cf i_1.1) (wtO i_1.1) (sizeN cs ct cf) fun (i : Nat) => i_1.6 i)) ∧ qIx i'.1 = qIx (tkE cs ct cf i_1.1 (doR (wtK i_1.1) (wtA cs ct cf i_1.1) (wtO i_1.1) (sizeN cs ct cf) fun (i : Nat) => i_1.6 i)) ∧ qKey i'.1 = qKey (tkE cs ct cf i_1.1 (doR (wtK i_1.1) (wtA cs ct cf i_1.1) (wtO i_1.1) (sizeN cs ct cf) fun (i : Nat) => i_1.6 i)) ∧ qVal i'.1 = qVal (tkE cs ct cf i_1.1 (doR (wtK i_1.1) (wtA cs ct cf i_1.1) (wtO i_1.1) (sizeN cs ct cf) fun (i : Nat) => i_1.6 i)) ∧ qAt i'.1 = qAt (tkE cs ct cf i_1.1 (doR (wtK i_1.1) (wtA cs ct cf i_1.1) (wtO i_1.1) (sizeN cs ct cf) fun (i : Nat) => i_1.6 i)) ∧ i'.2 = outE i_1.1 i_1.2 (doR (wtK i_1.1) (wtA cs ct cf i_1.1) (wtO i_1.1) (sizeN cs ct cf) fun (i : Nat) => i_1.6 i) ∧ qNb i'.1 = qNb (tkE cs ct cf i_1.1 (doR (wtK i_1.1) (wtA cs ct cf i_1.1) (wtO i_1.1) (sizeN cs ct cf) fun (i : Nat) => i_1.6 i)) ∧ (qKn i'.1 = qKn (tkE cs ct cf i_1.1 (doR (wtK i_1.1) (wtA cs ct cf i_1.1) (wtO i_1.1) (sizeN cs ct cf) fun (i : Nat) => i_1.6 i)) ∧ qNk i'.1 = qNk (tkE cs ct cf i_1.1 (doR (wtK i_1.1) (wtA cs ct cf i_1.1) (wtO i_1.1) (sizeN cs ct cf) fun (i : Nat) => i_1.6 i)) ∧ ∀ (i : Nat), Nat.succ i ≤ qNk i'.1 → qK i'.1 i = qK (tkE cs ct cf i_1.1 (doR (wtK i_1.1) (wtA cs ct cf i_1.1) (wtO i_1.1) (sizeN cs ct cf) fun (i : Nat) => i_1.6 i)) i ∧ True) ∧ (qVn i'.1 = qVn (tkE cs ct cf i_1.1 (doR (wtK i_1.1) (wtA cs ct cf i_1.1) (wtO i_1.1) (sizeN cs ct cf) fun (i : Nat) => i_1.6 i)) ∧ qNv i'.1 = qNv (tkE cs ct cf i_1.1 (doR (wtK i_1.1) (wtA cs ct cf i_1.1) (wtO i_1.1) (sizeN cs ct cf) fun (i : Nat) => i_1.6 i)) ∧ ∀ (i : Nat), Nat.succ i ≤ qNv i'.1 → qW i'.1 i = qW (tkE cs ct cf i_1.1 (doR (wtK i_1.1) (wtA cs ct cf i_1.1) (wtO i_1.1) (sizeN cs ct cf) fun (i : Nat) => i_1.6 i)) i ∧ True) ∧ qLk i'.1 = qLk (tkE cs ct cf i_1.1 (doR (wtK i_1.1) (wtA cs ct cf i_1.1) (wtO i_1.1) (sizeN cs ct cf) fun (i : Nat) => i_1.6 i)) ∧ (qWn i'.1 = qWn (tkE cs ct cf i_1.1 (doR (wtK i_1.1) (wtA cs ct cf i_1.1) (wtO i_1.1) (sizeN cs ct cf) fun (i : Nat) => i_1.6 i)) ∧ qNw i'.1 = qNw (tkE cs ct cf i_1.1 (doR (wtK i_1.1) (wtA cs ct cf i_1.1) (wtO i_1.1) (sizeN cs ct cf) fun (i : Nat) => i_1.6 i)) ∧ ∀ (i : Nat), Nat.succ i ≤ qNw i'.1 → qWa i'.1 i = qWa (tkE cs ct cf i_1.1 (doR (wtK i_1.1) (wtA cs ct cf i_1.1) (wtO i_1.1) (sizeN cs ct cf) fun (i : Nat) => i_1.6 i)) i ∧ qWb i'.1 i = qWb (tkE cs ct cf i_1.1 (doR (wtK i_1.1) (wtA cs ct cf i_1.1) (wtO i_1.1) (sizeN cs ct cf) fun (i : Nat) => i_1.6 i)) i ∧ True) ∧ i'.3 = mkE i_1.1 (doR (wtK i_1.1) (wtA cs ct cf i_1.1) (wtO i_1.1) (sizeN cs ct cf) fun (i : Nat) => i_1.6 i) ∧ i'.4 = maE i_1.1 (doR (wtK i_1.1) (wtA cs ct cf i_1.1) (wtO i_1.1) (sizeN cs ct cf) fun (i : Nat) => i_1.6 i) ∧ (0 : Int) = (0 : Int) ∧ sizeN cs ct cf = sizeN cs ct cf ∧ (∀ (i : Nat), Nat.succ i ≤ sizeN cs ct cf → i'.6 i = doW (wtK i_1.1) (wtA cs ct cf i_1.1) (wtO i_1.1) (wtN i_1.1) (sizeN cs ct cf) (fun (i : Nat) => i_1.6 i) i ∧ True) ∧ true = true)))))))))))))))))))) ∧ (yEq (dnE i_1.1 i_1.2) (0 : Int) = false → mst (yCol (CK.int IntKind.u64) (qNk i_1.1) fun (i : Nat) => AV.y IntKind.u64 (qK i_1.1 i)) (mst (yCol (CK.int IntKind.u64) (qNv i_1.1) fun (i : Nat) => AV.y IntKind.u64 (qW i_1.1 i)) (mst (yCol (CK.int IntKind.i64) (qNw i_1.1) fun (i : Nat) => AV.y IntKind.i64 (qWa i_1.1 i)) (mst (yCol (CK.int IntKind.u64) (qNw i_1.1) fun (i : Nat) => AV.y IntKind.u64 (qWb i_1.1 i)) (mst (invO i_1.1 i_1.2) ((yNot (yEq (dnE i_1.1 i_1.2) 1) = true → true = false) ∧ (yNot (yEq (dnE i_1.1 i_1.2) 1) = false → (yNot (yEq (oldE i_1.1 i_1.2) 0) = true → true = false) ∧ (yNot (yEq (oldE i_1.1 i_1.2) 0) = false → mst (yNle (yNadd 0 (sizeN cs ct cf)) (sizeN cs ct cf)) (mst (yCol (CK.int IntKind.u64) (sizeN cs ct cf) fun (i : Nat) => AV.y IntKind.u64 (i_1.6 i)) (mst (yAnd (rightC cs ct cf cl cp) (yAnd (yAnd (yLe 0 slot) (yLe slot cs)) (yAnd (yNeq (sizeN cs ct cf) (sizeN cs ct cf)) (yAnd (yLe 0 (ndS ct cf slot fun (i : Nat) => i_1.6 i)) (yLt (ndS ct cf slot fun (i : Nat) => i_1.6 i) 18446744073709551616))))) (mst (yCol (CK.int IntKind.u64) (ndM (ndI ct cf slot fun (i : Nat) => i_1.6 i) (ndN ct cf slot fun (i : Nat) => i_1.6 i)) fun (i : Nat) => AV.y IntKind.u64 (ndK ct cf slot (fun (i : Nat) => i_1.6 i) i)) (mst (yCol (CK.int IntKind.u64) (ndN ct cf slot fun (i : Nat) => i_1.6 i) fun (i : Nat) => AV.y IntKind.u64 (ndVl ct cf slot (fun (i : Nat) => i_1.6 i) i)) (mst (yCol (CK.int IntKind.u64) (putN (isC (fun (i : Nat) => k i) key nk) nk) fun (i : Nat) => AV.y IntKind.u64 (putK (isC (fun (i : Nat) => k i) key nk) (atC (fun (i : Nat) => k i) key nk) key (fun (i : Nat) => k i) i)) (mst (yCol (CK.int IntKind.u64) (putN (isC (fun (i : Nat) => k i) key nk) nk) fun (i : Nat) => AV.y IntKind.u64 (putK (isC (fun (i : Nat) => k i) key nk) (atC (fun (i : Nat) => k i) key nk) val (fun (i : Nat) => v i) i)) (mst (yAnd (yNle (ndM (ndI ct cf slot fun (i : Nat) => i_1.6 i) (ndN ct cf slot fun (i : Nat) => i_1.6 i)) 1000000) (yNle (ndN ct cf slot fun (i : Nat) => i_1.6 i) 1000000)) ((yNot (yAnd (yIff (ndI ct cf slot fun (i : Nat) => i_1.6 i) false) (yAnd (eqW (ndM (ndI ct cf slot fun (i : Nat) => i_1.6 i) (ndN ct cf slot fun (i : Nat) => i_1.6 i)) (fun (i : Nat) => ndK ct cf slot (fun (i : Nat) => i_1.6 i) i) (putN (isC (fun (i : Nat) => k i) key nk) nk) fun (i : Nat) => putK (isC (fun (i : Nat) => k i) key nk) (atC (fun (i : Nat) => k i) key nk) key (fun (i : Nat) => k i) i) (yAnd (eqW (ndN ct cf slot fun (i : Nat) => i_1.6 i) (fun (i : Nat) => ndVl ct cf slot (fun (i : Nat) => i_1.6 i) i) (putN (isC (fun (i : Nat) => k i) key nk) nk) fun (i : Nat) => putK (isC (fun (i : Nat) => k i) key nk) (atC (fun (i : Nat) => k i) key nk) val (fun (i : Nat) => v i) i) (yEq (ndL ct cf slot fun (i : Nat) => i_1.6 i) l)))) = true → true = false) ∧ (yNot (yAnd (yIff (ndI ct cf slot fun (i : Nat) => i_1.6 i) false) (yAnd (eqW (ndM (ndI ct cf slot fun (i : Nat) => i_1.6 i) (ndN ct cf slot fun (i : Nat) => i_1.6 i)) (fun (i : Nat) => ndK ct cf slot (fun (i : Nat) => i_1.6 i) i) (putN (isC (fun (i : Nat) => k i) key nk) nk) fun (i : Nat) => putK (isC (fun (i : Nat) => k i) key nk) (atC (fun (i : Nat) => k i) key nk) key (fun (i : Nat) => k i) i) (yAnd (eqW (ndN ct cf slot fun (i : Nat) => i_1.6 i) (fun (i : Nat) => ndVl ct cf slot (fun (i : Nat) => i_1.6 i) i) (putN (isC (fun (i : Nat) => k i) key nk) nk) fun (i : Nat) => putK (isC (fun (i : Nat) => k i) key nk) (atC (fun (i : Nat) => k i) key nk) val (fun (i : Nat) => v i) i) (yEq (ndL ct cf slot fun (i : Nat) => i_1.6 i) l)))) = false → mst (yAnd (rightC cs ct cf cl cp) (yAnd (yLe 0 slot) (yLe slot cs))) (mst (yIn (verC cs ct cf slot) (sizeN cs ct cf)) (mst (yNlt (yNadd 0 (yNat (verC cs ct cf slot))) (sizeN cs ct cf)) (mst (yAnd (yLe 0 (wordC false false count 3)) (yLt (wordC false false count 3) 18446744073709551616)) ((yNot (yEq (i_1.6 (yNadd (0 : Nat) (yNat (verC cs ct cf slot)))) (bumpC (wordC false false count 3))) = true → true = false) ∧ (yNot (yEq (i_1.6 (yNadd (0 : Nat) (yNat (verC cs ct cf slot)))) (bumpC (wordC false false count 3))) = false → true = true ∧ (∃ (i0 : Nat), prFd (sizeN cs ct cf) i0 ∧ true = true ∧ yInt i0 = (0 : Int) ∧ true = true) ∧ ∀ (g : Nat → AV) (i_2 : Nat), prFd (sizeN cs ct cf) i_2 → (yLt (yInt i_2) (yInt (sizeN cs ct cf)) = true → mst (yIn (yInt i_2) (sizeN cs ct cf)) (mst (yNlt (yNadd 0 (yNat (yInt i_2))) (sizeN cs ct cf)) (mst (yIn (yInt i_2) (sizeN cs ct cf)) ((yNot (yEq (i_1.6 (yNadd (0 : Nat) (yNat (yInt i_2)))) (ySel (yNeq (yNat (yInt i_2)) (yNadd 0 (yNat (verC cs ct cf slot)))) (wordC false false count 3) (putW ct cf slot i nk (fun (i : Nat) => k i) nv (fun (i : Nat) => v i) l (fun (i : Nat) => newW cs ct cf i) (yNat (yInt i_2))))) = true → mst (yAnd (rightC cs ct cf cl cp) (yAnd (yLe 0 slot) (yLe slot (yAdd cs 1)))) ((yLt (yInt i_2) (nodeC ct cf slot) = true → true = false) ∧ (yLt (yInt i_2) (nodeC ct cf slot) = false → mst (yAnd (rightC cs ct cf cl cp) (yAnd (yLe 0 (yWrap IntKind.i64 (yAdd slot 1))) (yLe (yWrap IntKind.i64 (yAdd slot 1)) (yAdd cs 1)))) ((yLe (nodeC ct cf (yWrap IntKind.i64 (yAdd slot 1))) (yInt i_2) = true → true = false) ∧ (yLe (nodeC ct cf (yWrap IntKind.i64 (yAdd slot 1))) (yInt i_2) = false → true = true ∧ ∃ (i' : Nat), prFd (sizeN cs ct cf) i' ∧ Nat.succ (msFit (sizeN cs ct cf) i') ≤ msFit (sizeN cs ct cf) i_2 ∧ true = true ∧ yInt i' = yWrap IntKind.i64 (yAdd (yInt i_2) 1) ∧ true = true))))) ∧ (yNot (yEq (i_1.6 (yNadd (0 : Nat) (yNat (yInt i_2)))) (ySel (yNeq (yNat (yInt i_2)) (yNadd 0 (yNat (verC cs ct cf slot)))) (wordC false false count 3) (putW ct cf slot i nk (fun (i : Nat) => k i) nv (fun (i : Nat) => v i) l (fun (i : Nat) => newW cs ct cf i) (yNat (yInt i_2))))) = false → true = true ∧ ∃ (i' : Nat), prFd (sizeN cs ct cf) i' ∧ Nat.succ (msFit (sizeN cs ct cf) i') ≤ msFit (sizeN cs ct cf) i_2 ∧ true = true ∧ yInt i' = yWrap IntKind.i64 (yAdd (yInt i_2) 1) ∧ true = true))))) ∧ (yLt (yInt i_2) (yInt (sizeN cs ct cf)) = false → true = true)))))))))))))))))))))))) ∧ (yLt (yInt i_1.5) (yWrap IntKind.i64 (yAdd (yWrap IntKind.i64 (yMul 6 cf)) 9)) = false → mst (yCol (CK.int IntKind.u64) (qNk i_1.1) fun (i : Nat) => AV.y IntKind.u64 (qK i_1.1 i)) (mst (yCol (CK.int IntKind.u64) (qNv i_1.1) fun (i : Nat) => AV.y IntKind.u64 (qW i_1.1 i)) (mst (yCol (CK.int IntKind.i64) (qNw i_1.1) fun (i : Nat) => AV.y IntKind.i64 (qWa i_1.1 i)) (mst (yCol (CK.int IntKind.u64) (qNw i_1.1) fun (i : Nat) => AV.y IntKind.u64 (qWb i_1.1 i)) (mst (invO i_1.1 i_1.2) ((yNot (yEq (dnE i_1.1 i_1.2) 1) = true → true = false) ∧ (yNot (yEq (dnE i_1.1 i_1.2) 1) = false → (yNot (yEq (oldE i_1.1 i_1.2) 0) = true → true = false) ∧ (yNot (yEq (oldE i_1.1 i_1.2) 0) = false → mst (yNle (yNadd 0 (sizeN cs ct cf)) (sizeN cs ct cf)) (mst (yCol (CK.int IntKind.u64) (sizeN cs ct cf) fun (i : Nat) => AV.y IntKind.u64 (i_1.6 i)) (mst (yAnd (rightC cs ct cf cl cp) (yAnd (yAnd (yLe 0 slot) (yLe slot cs)) (yAnd (yNeq (sizeN cs ct cf) (sizeN cs ct cf)) (yAnd (yLe 0 (ndS ct cf slot fun (i : Nat) => i_1.6 i)) (yLt (ndS ct cf slot fun (i : Nat) => i_1.6 i) 18446744073709551616))))) (mst (yCol (CK.int IntKind.u64) (ndM (ndI ct cf slot fun (i : Nat) => i_1.6 i) (ndN ct cf slot fun (i : Nat) => i_1.6 i)) fun (i : Nat) => AV.y IntKind.u64 (ndK ct cf slot (fun (i : Nat) => i_1.6 i) i)) (mst (yCol (CK.int IntKind.u64) (ndN ct cf slot fun (i : Nat) => i_1.6 i) fun (i : Nat) => AV.y IntKind.u64 (ndVl ct cf slot (fun (i : Nat) => i_1.6 i) i)) (mst (yCol (CK.int IntKind.u64) (putN (isC (fun (i : Nat) => k i) key nk) nk) fun (i : Nat) => AV.y IntKind.u64 (putK (isC (fun (i : Nat) => k i) key nk) (atC (fun (i : Nat) => k i) key nk) key (fun (i : Nat) => k i) i)) (mst (yCol (CK.int IntKind.u64) (putN (isC (fun (i : Nat) => k i) key nk) nk) fun (i : Nat) => AV.y IntKind.u64 (putK (isC (fun (i : Nat) => k i) key nk) (atC (fun (i : Nat) => k i) key nk) val (fun (i : Nat) => v i) i)) (mst (yAnd (yNle (ndM (ndI ct cf slot fun (i : Nat) => i_1.6 i) (ndN ct cf slot fun (i : Nat) => i_1.6 i)) 1000000) (yNle (ndN ct cf slot fun (i : Nat) => i_1.6 i) 1000000)) ((yNot (yAnd (yIff (ndI ct cf slot fun (i : Nat) => i_1.6 i) false) (yAnd (eqW (ndM (ndI ct cf slot fun (i : Nat) => i_1.6 i) (ndN ct cf slot fun (i : Nat) => i_1.6 i)) (fun (i : Nat) => ndK ct cf slot (fun (i : Nat) => i_1.6 i) i) (putN (isC (fun (i : Nat) => k i) key nk) nk) fun (i : Nat) => putK (isC (fun (i : Nat) => k i) key nk) (atC (fun (i : Nat) => k i) key nk) key (fun (i : Nat) => k i) i) (yAnd (eqW (ndN ct cf slot fun (i : Nat) => i_1.6 i) (fun (i : Nat) => ndVl ct cf slot (fun (i : Nat) => i_1.6 i) i) (putN (isC (fun (i : Nat) => k i) key nk) nk) fun (i : Nat) => putK (isC (fun (i : Nat) => k i) key nk) (atC (fun (i : Nat) => k i) key nk) val (fun (i : Nat) => v i) i) (yEq (ndL ct cf slot fun (i : Nat) => i_1.6 i) l)))) = true → true = false) ∧ (yNot (yAnd (yIff (ndI ct cf slot fun (i : Nat) => i_1.6 i) false) (yAnd (eqW (ndM (ndI ct cf slot fun (i : Nat) => i_1.6 i) (ndN ct cf slot fun (i : Nat) => i_1.6 i)) (fun (i : Nat) => ndK ct cf slot (fun (i : Nat) => i_1.6 i) i) (putN (isC (fun (i : Nat) => k i) key nk) nk) fun (i : Nat) => putK (isC (fun (i : Nat) => k i) key nk) (atC (fun (i : Nat) => k i) key nk) key (fun (i : Nat) => k i) i) (yAnd (eqW (ndN ct cf slot fun (i : Nat) => i_1.6 i) (fun (i : Nat) => ndVl ct cf slot (fun (i : Nat) => i_1.6 i) i) (putN (isC (fun (i : Nat) => k i) key nk) nk) fun (i : Nat) => putK (isC (fun (i : Nat) => k i) key nk) (atC (fun (i : Nat) => k i) key nk) val (fun (i : Nat) => v i) i) (yEq (ndL ct cf slot fun (i : Nat) => i_1.6 i) l)))) = false → mst (yAnd (rightC cs ct cf cl cp) (yAnd (yLe 0 slot) (yLe slot cs))) (mst (yIn (verC cs ct cf slot) (sizeN cs ct cf)) (mst (yNlt (yNadd 0 (yNat (verC cs ct cf slot))) (sizeN cs ct cf)) (mst (yAnd (yLe 0 (wordC false false count 3)) (yLt (wordC false false count 3) 18446744073709551616)) ((yNot (yEq (i_1.6 (yNadd (0 : Nat) (yNat (verC cs ct cf slot)))) (bumpC (wordC false false count 3))) = true → true = false) ∧ (yNot (yEq (i_1.6 (yNadd (0 : Nat) (yNat (verC cs ct cf slot)))) (bumpC (wordC false false count 3))) = false → true = true ∧ (∃ (i0 : Nat), prFd (sizeN cs ct cf) i0 ∧ true = true ∧ yInt i0 = (0 : Int) ∧ true = true) ∧ ∀ (g : Nat → AV) (i_2 : Nat), prFd (sizeN cs ct cf) i_2 → (yLt (yInt i_2) (yInt (sizeN cs ct cf)) = true → mst (yIn (yInt i_2) (sizeN cs ct cf)) (mst (yNlt (yNadd 0 (yNat (yInt i_2))) (sizeN cs ct cf)) (mst (yIn (yInt i_2) (sizeN cs ct cf)) ((yNot (yEq (i_1.6 (yNadd (0 : Nat) (yNat (yInt i_2)))) (ySel (yNeq (yNat (yInt i_2)) (yNadd 0 (yNat (verC cs ct cf slot)))) (wordC false false count 3) (putW ct cf slot i nk (fun (i : Nat) => k i) nv (fun (i : Nat) => v i) l (fun (i : Nat) => newW cs ct cf i) (yNat (yInt i_2))))) = true → mst (yAnd (rightC cs ct cf cl cp) (yAnd (yLe 0 slot) (yLe slot (yAdd cs 1)))) ((yLt (yInt i_2) (nodeC ct cf slot) = true → true = false) ∧ (yLt (yInt i_2) (nodeC ct cf slot) = false → mst (yAnd (rightC cs ct cf cl cp) (yAnd (yLe 0 (yWrap IntKind.i64 (yAdd slot 1))) (yLe (yWrap IntKind.i64 (yAdd slot 1)) (yAdd cs 1)))) ((yLe (nodeC ct cf (yWrap IntKind.i64 (yAdd slot 1))) (yInt i_2) = true → true = false) ∧ (yLe (nodeC ct cf (yWrap IntKind.i64 (yAdd slot 1))) (yInt i_2) = false → true = true ∧ ∃ (i' : Nat), prFd (sizeN cs ct cf) i' ∧ Nat.succ (msFit (sizeN cs ct cf) i') ≤ msFit (sizeN cs ct cf) i_2 ∧ true = true ∧ yInt i' = yWrap IntKind.i64 (yAdd (yInt i_2) 1) ∧ true = true))))) ∧ (yNot (yEq (i_1.6 (yNadd (0 : Nat) (yNat (yInt i_2)))) (ySel (yNeq (yNat (yInt i_2)) (yNadd 0 (yNat (verC cs ct cf slot)))) (wordC false false count 3) (putW ct cf slot i nk (fun (i : Nat) => k i) nv (fun (i : Nat) => v i) l (fun (i : Nat) => newW cs ct cf i) (yNat (yInt i_2))))) = false → true = true ∧ ∃ (i' : Nat), prFd (sizeN cs ct cf) i' ∧ Nat.succ (msFit (sizeN cs ct cf) i') ≤ msFit (sizeN cs ct cf) i_2 ∧ true = true ∧ yInt i' = yWrap IntKind.i64 (yAdd (yInt i_2) 1) ∧ true = true))))) ∧ (yLt (yInt i_2) (yInt (sizeN cs ct cf)) = false → true = true)))))))))))))))))))))))))))))))))))))) ∧ (yLt (yInt nk) cf = false → true = true))))))))))))))))))))))))))
theorem goalEm2F_eq : goalEm2F = goalEm2FV := by kernel_rfl
set_option maxHeartbeats 8000000 in
theorem goalEm2F_vc : goalEm2FV := by
 unfold goalEm2FV
 intro cs ct cf cl cp slot i kn nk k vn nv v l ix0 key val count x0 T hr hc his hx0 hT
 subst hx0 hT
 by_cases q1 : 5000 < sizeC cs ct cf
 · refine mstI hr (mstI hr (fork_t (yLt_t.mpr q1) rfl))
 have q1' : yLt 5000 (sizeC cs ct cf) = false := yLt_f.mpr (by omega)
 by_cases q2 : slot < 1
 · exact mstI hr (mstI hr (fork_f q1' (fork_t (yLt_t.mpr q2) rfl)))
 have q2' : yLt slot 1 = false := yLt_f.mpr (by omega)
 by_cases q3 : cs < slot
 · exact mstI hr (mstI hr (fork_f q1' (fork_f q2' (fork_t (yLt_t.mpr q3) rfl))))
 have q3' : yLt cs slot = false := yLt_f.mpr (by omega)
 cases i with
 | true => exact mstI hr (mstI hr (fork_f q1' (fork_f q2' (fork_f q3' (fork_t rfl rfl)))))
 | false =>
 have h := rightC_iff.1 hr
 have q4 : yAnd (yNot false) (yLe cf 64) = true := by simp only [vS, forall_const]; omega
 cases hf : fitsC false nk k nv cf with
 | false => exact mstI hr (mstI hr (fork_f q1' (fork_f q2' (fork_f q3' (fork_f rfl (mstI yCol1 (mstI yCol1 (mstI q4 (fork_t rfl rfl)))))))))
 | true =>
 obtain ⟨f1, f2, f3⟩ := fits_t.1 hf
 have f2 : nv = nk := by simpa using f2
 subst f2
 obtain ⟨eB, room, h3, hbig, eF, eS, g4, g64⟩ := slot_room hr (slot := slot) (by omega) (by omega)
 have eV := verN (cs := cs) eB ⟨by omega, by omega⟩
 have iV : 0 ≤ verC cs ct cf slot ∧ verC cs ct cf slot < (sizeN cs ct cf : Int) := by rw [eV]; omega
 have iV' : yNlt (yNadd 0 (yNat (verC cs ct cf slot))) (sizeN cs ct cf) = true := by rw [eV, yNatN]; simp only [vS, forall_const]; omega
 have pre : yAnd (rightC cs ct cf cl cp) (yAnd (yAnd (yLe 0 slot) (yLe slot cs)) (yAnd (yNeq (sizeN cs ct cf) (sizeN cs ct cf)) (yAnd (yLe (yInt nv) cf) (yLe (yInt nv) cf)))) = true := by
   simp only [vS, forall_const, hr]; omega
 have pv : yAnd (rightC cs ct cf cl cp) (yAnd (yLe 0 slot) (yLe slot cs)) = true := by simp only [vS, forall_const, hr]; omega
 have pc : yAnd (yAnd (yLe 0 count) (yLt count 18446744073709551616)) (yAnd (yLe 0 3) (yLt 3 18446744073709551616)) = true := by
   have hc := hc; simp only [yAnd_t, yLe_t, yLt_t] at hc
   simp only [vS, forall_const]; omega
 refine mstI hr (mstI hr (fork_f q1' (fork_f q2' (fork_f q3' (fork_f rfl (mstI yCol1 (mstI yCol1 (mstI q4 (fork_f rfl (mstI hr (mstI rfl (mstI (yNeq_t.mpr rfl) (mstI yCol1 (mstI yCol1 (mstI yCol1 (mstI pre (mstI pc (mstI pv (mstI (yIn_t.mpr iV) (mstI iV' (mstI yCol1 (mstI yCol1 ?_))))))))))))))))))))))
 have hc' : 0 ≤ count ∧ count < 18446744073709551616 := by have hc := hc; simp only [vS, forall_const] at hc; exact hc
 obtain ⟨e1, e2, e3⟩ := hSlot (slot := slot) (cs := cs) (by omega) (by omega) (by omega)
 have wu := wordU hc'
 have hle := atC_le (k := k) (x := key) nv
 have hris : risesB k nv = true := risesB_iff.2 f3
 have p1 : yAnd (yNle nv 1000000) (yIff (isC k key nv) false) = true := by simp only [vS, forall_const]; exact ⟨by omega, his⟩
 have p2 : yAnd (yAnd (yNle nv 64) (yNeq nv nv)) (risesB k nv) = true := by simp only [vS, forall_const, hris]; omega
 have p3 : yNle (yNadd 0 (sizeN cs ct cf)) (sizeN cs ct cf) = true := by simp only [vS, forall_const]
 have p4 : yNle (sizeN cs ct cf) 1000000 = true := by simp only [vS, forall_const]; omega
 have p5 : yAnd (yLe 0 3) (yLt 3 18446744073709551616) = true := by decide
 have ok : okNw (makeC 3 slot) (yInt nv) 2 false cs cf = true := okNw_t.2 ⟨e3, by decide, by decide, rfl, Int.natCast_nonneg _, f1⟩
 have p6 : yAnd (yAnd (yLe 0 (makeC 3 slot)) (yLt (makeC 3 slot) 18446744073709551616)) (okNw (makeC 3 slot) (yInt nv) 2 false cs cf) = true := by
   have e2 := e2
   simp only [inU, vS, forall_const] at e2
   rw [ok]; simp only [vS, forall_const]; omega
 have n1 := p3
 have pw : yAnd (yLe 0 (wordC false false count 3)) (yLt (wordC false false count 3) 18446744073709551616) = true := by simp only [vS, forall_const]; omega
 have iv := fun m i hi => em_inv (slot := slot) (count := count) (N := nv) (k := k) (v := v) (l := l) (kd := 2) (key := key) (val := val) hr (by omega) (by omega) f1 (by decide) hc' m i hi
 have iv0 := (iv 0 0 (by omega)).2.2.2.1
 refine mstI p1 ?_
 refine ⟨fun hlt => ?_, fun _ => rfl⟩
 have hlt : (nv : Int) < cf := by simp only [vS, forall_const] at hlt; exact hlt
 repeat (refine mstI (by first | exact yCol1 | exact yColI | exact hr | exact p2 | exact p3 | exact p4 | exact p5 | exact p6 | exact iv0) ?_)
 refine ⟨rfl, ⟨x0Em cs ct cf slot nv k nv v l 2 key val count, ⟨Nat.zero_le _, rfl⟩, ?_⟩, fun _ x hx => ⟨fun hA => ⟨fun hB => ?_, fun hB => ?_⟩, fun hA => ?_⟩⟩
 · repeat' (first | apply And.intro | intro _)
   all_goals first
     | rfl
     | trivial
     | (show w0Em cs ct cf slot nv k nv v l count _ = _
        unfold w0Em
        rw [show yNadd 0 (yNat (verC cs ct cf slot)) = yNat (verC cs ct cf slot) from Nat.zero_add _]; exact updSel)
 · obtain ⟨x1, x2⟩ := hx
   have ivx := iv x.i x.i (by omega)
   rw [← x2] at ivx
   have ivs := iv (x.i + 1) (x.i + 1) (by omega)
   simp only [runM] at ivs
   rw [← x2] at ivs
   have i1 : invE cs ct cf cl cp x.e = true := ivx.2.1
   have i2 := ivs.2.2.2.1
   have lt : x.i < tEm cs ct cf slot nv k v 2 key val count := by
     rcases Nat.lt_or_ge x.i (tEm cs ct cf slot nv k v 2 key val count) with c | c
     · exact c
     · exfalso
       have hx' : prEm cs ct cf (sizeN cs ct cf) (x0Em cs ct cf slot nv k nv v l 2 key val count) (tEm cs ct cf slot nv k v 2 key val count) x := ⟨x1, x2⟩
       have := em_big hr (by omega) (by omega) f1 f3 hc' (.inr (.inl ⟨rfl, his, hlt⟩)) hx' c
       rw [this] at hB; revert hB; decide
   have bnd : x.i < 100000 := by
     have := tEm_le (slot := slot) (val := val) (count := count) (v := v) (cs := cs) (ct := ct) (kd := 2) (key := key) (k := k) (N := nv) f1 g64
     omega
   repeat (refine mstI (by first | exact yCol1 | exact yColI | exact i1 | exact i2 | exact p3 | exact p4 | rfl | exact yNeq_t.mpr rfl) ?_)
   refine ⟨rfl, stpM cs ct cf (sizeN cs ct cf) x, ⟨lt, ?_⟩, ?_, ?_⟩
   · show stpM _ _ _ _ x = stpM _ _ _ _ (runM _ _ _ _ _ x.i)
     rw [← x2]
   · show Nat.succ (tEm cs ct cf slot nv k v 2 key val count - (x.i + 1)) ≤ tEm cs ct cf slot nv k v 2 key val count - x.i
     omega
   · repeat' (first | apply And.intro | intro _)
     all_goals first
       | rfl
       | trivial
       | (show ((x.i + 1 : Nat) : Int) = yWrap .i64 ((x.i : Int) + 1); rw [wrap64 (by omega) (by omega)]; omega)
 · have F := em_fin hr (by omega) (by omega) f1 f3 hc' (.inr (.inl ⟨rfl, his, hlt⟩)) hx (.inl (by simpa only [yEq_f] using hB)) (M := putN (isC k key nv) nv) (K' := putK (isC k key nv) (atC k key nv) key k) (V' := putK (isC k key nv) (atC k key nv) val v) (by rw [his]; rfl) (fun j hj => by rw [his]; rfl) (fun j hj => by rw [his]; rfl)
   repeat (refine mstI (by first | exact yCol1 | exact yColI | exact F.inv) ?_)
   refine fork_f (by rw [F.dn]; rfl) ?_
   refine fork_f (by
     have e : yEq (oldE x.e x.po) 0 = true := by rw [yEq_t, F.old, if_pos rfl]
     exact congrArg yNot e) ?_
   repeat (refine mstI (by first | exact yCol1 | exact yColI | exact n1 | exact F.pre | exact F.sz) ?_)
   refine fork_f (congrArg yNot F.nd) ?_
   refine mstI pv (mstI (yIn_t.mpr iV) (mstI iV' (mstI pw ?_)))
   refine fork_f (by
     have e : yEq (x.w (yNadd 0 (yNat (verC cs ct cf slot)))) (bumpC (wordC false false count 3)) = true := by simp only [vS, forall_const]; exact F.ver
     exact congrArg yNot e) ?_
   refine ⟨rfl, ⟨0, Nat.zero_le _, rfl, rfl, rfl⟩, fun _ j hj => ⟨fun hC => ?_, fun _ => rfl⟩⟩
   have hj : j ≤ sizeN cs ct cf := hj
   have hlt : j < sizeN cs ct cf := by simp only [vS, forall_const] at hC; omega
   have nx : ∃ i' : Nat, prFd (sizeN cs ct cf) i' ∧ Nat.succ (msFit (sizeN cs ct cf) i') ≤ msFit (sizeN cs ct cf) j ∧ true = true ∧ yInt i' = yWrap IntKind.i64 (yAdd (yInt j) 1) ∧ true = true := by
     refine ⟨j + 1, hlt, by unfold msFit; omega, rfl, ?_, rfl⟩
     show ((j + 1 : Nat) : Int) = yWrap .i64 ((j : Int) + 1)
     rw [wrap64 (by omega) (by omega)]; omega
   have j1 : yIn (yInt j) (sizeN cs ct cf) = true := by simp only [vS, forall_const]; omega
   have j2 : yNlt (yNadd 0 (yNat (yInt j))) (sizeN cs ct cf) = true := by rw [yNat_yInt]; simp only [vS, forall_const]; omega
   refine mstI j1 (mstI j2 (mstI j1 ⟨fun hD => ?_, fun _ => ⟨rfl, nx⟩⟩))
   have hne : x.w j ≠ w0Em cs ct cf slot nv k nv v l count j := fun e => by
     have hD' : yNot (yEq (x.w (yNadd 0 (yNat (yInt j)))) (ySel (yNeq (yNat (yInt j)) (yNadd 0 (yNat (verC cs ct cf slot)))) (wordC false false count 3) (putW ct cf slot false nv (fun (i : Nat) => k i) nv (fun (i : Nat) => v i) l (fun (i : Nat) => newW cs ct cf i) (yNat (yInt j))))) = true := hD
     rw [yNat_yInt] at hD'
     simp only [vS, forall_const] at hD'
     apply hD'
     rw [e]; exact updSel
   obtain ⟨k1, k2⟩ := F.out j hlt hne
   have pn : yAnd (rightC cs ct cf cl cp) (yAnd (yLe 0 slot) (yLe slot (yAdd cs 1))) = true := by simp only [vS, forall_const, hr]; omega
   have ws : yWrap .i64 (yAdd slot 1) = slot + 1 := wrap64 (n := slot + 1) (by omega) (by omega)
   have pn2 : yAnd (rightC cs ct cf cl cp) (yAnd (yLe 0 (yWrap .i64 (yAdd slot 1))) (yLe (yWrap .i64 (yAdd slot 1)) (yAdd cs 1))) = true := by rw [ws]; simp only [vS, forall_const, hr]; omega
   exact mstI pn (fork_f (yLt_f.mpr k1) (mstI pn2 (fork_f (by rw [ws, yLe_f]; exact k2) ⟨rfl, nx⟩)))
 · have F := em_fin hr (by omega) (by omega) f1 f3 hc' (.inr (.inl ⟨rfl, his, hlt⟩)) hx (.inr (by
     have hA := hA
     have w1 : yWrap .i64 (yMul 6 cf) = 6 * cf := wrap64 (n := 6 * cf) (by omega) (by omega)
     have w2 : yWrap .i64 (yAdd (6 * cf) 9) = 6 * cf + 9 := wrap64 (n := 6 * cf + 9) (by omega) (by omega)
     rw [w1, w2, yLt_f] at hA
     exact hA)) (M := putN (isC k key nv) nv) (K' := putK (isC k key nv) (atC k key nv) key k) (V' := putK (isC k key nv) (atC k key nv) val v) (by rw [his]; rfl) (fun j hj => by rw [his]; rfl) (fun j hj => by rw [his]; rfl)
   repeat (refine mstI (by first | exact yCol1 | exact yColI | exact F.inv) ?_)
   refine fork_f (by rw [F.dn]; rfl) ?_
   refine fork_f (by
     have e : yEq (oldE x.e x.po) 0 = true := by rw [yEq_t, F.old, if_pos rfl]
     exact congrArg yNot e) ?_
   repeat (refine mstI (by first | exact yCol1 | exact yColI | exact n1 | exact F.pre | exact F.sz) ?_)
   refine fork_f (congrArg yNot F.nd) ?_
   refine mstI pv (mstI (yIn_t.mpr iV) (mstI iV' (mstI pw ?_)))
   refine fork_f (by
     have e : yEq (x.w (yNadd 0 (yNat (verC cs ct cf slot)))) (bumpC (wordC false false count 3)) = true := by simp only [vS, forall_const]; exact F.ver
     exact congrArg yNot e) ?_
   refine ⟨rfl, ⟨0, Nat.zero_le _, rfl, rfl, rfl⟩, fun _ j hj => ⟨fun hC => ?_, fun _ => rfl⟩⟩
   have hj : j ≤ sizeN cs ct cf := hj
   have hlt : j < sizeN cs ct cf := by simp only [vS, forall_const] at hC; omega
   have nx : ∃ i' : Nat, prFd (sizeN cs ct cf) i' ∧ Nat.succ (msFit (sizeN cs ct cf) i') ≤ msFit (sizeN cs ct cf) j ∧ true = true ∧ yInt i' = yWrap IntKind.i64 (yAdd (yInt j) 1) ∧ true = true := by
     refine ⟨j + 1, hlt, by unfold msFit; omega, rfl, ?_, rfl⟩
     show ((j + 1 : Nat) : Int) = yWrap .i64 ((j : Int) + 1)
     rw [wrap64 (by omega) (by omega)]; omega
   have j1 : yIn (yInt j) (sizeN cs ct cf) = true := by simp only [vS, forall_const]; omega
   have j2 : yNlt (yNadd 0 (yNat (yInt j))) (sizeN cs ct cf) = true := by rw [yNat_yInt]; simp only [vS, forall_const]; omega
   refine mstI j1 (mstI j2 (mstI j1 ⟨fun hD => ?_, fun _ => ⟨rfl, nx⟩⟩))
   have hne : x.w j ≠ w0Em cs ct cf slot nv k nv v l count j := fun e => by
     have hD' : yNot (yEq (x.w (yNadd 0 (yNat (yInt j)))) (ySel (yNeq (yNat (yInt j)) (yNadd 0 (yNat (verC cs ct cf slot)))) (wordC false false count 3) (putW ct cf slot false nv (fun (i : Nat) => k i) nv (fun (i : Nat) => v i) l (fun (i : Nat) => newW cs ct cf i) (yNat (yInt j))))) = true := hD
     rw [yNat_yInt] at hD'
     simp only [vS, forall_const] at hD'
     apply hD'
     rw [e]; exact updSel
   obtain ⟨k1, k2⟩ := F.out j hlt hne
   have pn : yAnd (rightC cs ct cf cl cp) (yAnd (yLe 0 slot) (yLe slot (yAdd cs 1))) = true := by simp only [vS, forall_const, hr]; omega
   have ws : yWrap .i64 (yAdd slot 1) = slot + 1 := wrap64 (n := slot + 1) (by omega) (by omega)
   have pn2 : yAnd (rightC cs ct cf cl cp) (yAnd (yLe 0 (yWrap .i64 (yAdd slot 1))) (yLe (yWrap .i64 (yAdd slot 1)) (yAdd cs 1))) = true := by rw [ws]; simp only [vS, forall_const, hr]; omega
   exact mstI pn (fork_f (yLt_f.mpr k1) (mstI pn2 (fork_f (by rw [ws, yLe_f]; exact k2) ⟨rfl, nx⟩)))
theorem goalEm2F_tt : (goalEm2F) = True := goalEm2F_eq.trans (eq_true goalEm2F_vc)
theorem goalEm2F_ok : goalEm2F := @ft' goalEm2F goalEm2F_tt
def goalEm3TV : Prop := (∀ (cs ct cf cl cp slot : Int) (i kn : Bool) (nk : Nat) (k : Nat → Int) (vn : Bool) (nv : Nat) (v : Nat → Int) (l ix0 key val count : Int) (x0 : EmI) (T : Nat), rightC cs ct cf cl cp = true → yAnd (yLe 0 count) (yLt count 18446744073709551616) = true → isC k key nk = true → x0 = x0Em cs ct cf slot nk k nv v l 3 key val count → T = tEm cs ct cf slot nk k v 3 key val count → mst (rightC cs ct cf cl cp) (mst (rightC cs ct cf cl cp) ((yLt 5000 (sizeC cs ct cf) = true → true = true) ∧ (yLt 5000 (sizeC cs ct cf) = false → (yLt slot (1 : Int) = true → true = true) ∧ (yLt slot (1 : Int) = false → (yLt cs slot = true → true = true) ∧ (yLt cs slot = false → (i = true → true = true) ∧ (i = false → mst (yCol (CK.int IntKind.u64) nk fun (i : Nat) => AV.y IntKind.u64 (k i)) (mst (yCol (CK.int IntKind.u64) nv fun (i : Nat) => AV.y IntKind.u64 (v i)) (mst (yAnd (yNot i) (yLe cf 64)) ((yNot (fitsC i nk (fun (i : Nat) => k i) nv cf) = true → true = true) ∧ (yNot (fitsC i nk (fun (i : Nat) => k i) nv cf) = false → mst (rightC cs ct cf cl cp) (mst (yNeq 0 0) (mst (yNeq (sizeN cs ct cf) (sizeN cs ct cf)) (mst (yCol (CK.int IntKind.u64) (sizeN cs ct cf) fun (i : Nat) => AV.y IntKind.u64 (newW cs ct cf i)) (mst (yCol (CK.int IntKind.u64) nk fun (i : Nat) => AV.y IntKind.u64 (k i)) (mst (yCol (CK.int IntKind.u64) nv fun (i : Nat) => AV.y IntKind.u64 (v i)) (mst (yAnd (rightC cs ct cf cl cp) (yAnd (yAnd (yLe 0 slot) (yLe slot cs)) (yAnd (yNeq (sizeN cs ct cf) (sizeN cs ct cf)) (yAnd (yLe (yInt nk) cf) (yLe (yInt nv) cf))))) (mst (yAnd (yAnd (yLe 0 count) (yLt count 18446744073709551616)) (yAnd (yLe 0 3) (yLt 3 18446744073709551616))) (mst (yAnd (rightC cs ct cf cl cp) (yAnd (yLe 0 slot) (yLe slot cs))) (mst (yIn (verC cs ct cf slot) (sizeN cs ct cf)) (mst (yNlt (yNadd 0 (yNat (verC cs ct cf slot))) (sizeN cs ct cf)) (mst (yCol (CK.int IntKind.u64) nk fun (i : Nat) => AV.y IntKind.u64 (k i)) (mst (yCol (CK.int IntKind.u64) nv fun (i : Nat) => AV.y IntKind.u64 (v i)) (mst (yAnd (yNle nk 1000000) (yIff (isC (fun (i : Nat) => k i) key nk) true)) (mst (yCol (CK.int IntKind.u64) nk fun (i : Nat) => AV.y IntKind.u64 (k i)) (mst (yCol (CK.int IntKind.u64) nv fun (i : Nat) => AV.y IntKind.u64 (v i)) (mst (yAnd (yAnd (yNle nk 64) (yNeq nk nv)) (risesB (fun (i : Nat) => k i) nk)) (mst (yNle (yNadd 0 (sizeN cs ct cf)) (sizeN cs ct cf)) (mst (yCol (CK.int IntKind.u64) (sizeN cs ct cf) fun (i_1 : Nat) => AV.y IntKind.u64 (ySel (yNeq i_1 (yNadd 0 (yNat (verC cs ct cf slot)))) (wordC false false count 3) (putW ct cf slot i nk (fun (i : Nat) => k i) nv (fun (i : Nat) => v i) l (fun (i : Nat) => newW cs ct cf i) i_1))) (mst (yNle (sizeN cs ct cf) 1000000) (mst (rightC cs ct cf cl cp) (mst (yAnd (yLe 0 3) (yLt 3 18446744073709551616)) (mst (yAnd (yAnd (yLe 0 (makeC 3 slot)) (yLt (makeC 3 slot) 18446744073709551616)) (okNw (makeC 3 slot) (yInt nk) 3 false cs cf)) (mst (yCol (CK.int IntKind.u64) 0 fun (i : Nat) => AV.y IntKind.u64 0) (mst (yCol (CK.int IntKind.u64) 0 fun (i : Nat) => AV.y IntKind.u64 0) (mst (yCol (CK.int IntKind.i64) 0 fun (i : Nat) => AV.y IntKind.i64 0) (mst (yCol (CK.int IntKind.u64) 0 fun (i : Nat) => AV.y IntKind.u64 0) (mst (invO { h := makeC 3 slot, v := wordC false false count 3, n := yInt nk, kd := (3 : Int), ix := yInt (atC (fun (i : Nat) => k i) key nk), key := key, val := val, at_ := (1 : Int), nb := false, kn := true, nk := nat_lit 0, k := fun (i : Nat) => (0 : Int), vn := true, nv := nat_lit 0, w := fun (i : Nat) => (0 : Int), lk := (0 : Int), wn := true, nw := nat_lit 0, wa := fun (i : Nat) => (0 : Int), wb := fun (i : Nat) => (0 : Int) } (0 : Int)) (true = true ∧ (∃ (i0 : EmI), prEm cs ct cf (sizeN cs ct cf) x0 T i0 ∧ true = true ∧ dnE i0.1 i0.2 = dnE { h := makeC 3 slot, v := wordC false false count 3, n := yInt nk, kd := (3 : Int), ix := yInt (atC (fun (i : Nat) => k i) key nk), key := key, val := val, at_ := (1 : Int), nb := false, kn := true, nk := nat_lit 0, k := fun (i : Nat) => (0 : Int), vn := true, nv := nat_lit 0, w := fun (i : Nat) => (0 : Int), lk := (0 : Int), wn := true, nw := nat_lit 0, wa := fun (i : Nat) => (0 : Int), wb := fun (i : Nat) => (0 : Int) } (0 : Int) ∧ yInt i0.5 = (0 : Int) ∧ (0 : Int) = (0 : Int) ∧ (0 : Int) = (0 : Int) ∧ (0 : Int) = (0 : Int) ∧ (0 : Int) = (0 : Int) ∧ qH i0.1 = makeC 3 slot ∧ qV i0.1 = wordC false false count 3 ∧ qN i0.1 = yInt nk ∧ false = false ∧ (0 : Int) = (0 : Int) ∧ cs = cs ∧ ct = ct ∧ cf = cf ∧ cl = cl ∧ cp = cp ∧ qKd i0.1 = (3 : Int) ∧ qIx i0.1 = yInt (atC (fun (i : Nat) => k i) key nk) ∧ qKey i0.1 = key ∧ qVal i0.1 = val ∧ qAt i0.1 = (1 : Int) ∧ i0.2 = (0 : Int) ∧ qNb i0.1 = false ∧ (qKn i0.1 = true ∧ qNk i0.1 = nat_lit 0 ∧ ∀ (i : Nat), Nat.succ i ≤ qNk i0.1 → qK i0.1 i = (0 : Int) ∧ True) ∧ (qVn i0.1 = true ∧ qNv i0.1 = nat_lit 0 ∧ ∀ (i : Nat), Nat.succ i ≤ qNv i0.1 → qW i0.1 i = (0 : Int) ∧ True) ∧ qLk i0.1 = (0 : Int) ∧ (qWn i0.1 = true ∧ qNw i0.1 = nat_lit 0 ∧ ∀ (i : Nat), Nat.succ i ≤ qNw i0.1 → qWa i0.1 i = (0 : Int) ∧ qWb i0.1 i = (0 : Int) ∧ True) ∧ i0.3 = (0 : Int) ∧ i0.4 = (0 : Int) ∧ (0 : Int) = (0 : Int) ∧ sizeN cs ct cf = sizeN cs ct cf ∧ (∀ (i_1 : Nat), Nat.succ i_1 ≤ sizeN cs ct cf → i0.6 i_1 = ySel (yNeq i_1 (yNadd 0 (yNat (verC cs ct cf slot)))) (wordC false false count 3) (putW ct cf slot i nk (fun (i : Nat) => k i) nv (fun (i : Nat) => v i) l (fun (i : Nat) => newW cs ct cf i) i_1) ∧ True) ∧ true = true) ∧ ∀ (g : Nat → AV) (i_1 : EmI), prEm cs ct cf (sizeN cs ct cf) x0 T i_1 → (yLt (yInt i_1.5) (yWrap IntKind.i64 (yAdd (yWrap IntKind.i64 (yMul 6 cf)) 9)) = true → (yEq (dnE i_1.1 i_1.2) (0 : Int) = true → mst (yCol (CK.int IntKind.u64) (qNk i_1.1) fun (i : Nat) => AV.y IntKind.u64 (qK i_1.1 i)) (mst (yCol (CK.int IntKind.u64) (qNv i_1.1) fun (i : Nat) => AV.y IntKind.u64 (qW i_1.1 i)) (mst (yCol (CK.int IntKind.i64) (qNw i_1.1) fun (i : Nat) => AV.y IntKind.i64 (qWa i_1.1 i)) (mst (yCol (CK.int IntKind.u64) (qNw i_1.1) fun (i : Nat) => AV.y IntKind.u64 (qWb i_1.1 i)) (mst (invE cs ct cf cl cp i_1.1) (mst (yNeq 0 0) (mst (yNeq (sizeN cs ct cf) (sizeN cs ct cf)) (mst (yCol (CK.int IntKind.u64) (sizeN cs ct cf) fun (i : Nat) => AV.y IntKind.u64 (i_1.6 i)) (mst (yNle (sizeN cs ct cf) 1000000) (mst (yCol (CK.int IntKind.u64) (qNk i_1.1) fun (i : Nat) => AV.y IntKind.u64 (qK i_1.1 i)) (mst (yCol (CK.int IntKind.u64) (qNv i_1.1) fun (i : Nat) => AV.y IntKind.u64 (qW i_1.1 i)) (mst (yCol (CK.int IntKind.i64) (qNw i_1.1) fun (i : Nat) => AV.y IntKind.i64 (qWa i_1.1 i)) (mst (yCol (CK.int IntKind.u64) (qNw i_1.1) fun (i : Nat) => AV.y IntKind.u64 (qWb i_1.1 i)) (mst (invE cs ct cf cl cp i_1.1) (mst (yCol (CK.int IntKind.u64) (qNk (tkE cs ct cf i_1.1 (doR (wtK i_1.1) (wtA cs ct cf i_1.1) (wtO i_1.1) (sizeN cs ct cf) fun (i : Nat) => i_1.6 i))) fun (i : Nat) => AV.y IntKind.u64 (qK (tkE cs ct cf i_1.1 (doR (wtK i_1.1) (wtA cs ct cf i_1.1) (wtO i_1.1) (sizeN cs ct cf) fun (i : Nat) => i_1.6 i)) i)) (mst (yCol (CK.int IntKind.u64) (qNv (tkE cs ct cf i_1.1 (doR (wtK i_1.1) (wtA cs ct cf i_1.1) (wtO i_1.1) (sizeN cs ct cf) fun (i : Nat) => i_1.6 i))) fun (i : Nat) => AV.y IntKind.u64 (qW (tkE cs ct cf i_1.1 (doR (wtK i_1.1) (wtA cs ct cf i_1.1) (wtO i_1.1) (sizeN cs ct cf) fun (i : Nat) => i_1.6 i)) i)) (mst (yCol (CK.int IntKind.i64) (qNw (tkE cs ct cf i_1.1 (doR (wtK i_1.1) (wtA cs ct cf i_1.1) (wtO i_1.1) (sizeN cs ct cf) fun (i : Nat) => i_1.6 i))) fun (i : Nat) => AV.y IntKind.i64 (qWa (tkE cs ct cf i_1.1 (doR (wtK i_1.1) (wtA cs ct cf i_1.1) (wtO i_1.1) (sizeN cs ct cf) fun (i : Nat) => i_1.6 i)) i)) (mst (yCol (CK.int IntKind.u64) (qNw (tkE cs ct cf i_1.1 (doR (wtK i_1.1) (wtA cs ct cf i_1.1) (wtO i_1.1) (sizeN cs ct cf) fun (i : Nat) => i_1.6 i))) fun (i : Nat) => AV.y IntKind.u64 (qWb (tkE cs ct cf i_1.1 (doR (wtK i_1.1) (wtA cs ct cf i_1.1) (wtO i_1.1) (sizeN cs ct cf) fun (i : Nat) => i_1.6 i)) i)) (mst (invO (tkE cs ct cf i_1.1 (doR (wtK i_1.1) (wtA cs ct cf i_1.1) (wtO i_1.1) (sizeN cs ct cf) fun (i : Nat) => i_1.6 i)) (outE i_1.1 i_1.2 (doR (wtK i_1.1) (wtA cs ct cf i_1.1) (wtO i_1.1) (sizeN cs ct cf) fun (i : Nat) => i_1.6 i))) (true = true ∧ ∃ (i' : EmI), prEm cs ct cf (sizeN cs ct cf) x0 T i' ∧ Nat.succ (msEm T i') ≤ msEm T i_1 ∧ true = true ∧ dnE i'.1 i'.2 = dnE (tkE cs ct cf i_1.1 (doR (wtK i_1.1) (wtA cs ct cf i_1.1) (wtO i_1.1) (sizeN cs ct cf) fun (i : Nat) => i_1.6 i)) (outE i_1.1 i_1.2 (doR (wtK i_1.1) (wtA cs ct cf i_1.1) (wtO i_1.1) (sizeN cs ct cf) fun (i : Nat) => i_1.6 i)) ∧ yInt i'.5 = yWrap IntKind.i64 (yAdd (yInt i_1.5) 1) ∧ (0 : Int) = (0 : Int) ∧ (0 : Int) = (0 : Int) ∧ (0 : Int) = (0 : Int) ∧ (0 : Int) = (0 : Int) ∧ qH i'.1 = qH (tkE cs ct cf i_1.1 (doR (wtK i_1.1) (wtA cs ct cf i_1.1) (wtO i_1.1) (sizeN cs ct cf) fun (i : Nat) => i_1.6 i)) ∧ qV i'.1 = qV (tkE cs ct cf i_1.1 (doR (wtK i_1.1) (wtA cs ct cf i_1.1) (wtO i_1.1) (sizeN cs ct cf) fun (i : Nat) => i_1.6 i)) ∧ qN i'.1 = qN (tkE cs ct cf i_1.1 (doR (wtK i_1.1) (wtA cs ct cf i_1.1) (wtO i_1.1) (sizeN cs ct cf) fun (i : Nat) => i_1.6 i)) ∧ false = false ∧ (0 : Int) = (0 : Int) ∧ cs = cs ∧ ct = ct ∧ cf = cf ∧ cl = cl ∧ cp = cp ∧ qKd i'.1 = qKd (tkE cs ct cf i_1.1 (doR (wtK i_1.1) (wtA cs ct cf i_1.1) (wtO i_1.1) (sizeN cs ct cf) fun (i : Nat) => i_1.6 i)) ∧ qIx i'.1 = qIx (tkE cs ct cf i_1.1 (doR (wtK i_1.1) (wtA cs ct cf i_1.1) (wtO i_1.1) (sizeN cs ct cf) fun (i : Nat) => i_1.6 i)) ∧ qKey i'.1 = qKey (tkE cs ct cf i_1.1 (doR (wtK i_1.1) (wtA cs ct cf i_1.1) (wtO i_1.1) (sizeN cs ct cf) fun (i : Nat) => i_1.6 i)) ∧ qVal i'.1 = qVal (tkE cs ct cf i_1.1 (doR (wtK i_1.1) (wtA cs ct cf i_1.1) (wtO i_1.1) (sizeN cs ct cf) fun (i : Nat) => i_1.6 i)) ∧ qAt i'.1 = qAt (tkE cs ct cf i_1.1 (doR (wtK i_1.1) (wtA cs ct cf i_1.1) (wtO i_1.1) (sizeN cs ct cf) fun (i : Nat) => i_1.6 i)) ∧ i'.2 = outE i_1.1 i_1.2 (doR (wtK i_1.1) (wtA cs ct cf i_1.1) (wtO i_1.1) (sizeN cs ct cf) fun (i : Nat) => i_1.6 i) ∧ qNb i'.1 = qNb (tkE cs ct cf i_1.1 (doR (wtK i_1.1) (wtA cs ct cf i_1.1) (wtO i_1.1) (sizeN cs ct cf) fun (i : Nat) => i_1.6 i)) ∧ (qKn i'.1 = qKn (tkE cs ct cf i_1.1 (doR (wtK i_1.1) (wtA cs ct cf i_1.1) (wtO i_1.1) (sizeN cs ct cf) fun (i : Nat) => i_1.6 i)) ∧ qNk i'.1 = qNk (tkE cs ct cf i_1.1 (doR (wtK i_1.1) (wtA cs ct cf i_1.1) (wtO i_1.1) (sizeN cs ct cf) fun (i : Nat) => i_1.6 i)) ∧ ∀ (i : Nat), Nat.succ i ≤ qNk i'.1 → qK i'.1 i = qK (tkE cs ct cf i_1.1 (doR (wtK i_1.1) (wtA cs ct cf i_1.1) (wtO i_1.1) (sizeN cs ct cf) fun (i : Nat) => i_1.6 i)) i ∧ True) ∧ (qVn i'.1 = qVn (tkE cs ct cf i_1.1 (doR (wtK i_1.1) (wtA cs ct cf i_1.1) (wtO i_1.1) (sizeN cs ct cf) fun (i : Nat) => i_1.6 i)) ∧ qNv i'.1 = qNv (tkE cs ct cf i_1.1 (doR (wtK i_1.1) (wtA cs ct cf i_1.1) (wtO i_1.1) (sizeN cs ct cf) fun (i : Nat) => i_1.6 i)) ∧ ∀ (i : Nat), Nat.succ i ≤ qNv i'.1 → qW i'.1 i = qW (tkE cs ct cf i_1.1 (doR (wtK i_1.1) (wtA cs ct cf i_1.1) (wtO i_1.1) (sizeN cs ct cf) fun (i : Nat) => i_1.6 i)) i ∧ True) ∧ qLk i'.1 = qLk (tkE cs ct cf i_1.1 (doR (wtK i_1.1) (wtA cs ct cf i_1.1) (wtO i_1.1) (sizeN cs ct cf) fun (i : Nat) => i_1.6 i)) ∧ (qWn i'.1 = qWn (tkE cs ct cf i_1.1 (doR (wtK i_1.1) (wtA cs ct cf i_1.1) (wtO i_1.1) (sizeN cs ct cf) fun (i : Nat) => i_1.6 i)) ∧ qNw i'.1 = qNw (tkE cs ct cf i_1.1 (doR (wtK i_1.1) (wtA cs ct cf i_1.1) (wtO i_1.1) (sizeN cs ct cf) fun (i : Nat) => i_1.6 i)) ∧ ∀ (i : Nat), Nat.succ i ≤ qNw i'.1 → qWa i'.1 i = qWa (tkE cs ct cf i_1.1 (doR (wtK i_1.1) (wtA cs ct cf i_1.1) (wtO i_1.1) (sizeN cs ct cf) fun (i : Nat) => i_1.6 i)) i ∧ qWb i'.1 i = qWb (tkE cs ct cf i_1.1 (doR (wtK i_1.1) (wtA cs ct cf i_1.1) (wtO i_1.1) (sizeN cs ct cf) fun (i : Nat) => i_1.6 i)) i ∧ True) ∧ i'.3 = mkE i_1.1 (doR (wtK i_1.1) (wtA cs ct cf i_1.1) (wtO i_1.1) (sizeN cs ct cf) fun (i : Nat) => i_1.6 i) ∧ i'.4 = maE i_1.1 (doR (wtK i_1.1) (wtA cs ct cf i_1.1) (wtO i_1.1) (sizeN cs ct cf) fun (i : Nat) => i_1.6 i) ∧ (0 : Int) = (0 : Int) ∧ sizeN cs ct cf = sizeN cs ct cf ∧ (∀ (i : Nat), Nat.succ i ≤ sizeN cs ct cf → i'.6 i = doW (wtK i_1.1) (wtA cs ct cf i_1.1) (wtO i_1.1) (wtN i_1.1) (sizeN cs ct cf) (fun (i : Nat) => i_1.6 i) i ∧ True) ∧ true = true)))))))))))))))))))) ∧ (yEq (dnE i_1.1 i_1.2) (0 : Int) = false → mst (yCol (CK.int IntKind.u64) (qNk i_1.1) fun (i : Nat) => AV.y IntKind.u64 (qK i_1.1 i)) (mst (yCol (CK.int IntKind.u64) (qNv i_1.1) fun (i : Nat) => AV.y IntKind.u64 (qW i_1.1 i)) (mst (yCol (CK.int IntKind.i64) (qNw i_1.1) fun (i : Nat) => AV.y IntKind.i64 (qWa i_1.1 i)) (mst (yCol (CK.int IntKind.u64) (qNw i_1.1) fun (i : Nat) => AV.y IntKind.u64 (qWb i_1.1 i)) (mst (invO i_1.1 i_1.2) ((yNot (yEq (dnE i_1.1 i_1.2) 1) = true → true = false) ∧ (yNot (yEq (dnE i_1.1 i_1.2) 1) = false → mst (yIn (yInt (atC (fun (i : Nat) => k i) key nk)) nv) ((yNot (yEq (oldE i_1.1 i_1.2) (v (yNat (yInt (atC (fun (i : Nat) => k i) key nk))))) = true → true = false) ∧ (yNot (yEq (oldE i_1.1 i_1.2) (v (yNat (yInt (atC (fun (i : Nat) => k i) key nk))))) = false → mst (yNle (yNadd 0 (sizeN cs ct cf)) (sizeN cs ct cf)) (mst (yCol (CK.int IntKind.u64) (sizeN cs ct cf) fun (i : Nat) => AV.y IntKind.u64 (i_1.6 i)) (mst (yAnd (rightC cs ct cf cl cp) (yAnd (yAnd (yLe 0 slot) (yLe slot cs)) (yAnd (yNeq (sizeN cs ct cf) (sizeN cs ct cf)) (yAnd (yLe 0 (ndS ct cf slot fun (i : Nat) => i_1.6 i)) (yLt (ndS ct cf slot fun (i : Nat) => i_1.6 i) 18446744073709551616))))) (mst (yCol (CK.int IntKind.u64) (ndM (ndI ct cf slot fun (i : Nat) => i_1.6 i) (ndN ct cf slot fun (i : Nat) => i_1.6 i)) fun (i : Nat) => AV.y IntKind.u64 (ndK ct cf slot (fun (i : Nat) => i_1.6 i) i)) (mst (yCol (CK.int IntKind.u64) (ndN ct cf slot fun (i : Nat) => i_1.6 i) fun (i : Nat) => AV.y IntKind.u64 (ndVl ct cf slot (fun (i : Nat) => i_1.6 i) i)) (mst (yCol (CK.int IntKind.u64) (drN (isC (fun (i : Nat) => k i) key nk) nk) fun (i : Nat) => AV.y IntKind.u64 (drK (isC (fun (i : Nat) => k i) key nk) (atC (fun (i : Nat) => k i) key nk) (fun (i : Nat) => k i) i)) (mst (yCol (CK.int IntKind.u64) (drN (isC (fun (i : Nat) => k i) key nk) nk) fun (i : Nat) => AV.y IntKind.u64 (drK (isC (fun (i : Nat) => k i) key nk) (atC (fun (i : Nat) => k i) key nk) (fun (i : Nat) => v i) i)) (mst (yAnd (yNle (ndM (ndI ct cf slot fun (i : Nat) => i_1.6 i) (ndN ct cf slot fun (i : Nat) => i_1.6 i)) 1000000) (yNle (ndN ct cf slot fun (i : Nat) => i_1.6 i) 1000000)) ((yNot (yAnd (yIff (ndI ct cf slot fun (i : Nat) => i_1.6 i) false) (yAnd (eqW (ndM (ndI ct cf slot fun (i : Nat) => i_1.6 i) (ndN ct cf slot fun (i : Nat) => i_1.6 i)) (fun (i : Nat) => ndK ct cf slot (fun (i : Nat) => i_1.6 i) i) (drN (isC (fun (i : Nat) => k i) key nk) nk) fun (i : Nat) => drK (isC (fun (i : Nat) => k i) key nk) (atC (fun (i : Nat) => k i) key nk) (fun (i : Nat) => k i) i) (yAnd (eqW (ndN ct cf slot fun (i : Nat) => i_1.6 i) (fun (i : Nat) => ndVl ct cf slot (fun (i : Nat) => i_1.6 i) i) (drN (isC (fun (i : Nat) => k i) key nk) nk) fun (i : Nat) => drK (isC (fun (i : Nat) => k i) key nk) (atC (fun (i : Nat) => k i) key nk) (fun (i : Nat) => v i) i) (yEq (ndL ct cf slot fun (i : Nat) => i_1.6 i) l)))) = true → true = false) ∧ (yNot (yAnd (yIff (ndI ct cf slot fun (i : Nat) => i_1.6 i) false) (yAnd (eqW (ndM (ndI ct cf slot fun (i : Nat) => i_1.6 i) (ndN ct cf slot fun (i : Nat) => i_1.6 i)) (fun (i : Nat) => ndK ct cf slot (fun (i : Nat) => i_1.6 i) i) (drN (isC (fun (i : Nat) => k i) key nk) nk) fun (i : Nat) => drK (isC (fun (i : Nat) => k i) key nk) (atC (fun (i : Nat) => k i) key nk) (fun (i : Nat) => k i) i) (yAnd (eqW (ndN ct cf slot fun (i : Nat) => i_1.6 i) (fun (i : Nat) => ndVl ct cf slot (fun (i : Nat) => i_1.6 i) i) (drN (isC (fun (i : Nat) => k i) key nk) nk) fun (i : Nat) => drK (isC (fun (i : Nat) => k i) key nk) (atC (fun (i : Nat) => k i) key nk) (fun (i : Nat) => v i) i) (yEq (ndL ct cf slot fun (i : Nat) => i_1.6 i) l)))) = false → mst (yAnd (rightC cs ct cf cl cp) (yAnd (yLe 0 slot) (yLe slot cs))) (mst (yIn (verC cs ct cf slot) (sizeN cs ct cf)) (mst (yNlt (yNadd 0 (yNat (verC cs ct cf slot))) (sizeN cs ct cf)) (mst (yAnd (yLe 0 (wordC false false count 3)) (yLt (wordC false false count 3) 18446744073709551616)) ((yNot (yEq (i_1.6 (yNadd (0 : Nat) (yNat (verC cs ct cf slot)))) (bumpC (wordC false false count 3))) = true → true = false) ∧ (yNot (yEq (i_1.6 (yNadd (0 : Nat) (yNat (verC cs ct cf slot)))) (bumpC (wordC false false count 3))) = false → true = true ∧ (∃ (i0 : Nat), prFd (sizeN cs ct cf) i0 ∧ true = true ∧ yInt i0 = (0 : Int) ∧ true = true) ∧ ∀ (g : Nat → AV) (i_2 : Nat), prFd (sizeN cs ct cf) i_2 → (yLt (yInt i_2) (yInt (sizeN cs ct cf)) = true → mst (yIn (yInt i_2) (sizeN cs ct cf)) (mst (yNlt (yNadd 0 (yNat (yInt i_2))) (sizeN cs ct cf)) (mst (yIn (yInt i_2) (sizeN cs ct cf)) ((yNot (yEq (i_1.6 (yNadd (0 : Nat) (yNat (yInt i_2)))) (ySel (yNeq (yNat (yInt i_2)) (yNadd 0 (yNat (verC cs ct cf slot)))) (wordC false false count 3) (putW ct cf slot i nk (fun (i : Nat) => k i) nv (fun (i : Nat) => v i) l (fun (i : Nat) => newW cs ct cf i) (yNat (yInt i_2))))) = true → mst (yAnd (rightC cs ct cf cl cp) (yAnd (yLe 0 slot) (yLe slot (yAdd cs 1)))) ((yLt (yInt i_2) (nodeC ct cf slot) = true → true = false) ∧ (yLt (yInt i_2) (nodeC ct cf slot) = false → mst (yAnd (rightC cs ct cf cl cp) (yAnd (yLe 0 (yWrap IntKind.i64 (yAdd slot 1))) (yLe (yWrap IntKind.i64 (yAdd slot 1)) (yAdd cs 1)))) ((yLe (nodeC ct cf (yWrap IntKind.i64 (yAdd slot 1))) (yInt i_2) = true → true = false) ∧ (yLe (nodeC ct cf (yWrap IntKind.i64 (yAdd slot 1))) (yInt i_2) = false → true = true ∧ ∃ (i' : Nat), prFd (sizeN cs ct cf) i' ∧ Nat.succ (msFit (sizeN cs ct cf) i') ≤ msFit (sizeN cs ct cf) i_2 ∧ true = true ∧ yInt i' = yWrap IntKind.i64 (yAdd (yInt i_2) 1) ∧ true = true))))) ∧ (yNot (yEq (i_1.6 (yNadd (0 : Nat) (yNat (yInt i_2)))) (ySel (yNeq (yNat (yInt i_2)) (yNadd 0 (yNat (verC cs ct cf slot)))) (wordC false false count 3) (putW ct cf slot i nk (fun (i : Nat) => k i) nv (fun (i : Nat) => v i) l (fun (i : Nat) => newW cs ct cf i) (yNat (yInt i_2))))) = false → true = true ∧ ∃ (i' : Nat), prFd (sizeN cs ct cf) i' ∧ Nat.succ (msFit (sizeN cs ct cf) i') ≤ msFit (sizeN cs ct cf) i_2 ∧ true = true ∧ yInt i' = yWrap IntKind.i64 (yAdd (yInt i_2) 1) ∧ true = true))))) ∧ (yLt (yInt i_2) (yInt (sizeN cs ct cf)) = false → true = true))))))))))))))))))))))))) ∧ (yLt (yInt i_1.5) (yWrap IntKind.i64 (yAdd (yWrap IntKind.i64 (yMul 6 cf)) 9)) = false → mst (yCol (CK.int IntKind.u64) (qNk i_1.1) fun (i : Nat) => AV.y IntKind.u64 (qK i_1.1 i)) (mst (yCol (CK.int IntKind.u64) (qNv i_1.1) fun (i : Nat) => AV.y IntKind.u64 (qW i_1.1 i)) (mst (yCol (CK.int IntKind.i64) (qNw i_1.1) fun (i : Nat) => AV.y IntKind.i64 (qWa i_1.1 i)) (mst (yCol (CK.int IntKind.u64) (qNw i_1.1) fun (i : Nat) => AV.y IntKind.u64 (qWb i_1.1 i)) (mst (invO i_1.1 i_1.2) ((yNot (yEq (dnE i_1.1 i_1.2) 1) = true → true = false) ∧ (yNot (yEq (dnE i_1.1 i_1.2) 1) = false → mst (yIn (yInt (atC (fun (i : Nat) => k i) key nk)) nv) ((yNot (yEq (oldE i_1.1 i_1.2) (v (yNat (yInt (atC (fun (i : Nat) => k i) key nk))))) = true → true = false) ∧ (yNot (yEq (oldE i_1.1 i_1.2) (v (yNat (yInt (atC (fun (i : Nat) => k i) key nk))))) = false → mst (yNle (yNadd 0 (sizeN cs ct cf)) (sizeN cs ct cf)) (mst (yCol (CK.int IntKind.u64) (sizeN cs ct cf) fun (i : Nat) => AV.y IntKind.u64 (i_1.6 i)) (mst (yAnd (rightC cs ct cf cl cp) (yAnd (yAnd (yLe 0 slot) (yLe slot cs)) (yAnd (yNeq (sizeN cs ct cf) (sizeN cs ct cf)) (yAnd (yLe 0 (ndS ct cf slot fun (i : Nat) => i_1.6 i)) (yLt (ndS ct cf slot fun (i : Nat) => i_1.6 i) 18446744073709551616))))) (mst (yCol (CK.int IntKind.u64) (ndM (ndI ct cf slot fun (i : Nat) => i_1.6 i) (ndN ct cf slot fun (i : Nat) => i_1.6 i)) fun (i : Nat) => AV.y IntKind.u64 (ndK ct cf slot (fun (i : Nat) => i_1.6 i) i)) (mst (yCol (CK.int IntKind.u64) (ndN ct cf slot fun (i : Nat) => i_1.6 i) fun (i : Nat) => AV.y IntKind.u64 (ndVl ct cf slot (fun (i : Nat) => i_1.6 i) i)) (mst (yCol (CK.int IntKind.u64) (drN (isC (fun (i : Nat) => k i) key nk) nk) fun (i : Nat) => AV.y IntKind.u64 (drK (isC (fun (i : Nat) => k i) key nk) (atC (fun (i : Nat) => k i) key nk) (fun (i : Nat) => k i) i)) (mst (yCol (CK.int IntKind.u64) (drN (isC (fun (i : Nat) => k i) key nk) nk) fun (i : Nat) => AV.y IntKind.u64 (drK (isC (fun (i : Nat) => k i) key nk) (atC (fun (i : Nat) => k i) key nk) (fun (i : Nat) => v i) i)) (mst (yAnd (yNle (ndM (ndI ct cf slot fun (i : Nat) => i_1.6 i) (ndN ct cf slot fun (i : Nat) => i_1.6 i)) 1000000) (yNle (ndN ct cf slot fun (i : Nat) => i_1.6 i) 1000000)) ((yNot (yAnd (yIff (ndI ct cf slot fun (i : Nat) => i_1.6 i) false) (yAnd (eqW (ndM (ndI ct cf slot fun (i : Nat) => i_1.6 i) (ndN ct cf slot fun (i : Nat) => i_1.6 i)) (fun (i : Nat) => ndK ct cf slot (fun (i : Nat) => i_1.6 i) i) (drN (isC (fun (i : Nat) => k i) key nk) nk) fun (i : Nat) => drK (isC (fun (i : Nat) => k i) key nk) (atC (fun (i : Nat) => k i) key nk) (fun (i : Nat) => k i) i) (yAnd (eqW (ndN ct cf slot fun (i : Nat) => i_1.6 i) (fun (i : Nat) => ndVl ct cf slot (fun (i : Nat) => i_1.6 i) i) (drN (isC (fun (i : Nat) => k i) key nk) nk) fun (i : Nat) => drK (isC (fun (i : Nat) => k i) key nk) (atC (fun (i : Nat) => k i) key nk) (fun (i : Nat) => v i) i) (yEq (ndL ct cf slot fun (i : Nat) => i_1.6 i) l)))) = true → true = false) ∧ (yNot (yAnd (yIff (ndI ct cf slot fun (i : Nat) => i_1.6 i) false) (yAnd (eqW (ndM (ndI ct cf slot fun (i : Nat) => i_1.6 i) (ndN ct cf slot fun (i : Nat) => i_1.6 i)) (fun (i : Nat) => ndK ct cf slot (fun (i : Nat) => i_1.6 i) i) (drN (isC (fun (i : Nat) => k i) key nk) nk) fun (i : Nat) => drK (isC (fun (i : Nat) => k i) key nk) (atC (fun (i : Nat) => k i) key nk) (fun (i : Nat) => k i) i) (yAnd (eqW (ndN ct cf slot fun (i : Nat) => i_1.6 i) (fun (i : Nat) => ndVl ct cf slot (fun (i : Nat) => i_1.6 i) i) (drN (isC (fun (i : Nat) => k i) key nk) nk) fun (i : Nat) => drK (isC (fun (i : Nat) => k i) key nk) (atC (fun (i : Nat) => k i) key nk) (fun (i : Nat) => v i) i) (yEq (ndL ct cf slot fun (i : Nat) => i_1.6 i) l)))) = false → mst (yAnd (rightC cs ct cf cl cp) (yAnd (yLe 0 slot) (yLe slot cs))) (mst (yIn (verC cs ct cf slot) (sizeN cs ct cf)) (mst (yNlt (yNadd 0 (yNat (verC cs ct cf slot))) (sizeN cs ct cf)) (mst (yAnd (yLe 0 (wordC false false count 3)) (yLt (wordC false false count 3) 18446744073709551616)) ((yNot (yEq (i_1.6 (yNadd (0 : Nat) (yNat (verC cs ct cf slot)))) (bumpC (wordC false false count 3))) = true → true = false) ∧ (yNot (yEq (i_1.6 (yNadd (0 : Nat) (yNat (verC cs ct cf slot)))) (bumpC (wordC false false count 3))) = false → true = true ∧ (∃ (i0 : Nat), prFd (sizeN cs ct cf) i0 ∧ true = true ∧ yInt i0 = (0 : Int) ∧ true = true) ∧ ∀ (g : Nat → AV) (i_2 : Nat), prFd (sizeN cs ct cf) i_2 → (yLt (yInt i_2) (yInt (sizeN cs ct cf)) = true → mst (yIn (yInt i_2) (sizeN cs ct cf)) (mst (yNlt (yNadd 0 (yNat (yInt i_2))) (sizeN cs ct cf)) (mst (yIn (yInt i_2) (sizeN cs ct cf)) ((yNot (yEq (i_1.6 (yNadd (0 : Nat) (yNat (yInt i_2)))) (ySel (yNeq (yNat (yInt i_2)) (yNadd 0 (yNat (verC cs ct cf slot)))) (wordC false false count 3) (putW ct cf slot i nk (fun (i : Nat) => k i) nv (fun (i : Nat) => v i) l (fun (i : Nat) => newW cs ct cf i) (yNat (yInt i_2))))) = true → mst (yAnd (rightC cs ct cf cl cp) (yAnd (yLe 0 slot) (yLe slot (yAdd cs 1)))) ((yLt (yInt i_2) (nodeC ct cf slot) = true → true = false) ∧ (yLt (yInt i_2) (nodeC ct cf slot) = false → mst (yAnd (rightC cs ct cf cl cp) (yAnd (yLe 0 (yWrap IntKind.i64 (yAdd slot 1))) (yLe (yWrap IntKind.i64 (yAdd slot 1)) (yAdd cs 1)))) ((yLe (nodeC ct cf (yWrap IntKind.i64 (yAdd slot 1))) (yInt i_2) = true → true = false) ∧ (yLe (nodeC ct cf (yWrap IntKind.i64 (yAdd slot 1))) (yInt i_2) = false → true = true ∧ ∃ (i' : Nat), prFd (sizeN cs ct cf) i' ∧ Nat.succ (msFit (sizeN cs ct cf) i') ≤ msFit (sizeN cs ct cf) i_2 ∧ true = true ∧ yInt i' = yWrap IntKind.i64 (yAdd (yInt i_2) 1) ∧ true = true))))) ∧ (yNot (yEq (i_1.6 (yNadd (0 : Nat) (yNat (yInt i_2)))) (ySel (yNeq (yNat (yInt i_2)) (yNadd 0 (yNat (verC cs ct cf slot)))) (wordC false false count 3) (putW ct cf slot i nk (fun (i : Nat) => k i) nv (fun (i : Nat) => v i) l (fun (i : Nat) => newW cs ct cf i) (yNat (yInt i_2))))) = false → true = true ∧ ∃ (i' : Nat), prFd (sizeN cs ct cf) i' ∧ Nat.succ (msFit (sizeN cs ct cf) i') ≤ msFit (sizeN cs ct cf) i_2 ∧ true = true ∧ yInt i' = yWrap IntKind.i64 (yAdd (yInt i_2) 1) ∧ true = true))))) ∧ (yLt (yInt i_2) (yInt (sizeN cs ct cf)) = false → true = true)))))))))))))))))))))))))))))))))))))))))))))))))))))))))))))))
theorem goalEm3T_eq : goalEm3T = goalEm3TV := by kernel_rfl
set_option maxHeartbeats 8000000 in
theorem goalEm3T_vc : goalEm3TV := by
 unfold goalEm3TV
 intro cs ct cf cl cp slot i kn nk k vn nv v l ix0 key val count x0 T hr hc his hx0 hT
 subst hx0 hT
 by_cases q1 : 5000 < sizeC cs ct cf
 · refine mstI hr (mstI hr (fork_t (yLt_t.mpr q1) rfl))
 have q1' : yLt 5000 (sizeC cs ct cf) = false := yLt_f.mpr (by omega)
 by_cases q2 : slot < 1
 · exact mstI hr (mstI hr (fork_f q1' (fork_t (yLt_t.mpr q2) rfl)))
 have q2' : yLt slot 1 = false := yLt_f.mpr (by omega)
 by_cases q3 : cs < slot
 · exact mstI hr (mstI hr (fork_f q1' (fork_f q2' (fork_t (yLt_t.mpr q3) rfl))))
 have q3' : yLt cs slot = false := yLt_f.mpr (by omega)
 cases i with
 | true => exact mstI hr (mstI hr (fork_f q1' (fork_f q2' (fork_f q3' (fork_t rfl rfl)))))
 | false =>
 have h := rightC_iff.1 hr
 have q4 : yAnd (yNot false) (yLe cf 64) = true := by simp only [vS, forall_const]; omega
 cases hf : fitsC false nk k nv cf with
 | false => exact mstI hr (mstI hr (fork_f q1' (fork_f q2' (fork_f q3' (fork_f rfl (mstI yCol1 (mstI yCol1 (mstI q4 (fork_t rfl rfl)))))))))
 | true =>
 obtain ⟨f1, f2, f3⟩ := fits_t.1 hf
 have f2 : nv = nk := by simpa using f2
 subst f2
 obtain ⟨eB, room, h3, hbig, eF, eS, g4, g64⟩ := slot_room hr (slot := slot) (by omega) (by omega)
 have eV := verN (cs := cs) eB ⟨by omega, by omega⟩
 have iV : 0 ≤ verC cs ct cf slot ∧ verC cs ct cf slot < (sizeN cs ct cf : Int) := by rw [eV]; omega
 have iV' : yNlt (yNadd 0 (yNat (verC cs ct cf slot))) (sizeN cs ct cf) = true := by rw [eV, yNatN]; simp only [vS, forall_const]; omega
 have pre : yAnd (rightC cs ct cf cl cp) (yAnd (yAnd (yLe 0 slot) (yLe slot cs)) (yAnd (yNeq (sizeN cs ct cf) (sizeN cs ct cf)) (yAnd (yLe (yInt nv) cf) (yLe (yInt nv) cf)))) = true := by
   simp only [vS, forall_const, hr]; omega
 have pv : yAnd (rightC cs ct cf cl cp) (yAnd (yLe 0 slot) (yLe slot cs)) = true := by simp only [vS, forall_const, hr]; omega
 have pc : yAnd (yAnd (yLe 0 count) (yLt count 18446744073709551616)) (yAnd (yLe 0 3) (yLt 3 18446744073709551616)) = true := by
   have hc := hc; simp only [yAnd_t, yLe_t, yLt_t] at hc
   simp only [vS, forall_const]; omega
 refine mstI hr (mstI hr (fork_f q1' (fork_f q2' (fork_f q3' (fork_f rfl (mstI yCol1 (mstI yCol1 (mstI q4 (fork_f rfl (mstI hr (mstI rfl (mstI (yNeq_t.mpr rfl) (mstI yCol1 (mstI yCol1 (mstI yCol1 (mstI pre (mstI pc (mstI pv (mstI (yIn_t.mpr iV) (mstI iV' (mstI yCol1 (mstI yCol1 ?_))))))))))))))))))))))
 have hc' : 0 ≤ count ∧ count < 18446744073709551616 := by have hc := hc; simp only [vS, forall_const] at hc; exact hc
 obtain ⟨e1, e2, e3⟩ := hSlot (slot := slot) (cs := cs) (by omega) (by omega) (by omega)
 have wu := wordU hc'
 have hle := atC_le (k := k) (x := key) nv
 have hris : risesB k nv = true := risesB_iff.2 f3
 have p1 : yAnd (yNle nv 1000000) (yIff (isC k key nv) true) = true := by simp only [vS, forall_const]; exact ⟨by omega, his⟩
 have p2 : yAnd (yAnd (yNle nv 64) (yNeq nv nv)) (risesB k nv) = true := by simp only [vS, forall_const, hris]; omega
 have p3 : yNle (yNadd 0 (sizeN cs ct cf)) (sizeN cs ct cf) = true := by simp only [vS, forall_const]
 have p4 : yNle (sizeN cs ct cf) 1000000 = true := by simp only [vS, forall_const]; omega
 have p5 : yAnd (yLe 0 3) (yLt 3 18446744073709551616) = true := by decide
 have ok : okNw (makeC 3 slot) (yInt nv) 3 false cs cf = true := okNw_t.2 ⟨e3, by decide, by decide, rfl, Int.natCast_nonneg _, f1⟩
 have p6 : yAnd (yAnd (yLe 0 (makeC 3 slot)) (yLt (makeC 3 slot) 18446744073709551616)) (okNw (makeC 3 slot) (yInt nv) 3 false cs cf) = true := by
   have e2 := e2
   simp only [inU, vS, forall_const] at e2
   rw [ok]; simp only [vS, forall_const]; omega
 have n1 := p3
 have pw : yAnd (yLe 0 (wordC false false count 3)) (yLt (wordC false false count 3) 18446744073709551616) = true := by simp only [vS, forall_const]; omega
 have iv := fun m i hi => em_inv (slot := slot) (count := count) (N := nv) (k := k) (v := v) (l := l) (kd := 3) (key := key) (val := val) hr (by omega) (by omega) f1 (by decide) hc' m i hi
 have iv0 := (iv 0 0 (by omega)).2.2.2.1
 refine mstI p1 ?_
 repeat (refine mstI (by first | exact yCol1 | exact yColI | exact hr | exact p2 | exact p3 | exact p4 | exact p5 | exact p6 | exact iv0) ?_)
 refine ⟨rfl, ⟨x0Em cs ct cf slot nv k nv v l 3 key val count, ⟨Nat.zero_le _, rfl⟩, ?_⟩, fun _ x hx => ⟨fun hA => ⟨fun hB => ?_, fun hB => ?_⟩, fun hA => ?_⟩⟩
 · repeat' (first | apply And.intro | intro _)
   all_goals first
     | rfl
     | trivial
     | (show w0Em cs ct cf slot nv k nv v l count _ = _
        unfold w0Em
        rw [show yNadd 0 (yNat (verC cs ct cf slot)) = yNat (verC cs ct cf slot) from Nat.zero_add _]; exact updSel)
 · obtain ⟨x1, x2⟩ := hx
   have ivx := iv x.i x.i (by omega)
   rw [← x2] at ivx
   have ivs := iv (x.i + 1) (x.i + 1) (by omega)
   simp only [runM] at ivs
   rw [← x2] at ivs
   have i1 : invE cs ct cf cl cp x.e = true := ivx.2.1
   have i2 := ivs.2.2.2.1
   have lt : x.i < tEm cs ct cf slot nv k v 3 key val count := by
     rcases Nat.lt_or_ge x.i (tEm cs ct cf slot nv k v 3 key val count) with c | c
     · exact c
     · exfalso
       have hx' : prEm cs ct cf (sizeN cs ct cf) (x0Em cs ct cf slot nv k nv v l 3 key val count) (tEm cs ct cf slot nv k v 3 key val count) x := ⟨x1, x2⟩
       have := em_big hr (by omega) (by omega) f1 f3 hc' (.inr (.inr ⟨rfl, his⟩)) hx' c
       rw [this] at hB; revert hB; decide
   have bnd : x.i < 100000 := by
     have := tEm_le (slot := slot) (val := val) (count := count) (v := v) (cs := cs) (ct := ct) (kd := 3) (key := key) (k := k) (N := nv) f1 g64
     omega
   repeat (refine mstI (by first | exact yCol1 | exact yColI | exact i1 | exact i2 | exact p3 | exact p4 | rfl | exact yNeq_t.mpr rfl) ?_)
   refine ⟨rfl, stpM cs ct cf (sizeN cs ct cf) x, ⟨lt, ?_⟩, ?_, ?_⟩
   · show stpM _ _ _ _ x = stpM _ _ _ _ (runM _ _ _ _ _ x.i)
     rw [← x2]
   · show Nat.succ (tEm cs ct cf slot nv k v 3 key val count - (x.i + 1)) ≤ tEm cs ct cf slot nv k v 3 key val count - x.i
     omega
   · repeat' (first | apply And.intro | intro _)
     all_goals first
       | rfl
       | trivial
       | (show ((x.i + 1 : Nat) : Int) = yWrap .i64 ((x.i : Int) + 1); rw [wrap64 (by omega) (by omega)]; omega)
 · have F := em_fin hr (by omega) (by omega) f1 f3 hc' (.inr (.inr ⟨rfl, his⟩)) hx (.inl (by simpa only [yEq_f] using hB)) (M := drN (isC k key nv) nv) (K' := drK (isC k key nv) (atC k key nv) k) (V' := drK (isC k key nv) (atC k key nv) v) (by rw [his]; rfl) (fun j hj => by rw [his]; rfl) (fun j hj => by rw [his]; rfl)
   repeat (refine mstI (by first | exact yCol1 | exact yColI | exact F.inv) ?_)
   refine fork_f (by rw [F.dn]; rfl) ?_
   refine mstI (by show yIn (yInt (atC k key nv)) nv = true; simp only [vS, forall_const]; have := isC_at f3 his; omega) ?_
   refine fork_f (by
     have e : yEq (oldE x.e x.po) (v (yNat (yInt (atC k key nv)))) = true := by rw [yNat_yInt, yEq_t, F.old, if_neg (by decide)]
     exact congrArg yNot e) ?_
   repeat (refine mstI (by first | exact yCol1 | exact yColI | exact n1 | exact F.pre | exact F.sz) ?_)
   refine fork_f (congrArg yNot F.nd) ?_
   refine mstI pv (mstI (yIn_t.mpr iV) (mstI iV' (mstI pw ?_)))
   refine fork_f (by
     have e : yEq (x.w (yNadd 0 (yNat (verC cs ct cf slot)))) (bumpC (wordC false false count 3)) = true := by simp only [vS, forall_const]; exact F.ver
     exact congrArg yNot e) ?_
   refine ⟨rfl, ⟨0, Nat.zero_le _, rfl, rfl, rfl⟩, fun _ j hj => ⟨fun hC => ?_, fun _ => rfl⟩⟩
   have hj : j ≤ sizeN cs ct cf := hj
   have hlt : j < sizeN cs ct cf := by simp only [vS, forall_const] at hC; omega
   have nx : ∃ i' : Nat, prFd (sizeN cs ct cf) i' ∧ Nat.succ (msFit (sizeN cs ct cf) i') ≤ msFit (sizeN cs ct cf) j ∧ true = true ∧ yInt i' = yWrap IntKind.i64 (yAdd (yInt j) 1) ∧ true = true := by
     refine ⟨j + 1, hlt, by unfold msFit; omega, rfl, ?_, rfl⟩
     show ((j + 1 : Nat) : Int) = yWrap .i64 ((j : Int) + 1)
     rw [wrap64 (by omega) (by omega)]; omega
   have j1 : yIn (yInt j) (sizeN cs ct cf) = true := by simp only [vS, forall_const]; omega
   have j2 : yNlt (yNadd 0 (yNat (yInt j))) (sizeN cs ct cf) = true := by rw [yNat_yInt]; simp only [vS, forall_const]; omega
   refine mstI j1 (mstI j2 (mstI j1 ⟨fun hD => ?_, fun _ => ⟨rfl, nx⟩⟩))
   have hne : x.w j ≠ w0Em cs ct cf slot nv k nv v l count j := fun e => by
     have hD' : yNot (yEq (x.w (yNadd 0 (yNat (yInt j)))) (ySel (yNeq (yNat (yInt j)) (yNadd 0 (yNat (verC cs ct cf slot)))) (wordC false false count 3) (putW ct cf slot false nv (fun (i : Nat) => k i) nv (fun (i : Nat) => v i) l (fun (i : Nat) => newW cs ct cf i) (yNat (yInt j))))) = true := hD
     rw [yNat_yInt] at hD'
     simp only [vS, forall_const] at hD'
     apply hD'
     rw [e]; exact updSel
   obtain ⟨k1, k2⟩ := F.out j hlt hne
   have pn : yAnd (rightC cs ct cf cl cp) (yAnd (yLe 0 slot) (yLe slot (yAdd cs 1))) = true := by simp only [vS, forall_const, hr]; omega
   have ws : yWrap .i64 (yAdd slot 1) = slot + 1 := wrap64 (n := slot + 1) (by omega) (by omega)
   have pn2 : yAnd (rightC cs ct cf cl cp) (yAnd (yLe 0 (yWrap .i64 (yAdd slot 1))) (yLe (yWrap .i64 (yAdd slot 1)) (yAdd cs 1))) = true := by rw [ws]; simp only [vS, forall_const, hr]; omega
   exact mstI pn (fork_f (yLt_f.mpr k1) (mstI pn2 (fork_f (by rw [ws, yLe_f]; exact k2) ⟨rfl, nx⟩)))
 · have F := em_fin hr (by omega) (by omega) f1 f3 hc' (.inr (.inr ⟨rfl, his⟩)) hx (.inr (by
     have hA := hA
     have w1 : yWrap .i64 (yMul 6 cf) = 6 * cf := wrap64 (n := 6 * cf) (by omega) (by omega)
     have w2 : yWrap .i64 (yAdd (6 * cf) 9) = 6 * cf + 9 := wrap64 (n := 6 * cf + 9) (by omega) (by omega)
     rw [w1, w2, yLt_f] at hA
     exact hA)) (M := drN (isC k key nv) nv) (K' := drK (isC k key nv) (atC k key nv) k) (V' := drK (isC k key nv) (atC k key nv) v) (by rw [his]; rfl) (fun j hj => by rw [his]; rfl) (fun j hj => by rw [his]; rfl)
   repeat (refine mstI (by first | exact yCol1 | exact yColI | exact F.inv) ?_)
   refine fork_f (by rw [F.dn]; rfl) ?_
   refine mstI (by show yIn (yInt (atC k key nv)) nv = true; simp only [vS, forall_const]; have := isC_at f3 his; omega) ?_
   refine fork_f (by
     have e : yEq (oldE x.e x.po) (v (yNat (yInt (atC k key nv)))) = true := by rw [yNat_yInt, yEq_t, F.old, if_neg (by decide)]
     exact congrArg yNot e) ?_
   repeat (refine mstI (by first | exact yCol1 | exact yColI | exact n1 | exact F.pre | exact F.sz) ?_)
   refine fork_f (congrArg yNot F.nd) ?_
   refine mstI pv (mstI (yIn_t.mpr iV) (mstI iV' (mstI pw ?_)))
   refine fork_f (by
     have e : yEq (x.w (yNadd 0 (yNat (verC cs ct cf slot)))) (bumpC (wordC false false count 3)) = true := by simp only [vS, forall_const]; exact F.ver
     exact congrArg yNot e) ?_
   refine ⟨rfl, ⟨0, Nat.zero_le _, rfl, rfl, rfl⟩, fun _ j hj => ⟨fun hC => ?_, fun _ => rfl⟩⟩
   have hj : j ≤ sizeN cs ct cf := hj
   have hlt : j < sizeN cs ct cf := by simp only [vS, forall_const] at hC; omega
   have nx : ∃ i' : Nat, prFd (sizeN cs ct cf) i' ∧ Nat.succ (msFit (sizeN cs ct cf) i') ≤ msFit (sizeN cs ct cf) j ∧ true = true ∧ yInt i' = yWrap IntKind.i64 (yAdd (yInt j) 1) ∧ true = true := by
     refine ⟨j + 1, hlt, by unfold msFit; omega, rfl, ?_, rfl⟩
     show ((j + 1 : Nat) : Int) = yWrap .i64 ((j : Int) + 1)
     rw [wrap64 (by omega) (by omega)]; omega
   have j1 : yIn (yInt j) (sizeN cs ct cf) = true := by simp only [vS, forall_const]; omega
   have j2 : yNlt (yNadd 0 (yNat (yInt j))) (sizeN cs ct cf) = true := by rw [yNat_yInt]; simp only [vS, forall_const]; omega
   refine mstI j1 (mstI j2 (mstI j1 ⟨fun hD => ?_, fun _ => ⟨rfl, nx⟩⟩))
   have hne : x.w j ≠ w0Em cs ct cf slot nv k nv v l count j := fun e => by
     have hD' : yNot (yEq (x.w (yNadd 0 (yNat (yInt j)))) (ySel (yNeq (yNat (yInt j)) (yNadd 0 (yNat (verC cs ct cf slot)))) (wordC false false count 3) (putW ct cf slot false nv (fun (i : Nat) => k i) nv (fun (i : Nat) => v i) l (fun (i : Nat) => newW cs ct cf i) (yNat (yInt j))))) = true := hD
     rw [yNat_yInt] at hD'
     simp only [vS, forall_const] at hD'
     apply hD'
     rw [e]; exact updSel
   obtain ⟨k1, k2⟩ := F.out j hlt hne
   have pn : yAnd (rightC cs ct cf cl cp) (yAnd (yLe 0 slot) (yLe slot (yAdd cs 1))) = true := by simp only [vS, forall_const, hr]; omega
   have ws : yWrap .i64 (yAdd slot 1) = slot + 1 := wrap64 (n := slot + 1) (by omega) (by omega)
   have pn2 : yAnd (rightC cs ct cf cl cp) (yAnd (yLe 0 (yWrap .i64 (yAdd slot 1))) (yLe (yWrap .i64 (yAdd slot 1)) (yAdd cs 1))) = true := by rw [ws]; simp only [vS, forall_const, hr]; omega
   exact mstI pn (fork_f (yLt_f.mpr k1) (mstI pn2 (fork_f (by rw [ws, yLe_f]; exact k2) ⟨rfl, nx⟩)))
theorem goalEm3T_tt : (goalEm3T) = True := goalEm3T_eq.trans (eq_true goalEm3T_vc)
theorem goalEm3T_ok : goalEm3T := @ft' goalEm3T goalEm3T_tt
end Go.Proofs.YtinijejfhmcmdaaGreatDoor.Ex
end
section
namespace Go.Proofs.YtinijejfhmcmdaaGreatDoor.Ex
open Go Go.RowKit
def avDl : Dc → AV
 | .v a => a
 | .rows nil n cols => .lst false nil 1 n (colF cols)
theorem gwl_u64 {w : World} (gw : GW w) (gl : ∀ g c, GL g = some c → ∀ (j : Nat) (a : AV), c[j]? = some a → ∀ (n : Int), ¬ a.R noM (.int .u64 n)) {b j : Nat} {cs : Array Value} {e : TypeId} {fr : Nat × Nat} {n : Int} (hb : w.heap[b]? = some (.cells cs e fr)) (hj : cs[j]? = some (.int .u64 n)) : GL b = none := by
 cases hg : GL b with
 | none => rfl
 | some c =>
   obtain ⟨vs, e2, fr2, h1, h2⟩ := gw b c hg
   rw [hb, Option.some.injEq] at h1
   obtain ⟨rfl, -, -⟩ : cs = vs.toArray ∧ _ ∧ _ := by simpa [Obj.cells.injEq] using h1
   exfalso
   have aux : ∀ (c : List AV) (vs : List Value) (j : Nat) (v : Value), AV.RL noM c vs → vs[j]? = some v → ∃ a, c[j]? = some a ∧ a.R noM v := by
     intro c
     induction c with
     | nil => intro vs j v r hv; simp only [AV.RL] at r; subst r; simp at hv
     | cons a c ih =>
       intro vs j v r hv
       simp only [AV.RL] at r
       obtain ⟨u, us, r1, r2, rfl⟩ := r
       cases j with
       | zero => simp only [List.getElem?_cons_zero, Option.some.injEq] at hv; subst hv; exact ⟨a, rfl, r1⟩
       | succ j => simp only [List.getElem?_cons_succ] at hv ⊢; exact ih us j v r2 hv
   obtain ⟨a, q1, q2⟩ := aux c vs j _ h2 (by simpa using hj)
   exact gl b c hg j a q1 n q2
theorem DcR_lstl {w : World} (gw : GW w) (gl : ∀ g c, GL g = some c → ∀ (j : Nat) (a : AV), c[j]? = some a → ∀ (n : Int), ¬ a.R noM (.int .u64 n)) {nil : Bool} {n : Nat} {k : Nat → Int} {u : Value} (h : DcR w cU (.rows nil n [.int .u64 k]) u) :
   (AV.lst false nil 1 n (colF [.int .u64 k])).R (Mw w) u := by
 rcases h with ⟨rfl, rfl, rfl⟩ | ⟨rfl, p, c, rfl, hnc, h⟩
 · simp only [AV.R]; exact .inl ⟨trivial, trivial, trivial⟩
 · simp only [AV.R]
   by_cases h0 : n = 0
   · exact .inr (.inl ⟨trivial, h0, p, c, by rw [h0], fun e => by cases e⟩)
   · obtain ⟨b, off, rfl, cs, e, fr, hb, hel⟩ := h.resolve_left h0
     obtain ⟨v, hv, -, hvr⟩ := hel 0 (by omega) 0 (by simp)
     have hv2 : v = .int .u64 (k 0) := hvr
     subst hv2
     have hg := gwl_u64 gw gl hb hv
     refine .inr (.inr ⟨trivial, Nat.pos_of_ne_zero h0, b, off, c, cs, rfl, hnc, (fun e => by cases e), by simp only [Mw, hg, cellsW, hb], fun i hi j hj => ?_⟩)
     obtain ⟨v, q1, q2, q3⟩ := hel i hi j (by simpa using hj)
     exact ⟨v, by simpa using q1, q2, AV.R.mono (Le_noM _) _ _ q3⟩
def rowsUl : Dc → Prop
 | .v _ => True
 | .rows _ _ cols => ∃ k, cols = [.int .u64 k]
theorem dcs_lstl {w : World} (gw : GW w) (gl : ∀ g c, GL g = some c → ∀ (j : Nat) (a : AV), c[j]? = some a → ∀ (n : Int), ¬ a.R noM (.int .u64 n)) : ∀ {cs : List Cs} {ds : List Dc} {us : List Value}, DcRs w cs ds us → (∀ c ∈ cs, c = none ∨ c = cU) → (∀ d ∈ ds, rowsUl d) →
   AV.RL (Mw w) (ds.map avDl) us
 | [], _, _, h, _, _ => by obtain ⟨rfl, rfl⟩ := h; exact rfl
 | c :: cs, _, _, h, hc, hd => by
   obtain ⟨d, ds, u, us, rfl, rfl, h1, h2⟩ := h
   have r1 := dcs_lstl gw gl h2 (fun c h => hc c (List.mem_cons_of_mem _ h)) (fun d h => hd d (List.mem_cons_of_mem _ h))
   have hd0 := hd d (List.mem_cons_self ..)
   rcases hc c (List.mem_cons_self ..) with rfl | rfl
   · cases d with
     | v a => exact ⟨u, us, AV.R.mono (Le_noM _) _ _ h1, r1, rfl⟩
     | rows => exact h1.elim
   · cases d with
     | v a => exact h1.elim
     | rows nil n cols =>
       obtain ⟨k, rfl⟩ := hd0
       exact ⟨u, us, DcR_lstl gw gl h1, r1, rfl⟩
theorem dc_cell {w : World} {a : AV} {u : Value} (h : DcR w none (.v a) u) : a.R (Mw w) u := AV.R.mono (Le_noM _) _ _ h
theorem gll_u8 {g : Nat} {c : List AV} (hg : GL g = some c) {j : Nat} {a : AV} (ha : c[j]? = some a) : ∃ z, True ∧ a = .i .u8 z := by
 have h0 : g = 0 := by
   unfold GL at hg
   cases hb : Nat.beq g 0 with
   | true => exact Nat.eq_of_beq_eq_true hb
   | false => rw [hb] at hg; cases hg
 subst h0
 rw [Go.Proofs.YtinijejfhmcmdaaGreatDoor.LaidD.gl0, Option.some.injEq] at hg
 subst hg
 obtain ⟨z, _, rfl⟩ := List.mem_map.1 (List.mem_of_getElem? ha)
 exact ⟨z, trivial, rfl⟩
theorem gl_not {g : Nat} {c : List AV} (h : GL g = some c) (j : Nat) (a : AV) (ha : c[j]? = some a) (n : Int) : ¬ a.R noM (.int .u64 n) := fun hr => by
 obtain ⟨z, _, rfl⟩ : ∃ z, True ∧ a = .i .u8 z := gll_u8 h ha
 simp only [AV.R] at hr
 cases hr
section
open Go.ChangeShapes
variable {H : Type} {enc : TypeId × Value → H} {P : Program} {w : World} {base : Nat} {spare : Nat → Bool} {held : Bool}
theorem trodAll_five {t t' t2 t3 t4 : TypeId} {args : Array Value} {ds : List (DataW H)} {ps : List MemPlace} (h : DataW.TrodAll enc P w base spare held [t, t', t2, t3, t4] args.toList ds ps) :
   ∃ v v' v2 v3 v4 d d' d2 d3 d4 p p' p2 p3 p4, args = #[v, v', v2, v3, v4] ∧ ds = [d, d', d2, d3, d4] ∧ ps = p ++ p' ++ p2 ++ p3 ++ p4 ∧ DataW.Trod enc P w base spare held t v d p ∧ DataW.Trod enc P w base spare held t' v' d' p' ∧ DataW.Trod enc P w base spare held t2 v2 d2 p2 ∧ DataW.Trod enc P w base spare held t3 v3 d3 p3 ∧ DataW.Trod enc P w base spare held t4 v4 d4 p4 := by
 obtain ⟨v, vs, d, ds', p, q, hargs, rfl, rfl, hd, hrest⟩ := trodAll_cons h
 obtain ⟨v', vs', d', dsa, p', q', rfl, rfl, rfl, hd', hrest'⟩ := trodAll_cons hrest
 obtain ⟨v2, vs2, d2, dsb, p2, q2, rfl, rfl, rfl, hd2, hrest2⟩ := trodAll_cons hrest'
 obtain ⟨v3, vs3, d3, ds3, p3, q3, rfl, rfl, rfl, hd3, hrest3⟩ := trodAll_cons hrest2
 obtain ⟨v4, vs4, d4, ds4, p4, q4, rfl, rfl, rfl, hd4, hrest4⟩ := trodAll_cons hrest3
 obtain ⟨rfl, rfl, rfl⟩ := trodAll_nil hrest4
 exact ⟨v, v', v2, v3, v4, d, d', d2, d3, d4, p, p', p2, p3, p4, by cases args; simp_all, rfl, by simp, hd, hd', hd2, hd3, hd4⟩
end
end Go.Proofs.YtinijejfhmcmdaaGreatDoor.Ex
end
