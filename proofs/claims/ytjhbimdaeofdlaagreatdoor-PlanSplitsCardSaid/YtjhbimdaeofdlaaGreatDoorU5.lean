/- The texts CIn, Td, Tm, Tn, RegS, To, Tp, Tq, Tr, PkEb, CP3, Qa, Qb: Contracts: a list with one more in it; whether an inner node may be. inner.tried: what it does is called; where that gives up, the answer is no. inner.tried within the machine, where what it does is .. -/
import Derived.Test.YtjhbimdaeofdlaaGreatDoorProg
import Derived.WalkKit
import Derived.BigCall
import Derived.Defers
import Derived.Recover
import Derived.Below
import Derived.Laws.Pointers
import Derived.WalkLawsBesides
import Derived.Lib.Hide
import Derived.Deep.RegionHeld3
import Derived.Deep.RegionWith
import Derived.Deep.RegionLaw
import Derived.OrdersHeld
import Derived.Test.YtjhbimdaeofdlaaGreatDoorU4
set_option linter.all false
set_option maxRecDepth 100000
section
namespace Go.Proofs.YtjhbimdaeofdlaaGreatDoor.Ex
open Go
def insI (k : Nat → Int) (a : Nat) (x : Int) (j : Nat) : Int := if j < a then k j else if j = a then x else k (j - 1)
def lGr : List (Nat × Sm) := [(264, .ct grwA)]
abbrev gWi : List Ag := [.cell cU, .cell none, .cell cU]
def goalWith : Prop := ∀ (nil : Bool) (n : Nat) (k : Nat → Int) (a : Nat) (nil2 : Bool) (x : Nat → Int), yNle n 80 = true → yNle a n = true →
 wxF Tryz.prog (smL lGr) (fun _ => none) 1000 181 (canA gWi [.cell (.rows nil n [.int .u64 k]), .cell (.v (.y .i64 (yInt a))), .cell (.rows false 1 [.int .u64 x])] []).1
   (heapOf (canA gWi [.cell (.rows nil n [.int .u64 k]), .cell (.v (.y .i64 (yInt a))), .cell (.rows false 1 [.int .u64 x])] []).2) (rowsK [.int .u64] false (yNadd n 1) [.int .u64 (insI k a (x 0))])
def goalWith_1 (a : Nat) := yWrap IntKind.i64 (yAdd 0 (yInt (yNsub (yNat (yInt a)) 0)))
def goalWith_0 (a : Nat) (n : Nat) := yWrap IntKind.i64 (yAdd (yWrap IntKind.i64 (yAdd (goalWith_1 a) (yInt 1))) (yInt (yNsub n (yNat (yInt a)))))
def goalWith_2 (a : Nat) (n : Nat) := yNadd (yNadd 0 (yNat (yInt a))) (yNsub n (yNat (yInt a)))
def goalWith_3 (a : Nat) (n : Nat) := yNadd (yNadd (yNsub (yNat (yInt a)) 0) 1) (yNsub n (yNat (yInt a)))
def goalWithV : Prop := (∀ (nil : Bool) (n : Nat) (k : Nat → Int) (a : Nat) (nil2 : Bool) (x : Nat → Int), yNle n (nat_lit 80) = true → yNle a n = true → mst (yIn (yInt a) (Nat.succ n)) (mst (yIn (yInt a) (Nat.succ n)) ((yLt (goalWith_1 a) (0 : Int) = true → False) ∧ (yLt (goalWith_1 a) (0 : Int) = false → (yLt (yWrap IntKind.i64 (yAdd (goalWith_1 a) (yInt 1))) (0 : Int) = true → False) ∧ (yLt (yWrap IntKind.i64 (yAdd (goalWith_1 a) (yInt 1))) (0 : Int) = false → (yLt (goalWith_0 a n) (0 : Int) = true → False) ∧ (yLt (goalWith_0 a n) (0 : Int) = false → mst (yLt 0 (goalWith_0 a n)) (mst (yGrow (yNat (goalWith_0 a n)) 8) (mst (yNle (yNadd (yNadd 0 0) (yNsub (yNat (yInt a)) 0)) n) ((yNeq (yNsub (yNat (yInt a)) 0) (nat_lit 0) = true → mst (yNle (yNadd 0 1) 1) ((yNeq 1 (nat_lit 0) = true → mst (yNle (goalWith_2 a n) n) ((yNeq (yNsub n (yNat (yInt a))) (nat_lit 0) = true → False) ∧ (yNeq (yNsub n (yNat (yInt a))) (nat_lit 0) = false → mst (yGrow (yNsub n (yNat (yInt a))) 8) (yNle (yNadd 0 (yNsub n (yNat (yInt a)))) (yNsub n (yNat (yInt a))) = true ∧ false = false ∧ yNsub n (yNat (yInt a)) = yNadd n 1 ∧ ∀ (i : Nat), Nat.succ i ≤ yNadd n 1 → insI k a (x 0) i = k (yNadd (yNadd 0 (yNat (yInt a))) i) ∧ True)))) ∧ (yNeq 1 (nat_lit 0) = false → mst (yGrow 1 8) (mst (yNle (goalWith_2 a n) n) (mst (yNeq 1 1) (mst (yGrow (yNadd 1 (yNsub n (yNat (yInt a)))) 8) (yNle (yNadd 0 (yNadd 1 (yNsub n (yNat (yInt a))))) (yNadd 1 (yNsub n (yNat (yInt a)))) = true ∧ yAnd false (yNeq (yNsub n (yNat (yInt a))) 0) = false ∧ yNadd 1 (yNsub n (yNat (yInt a))) = yNadd n 1 ∧ ∀ (i : Nat), Nat.succ i ≤ yNadd n 1 → insI k a (x 0) i = ySel (yNlt i 1) (x (yNadd 0 i)) (k (yNadd (yNadd 0 (yNat (yInt a))) (yNsub i 1))) ∧ True))))))) ∧ (yNeq (yNsub (yNat (yInt a)) 0) (nat_lit 0) = false → mst (yGrow (yNsub (yNat (yInt a)) 0) 8) (mst (yNle (yNadd 0 1) 1) (mst (yNeq (yNsub (yNat (yInt a)) 0) (yNsub (yNat (yInt a)) 0)) (mst (yGrow (yNadd (yNsub (yNat (yInt a)) 0) 1) 8) (mst (yNle (goalWith_2 a n) n) (mst (yNeq (yNadd (yNsub (yNat (yInt a)) 0) 1) (yNadd (yNsub (yNat (yInt a)) 0) 1)) (mst (yGrow (goalWith_3 a n) 8) (yNle (yNadd 0 (goalWith_3 a n)) (goalWith_3 a n) = true ∧ yAnd (yAnd false (yNeq 1 0)) (yNeq (yNsub n (yNat (yInt a))) 0) = false ∧ yNadd (yNadd (yNsub (yNat (yInt a)) 0) 1) (yNsub n (yNat (yInt a))) = yNadd n 1 ∧ ∀ (i : Nat), Nat.succ i ≤ yNadd n 1 → insI k a (x 0) i = ySel (yNlt i (yNadd (yNsub (yNat (yInt a)) 0) 1)) (ySel (yNlt i (yNsub (yNat (yInt a)) 0)) (k (yNadd (yNadd 0 0) i)) (x (yNadd 0 (yNsub i (yNsub (yNat (yInt a)) 0))))) (k (yNadd (yNadd 0 (yNat (yInt a))) (yNsub i (yNadd (yNsub (yNat (yInt a)) 0) 1)))) ∧ True)))))))))))))))))
theorem goalWith_eq : goalWith = goalWithV := by kernel_rfl
theorem goalWith_vc : goalWithV := by
 unfold goalWithV goalWith_3 goalWith_2 goalWith_0 goalWith_1
 intro nil n k a nil2 x hn ha
 simp only [vS, forall_const, ySel, yNlt, Bool.cond_decide] at hn ha ⊢
 repeat' (first | apply And.intro | intro _)
 all_goals (try simp (disch := omega) only [wrap64] at *)
 all_goals first
   | omega
   | (exfalso; omega)
   | (exfalso; unfold yNat at *; omega)
   | exact .inl trivial
   | (unfold insI; (repeat' split) <;> first | rfl | (congr 1; omega) | (exfalso; omega) | (trace_state; fail))
   | (trace_state; fail)
theorem goalWith_tt : (goalWith) = True := goalWith_eq.trans (eq_true goalWith_vc)
theorem goalWith_ok : goalWith := @ft' goalWith goalWith_tt
/-! Whether an inner node may be. -/
def rightN (inner : Bool) (nk : Nat) (k : Nat → Int) (nv : Nat) : Bool := decide (inner = true ∧ nk + 1 = nv ∧ risesB k nk = true)
theorem rightN_t {inner : Bool} {nk : Nat} {k : Nat → Int} {nv : Nat} : rightN inner nk k nv = true ↔ (inner = true ∧ nk + 1 = nv ∧ Rises k nk) := by
 unfold rightN; rw [decide_eq_true_iff, risesB_iff]
theorem rightN_f {inner : Bool} {nk : Nat} {k : Nat → Int} {nv : Nat} : rightN inner nk k nv = false ↔ ¬ (inner = true ∧ nk + 1 = nv ∧ Rises k nk) := by
 rw [← rightN_t]; cases rightN inner nk k nv <;> simp
def prRn (n : Nat) (kf : Nat → Int) (i : Nat) : Prop := i ≤ n ∧ Rises kf (i + 1)
def msRn (n i : Nat) : Nat := n - i
abbrev gRn : List Ag := [.agg [none, cU, cU, none]]
abbrev dRn (inner nilk : Bool) (nk : Nat) (kf : Nat → Int) (nilv : Bool) (nv : Nat) (vf : Nat → Int) (link : Int) : List Da := [.agg [.v (.yb inner), .rows nilk nk [.int .u64 kf], .rows nilv nv [.int .u64 vf], .v (.y .u64 link)]]
def fRn (ds : List Da) : Option (Bool × AV) :=
 match ds with
 | [.agg [.v (.yb inner), .rows _ nk [.int .u64 kf], .rows _ nv [.int .u64 _], .v (.y .u64 _)]] => some (yAnd (yNle nk 100) (yNle nv 100), .yb (rightN inner nk kf nv))
 | _ => none
def annRn (n : Nat) (kf : Nat → Int) (b : Nat) : Option (St → LoopA) :=
 match b with
 | 0 => some fun _ => { ι := Nat, tms := [27], tmU := fun i => [.y .i64 (yInt i)], ids := [], hpU := fun _ => [], del := [], ex := 0, pre := prRn n kf, ms := msRn n }
 | _ => none
def goalRn : Prop := ∀ (inner nilk : Bool) (nk : Nat) (kf : Nat → Int) (nilv : Bool) (nv : Nat) (vf : Nat → Int) (link : Int), yAnd (yNle nk 100) (yNle nv 100) = true →
 wxF Tryz.prog noSm (annRn nk kf) 1000 179 (canA gRn (dRn inner nilk nk kf nilv nv vf link) []).1 (heapOf (canA gRn (dRn inner nilk nk kf nilv nv vf link) []).2) (fun v _ => cmpC (.yb (rightN inner nk kf nv)) v)
theorem goalRn_eq : goalRn = (∀ (inner nilk : Bool) (nk : Nat) (kf : Nat → Int) (nilv : Bool) (nv : Nat) (vf : Nat → Int) (link : Int), yAnd (yNle nk 100) (yNle nv 100) = true → (yNot inner = true → rightN inner nk kf nv = false) ∧ (yNot inner = false → (yEq (yInt nv) (0 : Int) = true → rightN inner nk kf nv = false) ∧ (yEq (yInt nv) (0 : Int) = false → (yNot (yEq (yInt nk) (yWrap IntKind.i64 (ySub (yInt nv) 1))) = true → rightN inner nk kf nv = false) ∧ (yNot (yEq (yInt nk) (yWrap IntKind.i64 (ySub (yInt nv) 1))) = false → true = true ∧ (∃ (i0 : Nat), prRn nk kf i0 ∧ true = true ∧ yInt i0 = (0 : Int) ∧ true = true) ∧ ∀ (g : Nat → AV) (i : Nat), prRn nk kf i → (yLt (yInt i) (yWrap IntKind.i64 (ySub (yInt nk) 1)) = true → (yIn (yInt i) nk = true → (yNlt (yNadd 0 (yNat (yInt i))) nk = true → (yIn (yWrap IntKind.i64 (yAdd (yInt i) 1)) nk = true → (yNlt (yNadd 0 (yNat (yWrap IntKind.i64 (yAdd (yInt i) 1)))) nk = true → (yLe (kf (yNadd 0 (yNat (yWrap IntKind.i64 (yAdd (yInt i) 1))))) (kf (yNadd 0 (yNat (yInt i)))) = true → rightN inner nk kf nv = false) ∧ (yLe (kf (yNadd 0 (yNat (yWrap IntKind.i64 (yAdd (yInt i) 1))))) (kf (yNadd 0 (yNat (yInt i)))) = false → true = true ∧ ∃ (i' : Nat), prRn nk kf i' ∧ Nat.succ (msRn nk i') ≤ msRn nk i ∧ true = true ∧ yInt i' = yWrap IntKind.i64 (yAdd (yInt i) 1) ∧ true = true)) ∧ (yNlt (yNadd 0 (yNat (yWrap IntKind.i64 (yAdd (yInt i) 1)))) nk = false → False)) ∧ (yIn (yWrap IntKind.i64 (yAdd (yInt i) 1)) nk = false → False)) ∧ (yNlt (yNadd 0 (yNat (yInt i))) nk = false → False)) ∧ (yIn (yInt i) nk = false → False)) ∧ (yLt (yInt i) (yWrap IntKind.i64 (ySub (yInt nk) 1)) = false → rightN inner nk kf nv = true))))) := by kernel_rfl
theorem goalRn_ok : goalRn := by
 refine @kernel_go _ _ goalRn_eq ?_
 intro inner nilk nk kf nilv nv vf link hb
 have hN : ∀ i : Nat, yNat ((i : Int) + 1) = i + 1 := fun i => by unfold yNat; omega
 simp only [vS, forall_const, prRn, msRn] at hb ⊢
 cases inner
 all_goals simp only [vS, forall_const, rightN_t, rightN_f, if_true, if_false, false_or, or_false]
 all_goals repeat' (first | apply And.intro | intro (_ : Nat → AV) i hi | intro _)
 all_goals (try simp (disch := omega) only [wrap64, yNatSub, hN] at *)
 all_goals first
   | trivial
   | omega
   | (exfalso; omega)
   | exact (‹False ∧ nk + 1 = nv ∧ Rises kf nk›).1
   | (have hr := (‹nk + 1 = nv ∧ Rises kf nk›).2 i (by omega); omega)
   | exact hi.2 _ (by omega)
   | exact ⟨by omega, fun j hj => hi.2 j (by omega)⟩
   | (refine ⟨i + 1, ⟨by omega, fun j hj => ?_⟩, by omega, by omega⟩
      by_cases e : j = i
      · subst e; omega
      · exact hi.2 j (by omega))
   | exact ⟨0, ⟨Nat.zero_le _, fun j hj => by omega⟩, rfl⟩
   | (trace_state; fail)
end Go.Proofs.YtjhbimdaeofdlaaGreatDoor.Ex
end
section
namespace Go.Proofs.YtjhbimdaeofdlaaGreatDoor.Ex
open Go Go.RowKit
abbrev wrongV : Value := .iface 221 (.agg #[])
theorem must_t (w : World) : Calls Tryz.prog 178 #[.bool true] w fun e w' => e = .returned (.tuple #[]) ∧ w' = w := by
 go_enter Tryz.func178, Tryz.ntmps178
 go_wp2
 go_end0
 exact ⟨rfl, rfl⟩
theorem must_f (w : World) : Calls Tryz.prog 178 #[.bool false] w fun e w' => e = .panicked [{ v := wrongV, recovered := false }] ∧ w' = w := by
 go_enter Tryz.func178, Tryz.ntmps178
 go_wp2
 exact ⟨rfl, rfl, rfl⟩
theorem td_idle (p : Addr) (w : World) :
   CallsD Tryz.prog 237 #[.pointer (some p)] .returning w fun e u' w' => e = .returned (.tuple #[]) ∧ u' = .returning ∧ w' = w := by
 refine callsD_of_wpS Tryz.func237 rfl fun c₀ cs hu => ?_
 apply wpS_seq
 apply wpS_region
 simp [wpOpsS, go_sem, recoverD, hu, Tryz.ntmps237, Exit.thenS]
 apply wpS_seq
 apply wpS_region
 simp [wpOpsS, go_sem, Exit.thenS]
 refine wpS_cond (t := false) (by simp [Act.eval, Array.replicate]) ?_
 simp only [Bool.false_eq_true, if_false]
 refine wpS_of_wp (wp_skip ?_)
 cases c₀
 simp_all [bodyPostS, results, Tryz.results237]
theorem td_catch (p : Addr) (b : Bool) (older : List PanicEntry) (w : World) (hc : w.cell? p = some (.bool b)) (hz : w.frozen? p = false) :
   CallsD Tryz.prog 237 #[.pointer (some p)] (.panicking ({ v := wrongV, recovered := false } :: older)) w fun e u' w' =>
     e = .returned (.tuple #[]) ∧ u' = .panicking ({ v := wrongV, recovered := true } :: older) ∧ w' = (w.alloc (.cells #[] 221)).setCell p (.bool false) := by
 have hta : ∀ w : World, (Instr.typeAssert wrongV 20 221 true).run Tryz.prog w = .ok (.tuple #[.agg #[], .bool true]) w := fun w => by kernel_rfl
 refine callsD_of_wpS Tryz.func237 rfl fun c₀ cs hu => ?_
 apply wpS_seq
 apply wpS_region
 simp [wpOpsS, go_sem, recoverD, hu, Tryz.ntmps237, Exit.thenS]
 apply wpS_seq
 apply wpS_region
 simp [wpOpsS, go_sem, Exit.thenS]
 refine wpS_cond (t := true) (by simp [Act.eval, Array.replicate]) ?_
 simp only [if_true]
 apply wpS_seq
 apply wpS_seq
 apply wpS_region
 simp [wpOpsS, go_sem, Exit.thenS, Array.replicate, hta, storeCells]
 apply wpS_seq
 apply wpS_region
 simp [wpOpsS, go_sem, Exit.thenS]
 refine wpS_cond (t := false) (by simp [Act.eval]) ?_
 simp only [Bool.false_eq_true, if_false]
 refine wpS_of_wp (wp_skip ?_)
 have hlt : p.block ≠ w.heap.size := fun e => by
   unfold World.cell? at hc
   rw [e, Array.getElem?_eq_none (Nat.le_refl _)] at hc
   cases hc
 have hc2 : (w.alloc (.cells #[] 221)).cell? p = some (.bool b) := (World.cell?_alloc_old w _ p hlt).trans hc
 have hz2 : (w.alloc (.cells #[] 221)).frozen? p = false := (World.frozen?_alloc_old w _ p hlt).trans hz
 simp only [Exit.thenS]
 apply wpS_region
 simp [wpOpsS, go_sem, hc2, hz2, bodyPostS, results, Tryz.results237]
abbrev tdW (w : World) : World := w.alloc (.cells #[.bool false] 4)
set_option maxHeartbeats 1000000 in
theorem tried_ret {f : FuncId} {caps : Array Value} {w : World} {R : World → Prop} (hrun : (callFunc f caps).run Tryz.prog (w.alloc (.cells #[.bool false] 4)) = .ok (.enter f caps) (w.alloc (.cells #[.bool false] 4))) (h : Calls Tryz.prog f caps (tdW w) fun e w' => e = .returned (.tuple #[]) ∧ w'.heap[w.heap.size]? = some (.cells #[.bool false] 4 (0, 0)) ∧ R w') :
   Calls Tryz.prog 176 #[.func (.func f) #[] caps] w fun e w' => ∃ w1, R w1 ∧ e = .returned (.bool true) ∧ w' = w1.setCell ⟨w.heap.size, 0, none⟩ (.bool true) := by
 have hmf : ∀ (fn : Fn) (first cap : Array Value) (w : World), (Instr.makeFunc fn first cap).run Tryz.prog w = .ok (.func fn first cap) w := fun _ _ _ _ => rfl
 go_enter_defers Tryz.func176, Tryz.ntmps176
 go_wp2_with (fail)
 refine h.mono ?_
 rintro e w' ⟨rfl, hb, hR⟩
 have hc : w'.cell? ⟨w.heap.size, 0, none⟩ = some (.bool false) := by
   simp only [World.cell?, hb]; rfl
 have hz : w'.frozen? ⟨w.heap.size, 0, none⟩ = false := by
   simp [World.frozen?, hb]
 simp only []
 go_wp2_with (fail)
 refine leaves_cons (f := 237) (args := #[.pointer (some ⟨w.heap.size, 0, none⟩)]) (by simp) (by simp [go_sem]) ?_
 refine (td_idle _ _).mono ?_
 rintro e u' w'' ⟨rfl, rfl, rfl⟩
 have hat : (w'.setCell ⟨w.heap.size, 0, none⟩ (.bool true)).cell? ⟨w.heap.size, 0, none⟩ = some (.bool true) := by
   simp [go_sem, hc]
 simp [Leaves, settle, results, Tryz.results176, go_sem, hat]
 exact ⟨w', hR, rfl⟩
set_option maxHeartbeats 1000000 in
theorem tried_wrong {f : FuncId} {caps : Array Value} {w : World} {R : World → Prop} (hrun : (callFunc f caps).run Tryz.prog (w.alloc (.cells #[.bool false] 4)) = .ok (.enter f caps) (w.alloc (.cells #[.bool false] 4))) (h : Calls Tryz.prog f caps (tdW w) fun e w' => e = .panicked [{ v := wrongV, recovered := false }] ∧ w'.heap[w.heap.size]? = some (.cells #[.bool false] 4 (0, 0)) ∧ R w') :
   Calls Tryz.prog 176 #[.func (.func f) #[] caps] w fun e w' => ∃ w1, R w1 ∧ e = .returned (.bool false) ∧ w' = (w1.alloc (.cells #[] 221)).setCell ⟨w.heap.size, 0, none⟩ (.bool false) := by
 have hmf : ∀ (fn : Fn) (first cap : Array Value) (w : World), (Instr.makeFunc fn first cap).run Tryz.prog w = .ok (.func fn first cap) w := fun _ _ _ _ => rfl
 go_enter_defers Tryz.func176, Tryz.ntmps176
 go_wp2_with (fail)
 refine h.mono ?_
 rintro e w' ⟨rfl, hb, hR⟩
 have hc : w'.cell? ⟨w.heap.size, 0, none⟩ = some (.bool false) := by
   simp only [World.cell?, hb]; rfl
 have hz : w'.frozen? ⟨w.heap.size, 0, none⟩ = false := by
   simp [World.frozen?, hb]
 simp only []
 refine leaves_cons (f := 237) (args := #[.pointer (some ⟨w.heap.size, 0, none⟩)]) (by simp) (by simp [go_sem]) ?_
 refine (td_catch _ false [] _ hc hz).mono ?_
 rintro e u' w'' ⟨rfl, rfl, rfl⟩
 have hlt : (⟨w.heap.size, 0, none⟩ : Addr).block ≠ w'.heap.size := fun e => by
   have e : w.heap.size = w'.heap.size := e
   rw [e, Array.getElem?_eq_none (Nat.le_refl _)] at hb
   cases hb
 have hat : ((w'.alloc (.cells #[] 221)).setCell ⟨w.heap.size, 0, none⟩ (.bool false)).cell? ⟨w.heap.size, 0, none⟩ = some (.bool false) := by
   have h2 := (World.cell?_alloc_old w' (.cells #[] 221) _ hlt).trans hc
   simp [go_sem, h2]
 simp [Leaves, settle, results, Tryz.results176, go_sem, hat]
 exact ⟨w', hR, rfl⟩
end Go.Proofs.YtjhbimdaeofdlaaGreatDoor.Ex
end
section
namespace Go.Proofs.YtjhbimdaeofdlaaGreatDoor.Ex
open Go Go.RowKit
theorem Rel.skip {M : Mp} {h : AH} {w : World} (r : Rel M h w) {b : Nat} (v : Value) (h1 : ∀ id κ o, h.get id = some o → M id ≠ some (b, κ)) (h2 : M.z b = none) (h3 : GL b = none) : Rel M h (w.setCell ⟨b, 0, none⟩ v) := by
 have hs : ∀ k, k ≠ b → (w.setCell ⟨b, 0, none⟩ v).heap[k]? = w.heap[k]? := fun k hk => by
   simp only [World.setCell, Array.getElem?_modify]
   rw [if_neg (fun e => hk e.symm)]
 refine ⟨fun id o e => ?_, r.inj, r.wf, fun g c hg => ?_, r.gf, fun b' cs e => ?_, r.fo⟩
 · rcases r.obj id o e with hv | ⟨b', κ, ob, k1, k2, k3⟩
   · exact .inl hv
   · exact .inr ⟨b', κ, ob, k1, by rw [hs b' (fun e2 => h1 id κ o e (e2 ▸ k1))]; exact k2, k3⟩
 · obtain ⟨vs, e, fr, k1, k2⟩ := r.gw g c hg
   exact ⟨vs, e, fr, by rw [hs g (fun e2 => by rw [e2, h3] at hg; cases hg)]; exact k1, k2⟩
 · obtain ⟨e1, fr, k1⟩ := r.fz b' cs e
   exact ⟨e1, fr, by rw [hs b' (fun e2 => by rw [e2, h2] at e; cases e)]; exact k1⟩
def tdA (P : Program) (sm : FuncId → Option Sm) (args : List AV) (h : AH) : T (AV × AH) :=
 match args with
 | [.fn f caps] => (callT P ⟨execT P sm 900, sm⟩ f caps h).bind fun p => match p.1 with
   | .tup [] => .ret (.b true, p.2)
   | _ => .no
 | _ => .no
theorem GW.lt {w : World} (h : GW w) {b : Nat} (hb : w.heap.size ≤ b) : GL b = none := by
 cases hg : GL b with
 | none => rfl
 | some c =>
   obtain ⟨_, _, _, q, _⟩ := h b c hg
   exact absurd (heap_lt q) (by omega)
theorem smTried (hm : Tryz.prog.follows .mixedOrders = true) {sm : FuncId → Option Sm} (hs : SmOK Tryz.prog sm) : SmCall Tryz.prog 176 (fun args h => (tdA Tryz.prog sm args h).sel) := by
 intro args h v h' hg
 simp only [tdA] at hg
 split at hg
 case h_2 => cases hg
 rename_i f caps
 obtain ⟨⟨v0, h0⟩, hsel, e⟩ := T.sel_bind_some hg
 simp only at e
 split at e
 case h_2 => cases e
 have e := T.sel_ret e
 simp only [Prod.mk.injEq] at e
 obtain ⟨rfl, rfl⟩ := e
 have hrc : RcT.rc ⟨execT Tryz.prog sm 900, sm⟩ = ⟨exec Tryz.prog sm 900, sm⟩ := by
   unfold RcT.rc
   congr 1
   funext c s
   exact execT_sel
 rw [callT_sel, hrc] at hsel
 obtain ⟨⟨hnx, hab⟩, c⟩ := callA_ok (exec_good hm hs 900) hsel
 refine ⟨⟨hnx, hab⟩, fun M us w r R ra rr fr k => ⟨?_, ?_⟩⟩
 · have hok : okFn Tryz.f176 = true := by kernel_rfl
   have hnn : ¬ (Tryz.f176.name = "runtime.NumGoroutine") := by simpa [okFn] using hok
   have hb : (Tryz.f176.body).isSome = true := by kernel_rfl
   have hf : Tryz.prog.funcs[176]? = some Tryz.f176 := Tryz.func176
   cases hbb : Tryz.f176.body with
   | none => rw [hbb] at hb; cases hb
   | some c => simp [callFunc, hf, hnn, hbb]
 · simp only [AV.RL, AV.R] at ra
   obtain ⟨_, _, ⟨vs, rvs, rfl⟩, rfl, rfl⟩ := ra
   have hbel : Below w.heap.size w (tdW w) := (Below.refl _ w).alloc (Nat.le_refl _) _
   have hsz : (tdW w).heap.size = w.heap.size + 1 := by simp [tdW]
   have rt : Rel M h (tdW w) := rr.below hbel
   have hlast : (tdW w).heap[w.heap.size]? = some (.cells #[.bool false] 4 (0, 0)) := heap_alloc_new w _
   have hMb : ∀ id κ o, h.get id = some o → M id ≠ some (w.heap.size, κ) := fun id κ o hg e => by
     have := rr.lt (id := id) (by rw [hg]; simp) e
     omega
   obtain ⟨c1, c2⟩ := c M vs (tdW w) none (fun e w' => e = .returned (.tuple #[]) ∧ w'.heap[w.heap.size]? = some (.cells #[.bool false] 4 (0, 0)) ∧ R (.returned (.bool true)) (w'.setCell ⟨w.heap.size, 0, none⟩ (.bool true))) rvs rt fr (fun M' u w' rv rel' f' ab => by
     simp only [AV.R] at rv
     obtain ⟨us, hus, rfl⟩ := rv
     simp only [AV.RL] at hus
     subst hus
     refine ⟨rfl, ?_, ?_⟩
     · rw [f'.keep w.heap.size (by omega) (fun id κ o hg _ => hMb id κ o hg)]; exact hlast
     · have hM' : ∀ id κ o, h0.get id = some o → M' id ≠ some (w.heap.size, κ) := fun id κ o hg e => by
         rcases f'.range id _ κ o hg e with q | ⟨i, κ', o', q1, q2, _⟩
         · omega
         · exact hMb i κ' o' q1 q2
       have hz' : M'.z w.heap.size = none := by
         cases hz : M'.z w.heap.size with
         | none => rfl
         | some cs =>
           rcases f'.zx _ _ hz with q | q | ⟨i, κ, o, q1, _, q2⟩
           · have := rr.fz_lt q; omega
           · omega
           · exact absurd q2 (hMb i κ o q1)
       have hs : ∀ k, k ≠ w.heap.size → (w'.setCell ⟨w.heap.size, 0, none⟩ (.bool true)).heap[k]? = w'.heap[k]? := fun k hk => by
         simp only [World.setCell, Array.getElem?_modify]
         rw [if_neg (fun e => hk e.symm)]
       have hsize : (w'.setCell ⟨w.heap.size, 0, none⟩ (.bool true)).heap.size = w'.heap.size := by simp [World.setCell]
       refine k M' (.bool true) _ rfl (rel'.skip _ hM' hz' (rr.gw.lt (Nat.le_refl _))) ?_ ab
       refine ⟨f'.os.trans hbel.os, f'.tape.trans hbel.tape, f'.output.trans hbel.output, ?_, f'.ext, f'.only, fun k hk ho => ?_, fun id b κ o' e1 e2 => ?_, fun b cs e1 => ?_⟩
       · rw [hsize]; have := f'.size; omega
       · rw [hs k (by omega), f'.keep k (by omega) ho]; exact hbel.block k hk
       · rcases f'.range id b κ o' e1 e2 with q | q
         · exact .inl (by omega)
         · exact .inr q
       · rcases f'.zx b cs e1 with q | q | q
         · exact .inl q
         · exact .inr (.inl (by omega))
         · exact .inr (.inr q))
   have hC := CallsIn.calls c2 (fun k d hd => by simp [FW] at hd)
   exact (callsIn_wide (n := 0)).2 ((tried_ret c1 hC).mono fun e w' ⟨w1, hR, he, hw⟩ => by subst he; subst hw; exact hR)
end Go.Proofs.YtjhbimdaeofdlaaGreatDoor.Ex
end
section
namespace Go.Proofs.YtjhbimdaeofdlaaGreatDoor.Ex
open Go Go.RowKit
theorem smRn (hm : Tryz.prog.follows .mixedOrders = true) : SmCall Tryz.prog 179 (fun args h => (ctS gRn fRn args h).sel) :=
 ctS_ok hm noSm_ok (by decide) (fun ds a hd => by
   unfold fRn at hd
   split at hd
   · rename_i inner nilk nk kf nilv nv vf link
     simp only [Option.some.injEq, Prod.mk.injEq] at hd
     obtain ⟨h1, rfl⟩ := hd
     have h2 := @goalRn_ok
     unfold goalRn at h2
     exact ⟨annRn nk kf, 1000, @h2 inner nilk nk kf nilv nv vf link h1⟩
   · cases hd)
theorem DcR_below {w w' : World} {c : Cs} {d : Dc} {u : Value} (h : DcR w c d u) (hb : Below w.heap.size w w') : DcR w' c d u := by
 unfold DcR at h ⊢
 split at h
 · exact h
 · rcases h with h | ⟨h1, p, k, h2, h3, h4⟩
   · exact .inl h
   · refine .inr ⟨h1, p, k, h2, h3, ?_⟩
     rcases h4 with h4 | ⟨b, off, h5, cs, e, fr, h6, h7⟩
     · exact .inl h4
     · exact .inr ⟨b, off, h5, cs, e, fr, by rw [hb.block b (heap_lt h6)]; exact h6, h7⟩
 · exact h
abbrev ndV (inner : Bool) (vk vv : Value) (link : Int) : Value := .agg #[.bool inner, vk, vv, .int .u64 link]
end Go.Proofs.YtjhbimdaeofdlaaGreatDoor.Ex
end
section
namespace Go.Proofs.YtjhbimdaeofdlaaGreatDoor
open Go
section
variable {P : Program} {ops : Array Oper} {Q : Exit → Act → World → Prop} {md : Region.Mode} {H : List (Nat × (World → Prop))}
def HeldTill (H : List (Nat × (World → Prop))) (listed : Array Bool) (w : World) : Prop := ∀ x ∈ H, listed.getD x.1 true = false → x.2 w
def ClosedUp (md : Region.Mode) (ops : Array Oper) (listed : Array Bool) : Prop :=
 ∀ j oj, ops[j]? = some oj → listed.getD j true = true → ∀ e ∈ oj.after, Region.binds md e = true → listed.getD e.on false = true
def wpAnyS (P : Program) (md : Region.Mode) (ops : Array Oper) (Q : Exit → Act → World → Prop) (H : List (Nat × (World → Prop))) : Nat → Array Bool → Act → World → Prop
 | 0, listed, a, w => Region.ready md ops listed = [] ∧ Q .normal a w
 | fuel + 1, listed, a, w =>
   (Region.ready md ops listed = [] → Q .normal a w) ∧
   ∀ i ∈ Region.ready md ops listed, wpOp P ops Q i (fun a' w' => HeldTill H (listed.setIfInBounds i true) w' ∧ wpAnyS P md ops Q H fuel (listed.setIfInBounds i true) a' w') a w
theorem wpAny_of_S : ∀ (fuel : Nat) (listed : Array Bool) (a : Act) (w : World), wpAnyS P md ops Q H fuel listed a w → wpAny P md ops Q fuel listed a w
 | 0, _, _, _, h => h
 | fuel + 1, _, _, _, h => ⟨h.1, fun i hi => wpOp_mono (fun a' w' h' => wpAny_of_S fuel _ a' w' h'.2) (h.2 i hi)⟩
theorem ClosedUp.step {listed : Array Bool} (h : ClosedUp md ops listed) (hsz : listed.size = ops.size) {i : Nat} (hi : i ∈ Region.ready md ops listed) : ClosedUp md ops (listed.setIfInBounds i true) := by
 obtain ⟨hun, oi, hoi, hall⟩ := mem_ready.1 hi
 have hil : i < listed.size := by rw [hsz]; exact (Array.getElem?_eq_some_iff.1 hoi).1
 intro j oj hj hl e he hb
 have key : listed.getD e.on false = true := by
   by_cases hji : j = i
   · subst hji
     rw [hoi] at hj; cases hj
     exact hall e he hb
   · refine h j oj hj ?_ e he hb
     rwa [getD_set_ne true (Ne.symm hji)] at hl
 by_cases hei : e.on = i
 · rw [hei]; simp [hil]
 · rw [getD_set_ne false (Ne.symm hei)]; exact key
theorem wpAnyS_first {i : Nat} {oi : Oper} {v : Value} {T : World → Prop} (hi : ops[i]? = some oi) (hsel : ∀ (j : Nat) (o : Oper) cs b, ops[j]? = some o → o.op ≠ .select cs b)
   (hQ : ∀ c a w, Q (.panic c) (a.put oi.dst v) w → Q (.panic c) a w) (hne : ∀ x ∈ H, x.1 ≠ i)
   (hT : ∀ (l : Array Bool) w, ClosedUp md ops l → l.getD i true = false → HeldTill H l w → T w) :
   ∀ (fuel : Nat) (listed : Array Bool) (a : Act) (w : World), listed.size = ops.size → ClosedUp md ops listed →
     (∀ j oj, ops[j]? = some oj → j ≠ i → listed.getD j true = false → (∀ e ∈ oj.after, Region.binds md e = true → e.on ≠ i) → oi.apart ops oj = true) →
     i ∈ Region.ready md ops listed → YieldsIf P ops T oi v a → HeldTill H listed w →
     wpAnyS P md ops Q H fuel (listed.setIfInBounds i true) (a.put oi.dst v) w → wpAnyS P md ops Q H (fuel + 1) listed a w := by
 have hput : ∀ (listed : Array Bool) (w : World), HeldTill H listed w → HeldTill H (listed.setIfInBounds i true) w := fun listed w h x hx hl => by
   refine h x hx ?_
   rwa [getD_set_ne true (Ne.symm (hne x hx))] at hl
 intro fuel
 induction fuel with
 | zero =>
   intro listed a w _ hcl _ hr hy hS hh
   refine ⟨fun h => (by rw [h] at hr; cases hr), fun j hj => ?_⟩
   by_cases hji : j = i
   · subst hji; exact hy.wpOp hi (hT listed w hcl (mem_ready.1 hr).1 hS) ⟨hput _ _ hS, hh⟩
   · have := ready_mono hj hji
     rw [hh.1] at this
     cases this
 | succ fuel ih =>
   intro listed a w hsz hcl hfree hr hy hS hh
   refine ⟨fun h => (by rw [h] at hr; cases hr), fun j hj => ?_⟩
   by_cases hji : j = i
   · subst hji; exact hy.wpOp hi (hT listed w hcl (mem_ready.1 hr).1 hS) ⟨hput _ _ hS, hh⟩
   · have h1 := hh.2 j (ready_mono hj hji)
     obtain ⟨hjun, oj, hoj, hall⟩ := mem_ready.1 hj
     have hnot : ∀ e ∈ oj.after, Region.binds md e = true → e.on ≠ i := fun e he hb heq => by
       have h1 := hall e he hb
       have h0 := (mem_ready.1 hr).1
       rw [heq] at h1
       rcases Nat.lt_or_ge i listed.size with h' | h'
       · simp [h'] at h0 h1; rw [h0] at h1; cases h1
       · simp [Array.getElem?_eq_none h'] at h1
     have h2 := wpOp_putIf hoj (hfree j oj hoj hji hjun hnot) (fun cs b => hsel i oi cs b hi) (fun cs b => hsel j oj cs b hoj) hQ hy h1
     have hfree' : ∀ k ok, ops[k]? = some ok → k ≠ i → (listed.setIfInBounds j true).getD k true = false →
         (∀ e ∈ ok.after, Region.binds md e = true → e.on ≠ i) → oi.apart ops ok = true := fun k ok hk hki hun hno => by
       refine hfree k ok hk hki ?_ hno
       by_cases hjk : j = k
       · subst hjk; exact hjun
       · rw [getD_set_ne true hjk] at hun; exact hun
     have hback : ∀ w', HeldTill H ((listed.setIfInBounds i true).setIfInBounds j true) w' → HeldTill H (listed.setIfInBounds j true) w' := fun w' h x hx hl => by
       refine h x hx ?_
       rw [Array.setIfInBounds_comm _ _ (Ne.symm hji), getD_set_ne true (Ne.symm (hne x hx))]
       exact hl
     refine wpOp_mono (fun a' w' h3 => ⟨hback w' h3.2.1, ih (listed.setIfInBounds j true) a' w' (by simpa using hsz) (hcl.step hsz hj) hfree' (ready_mono hr (Ne.symm hji)) h3.1 (hback w' h3.2.1) ?_⟩) h2
     rw [Array.setIfInBounds_comm _ _ hji]
     exact h3.2.2
def waitsIn (md : Region.Mode) (ops : Array Oper) : Nat → Nat → Nat → Bool
 | 0, _, _ => false
 | f + 1, c, i => match ops[c]? with | some oc => oc.after.any (fun e => Region.binds md e && (e.on == i || waitsIn md ops f e.on i)) | none => false
def waitsFor (md : Region.Mode) (ops : Array Oper) (c i : Nat) : Bool := waitsIn md ops 40 c i
theorem waitsIn_listed {l : Array Bool} (hcl : ClosedUp md ops l) : ∀ (f c i : Nat), waitsIn md ops f c i = true → l.getD c true = true → l.getD i false = true := by
 intro f
 induction f with
 | zero => intro c i h; cases h
 | succ f ih =>
   intro c i h hl
   unfold waitsIn at h
   split at h
   · rename_i oc hoc
     obtain ⟨e, he, hb⟩ := Array.any_eq_true'.1 h
     simp only [Bool.and_eq_true, Bool.or_eq_true, beq_iff_eq] at hb
     have h1 := hcl c oc hoc hl e he hb.1
     rcases hb.2 with h2 | h2
     · rw [h2] at h1; exact h1
     · refine ih e.on i h2 ?_
       rcases Nat.lt_or_ge e.on l.size with h' | h'
       · simp [h'] at h1 ⊢; exact h1
       · simp [Array.getElem?_eq_none h'] at h1
   · cases h
def closedUpB (md : Region.Mode) (ops : Array Oper) (listed : Array Bool) : Bool :=
 (List.range ops.size).all fun j => match ops[j]? with | some oj => !listed.getD j true || oj.after.all fun e => !Region.binds md e || listed.getD e.on false | none => true
theorem closedUpB_spec {listed : Array Bool} (h : closedUpB md ops listed = true) : ClosedUp md ops listed := by
 intro j oj hj hl e he hb
 have hjl : j < ops.size := (Array.getElem?_eq_some_iff.1 hj).1
 have := List.all_eq_true.1 h j (List.mem_range.2 hjl)
 simp only [hj, hl, Bool.not_true, Bool.false_or] at this
 have := Array.all_eq_true'.1 this e he
 simpa [hb] using this
theorem wpAnyS_take {i : Nat} {oi : Oper} {v : Value} {fuel : Nat} {listed : Array Bool} {a : Act} {w : World} (hi : ops[i]? = some oi)
   (hs : Region.noSelect ops = true) (hf : Region.free md ops listed i = true) (hr : (Region.ready md ops listed).contains i = true)
   (hc : closedUpB md ops listed = true) (hsz : listed.size = ops.size) (hn : H.all (fun x => x.1 != i) = true)
   (hQ : ∀ c a w, Q (.panic c) (a.put oi.dst v) w → Q (.panic c) a w) (hS : HeldTill H listed w) (hy : YieldsIf P ops (fun _ => True) oi v a)
   (h : HeldTill H (listed.setIfInBounds i true) w → wpAnyS P md ops Q H fuel (listed.setIfInBounds i true) (a.put oi.dst v) w) : wpAnyS P md ops Q H (fuel + 1) listed a w :=
 have hne : ∀ x ∈ H, x.1 ≠ i := fun x hx => by simpa using List.all_eq_true.1 hn x hx
 wpAnyS_first hi (Region.noSelect_spec hs) hQ hne (fun _ _ _ _ _ => trivial) fuel listed a w hsz (closedUpB_spec hc) (Region.free_spec hi hf) (by simpa using hr) hy hS
   (h fun x hx hl => hS x hx (by rwa [getD_set_ne true (Ne.symm (hne x hx))] at hl))
theorem wpAnyS_load {i c : Nat} {oi : Oper} {v : Value} {T : World → Prop} {fuel : Nat} {listed : Array Bool} {a : Act} {w : World} (hi : ops[i]? = some oi)
   (hs : Region.noSelect ops = true) (hf : Region.free md ops listed i = true) (hr : (Region.ready md ops listed).contains i = true)
   (hc : closedUpB md ops listed = true) (hsz : listed.size = ops.size) (hn : H.all (fun x => x.1 != i) = true) (hw : waitsFor md ops c i = true) (hcT : (c, T) ∈ H)
   (hQ : ∀ c a w, Q (.panic c) (a.put oi.dst v) w → Q (.panic c) a w) (hS : HeldTill H listed w) (hy : YieldsIf P ops T oi v a)
   (h : HeldTill H (listed.setIfInBounds i true) w → wpAnyS P md ops Q H fuel (listed.setIfInBounds i true) (a.put oi.dst v) w) : wpAnyS P md ops Q H (fuel + 1) listed a w :=
 have hne : ∀ x ∈ H, x.1 ≠ i := fun x hx => by simpa using List.all_eq_true.1 hn x hx
 wpAnyS_first hi (Region.noSelect_spec hs) hQ hne (fun l w' hcl hl hH => by
     refine hH (c, T) hcT ?_
     cases hlc : l.getD c true with
     | false => rfl
     | true =>
       have := waitsIn_listed hcl 40 c i hw hlc
       rcases Nat.lt_or_ge i l.size with h' | h'
       · simp [h'] at hl this; rw [hl] at this; cases this
       · simp [Array.getElem?_eq_none h'] at this) fuel listed a w hsz (closedUpB_spec hc) (Region.free_spec hi hf) (by simpa using hr) hy hS
   (h fun x hx hl => hS x hx (by rwa [getD_set_ne true (Ne.symm (hne x hx))] at hl))
def AllReadyS (P : Program) (md : Region.Mode) (ops : Array Oper) (Q : Exit → Act → World → Prop) (H : List (Nat × (World → Prop))) (fuel : Nat) (listed : Array Bool) (a : Act) (w : World) (rs : List Nat) : Prop :=
 ∀ i ∈ rs, wpOp P ops Q i (fun a' w' => HeldTill H (listed.setIfInBounds i true) w' ∧ wpAnyS P md ops Q H fuel (listed.setIfInBounds i true) a' w') a w
theorem AllReadyS.nil {fuel : Nat} {listed : Array Bool} {a : Act} {w : World} : AllReadyS P md ops Q H fuel listed a w [] := fun _ h => by cases h
theorem AllReadyS.cons {fuel : Nat} {listed : Array Bool} {a : Act} {w : World} {i : Nat} {o : Oper} {rs : List Nat} (ho : ops[i]? = some o)
   (h : ∀ K' : Act → World → Prop, Shut (∀ a w, HeldTill H (listed.setIfInBounds i true) w → (HeldTill H (listed.setIfInBounds i true) w → wpAnyS P md ops Q H fuel (listed.setIfInBounds i true) a w) → K' a w) → if Region.wanted o (yielded ops a.tmps) = true then Oper.wp P o a w K' Q else K' (a.put o.dst undef) w)
   (hs : AllReadyS P md ops Q H fuel listed a w rs) : AllReadyS P md ops Q H fuel listed a w (i :: rs) := fun j hj => by
 rcases List.mem_cons.1 hj with rfl | hj
 · exact wpOp_step ho (fun K' hK => h K' (fun a w hS hW => hK a w ⟨hS, hW hS⟩))
 · exact hs j hj
theorem wpAnyS_ready {rs : List Nat} {fuel : Nat} {listed : Array Bool} {a : Act} {w : World} (hr : Region.ready md ops listed = rs) (hne : rs ≠ [])
   (h : AllReadyS P md ops Q H fuel listed a w rs) : wpAnyS P md ops Q H (fuel + 1) listed a w :=
 ⟨fun h0 => absurd (hr ▸ h0) hne, hr ▸ h⟩
theorem wpAnyS_done {listed : Array Bool} {a : Act} {w : World} (hr : Region.ready md ops listed = []) (h : Q .normal a w) :
   ∀ fuel, wpAnyS P md ops Q H fuel listed a w
 | 0 => ⟨hr, h⟩
 | _ + 1 => ⟨fun _ => h, by rw [hr]; simp⟩
theorem wp_region_S {id : Nat} {a : Act} {w : World} (H : List (Nat × (World → Prop))) (hm : P.follows .mixedOrders = true)
   (h : wpAnyS P .any ops Q H ops.size (Array.replicate ops.size false) a w.drew) : (Code.region id ops true).wp P Q a w :=
 wp_region_any hm (wpAny_of_S _ _ _ _ h)
end
end Go.Proofs.YtjhbimdaeofdlaaGreatDoor
end
section
namespace Go.Proofs.YtjhbimdaeofdlaaGreatDoor.Ex
open Go Go.RowKit
theorem wx_calls {P : Program} {sm : FuncId → Option Sm} (hm : P.follows .mixedOrders = true) (hs : SmOK P sm) {gs : List Ag} {ds : List Da} {us : List Value} {ann : Nat → Option (St → LoopA)} {n : Nat} {f : FuncId} {w : World} (gw : GW w)
   {a : AV} (hd : DaRs w gs ds us) (hl : (canA gs ds []).2.length < 4294967296) (h : wxF P sm ann n f (canA gs ds []).1 (heapOf (canA gs ds []).2) (fun v _ => cmpC a v)) :
   Calls P f us.toArray w fun en w' => ∃ u, en = .returned u ∧ a.R noM u ∧ Below w.heap.size w w' := by
 obtain ⟨bs, hb, hr⟩ := canA_ok (bl := []) (bs := []) hd rfl
 simp only [List.nil_append] at hb hr
 obtain ⟨rel, fr⟩ := heapOf_rel hb hl gw
 obtain ⟨_, cc⟩ := wxF_ok hm hs h (Mof bs) us w none (fun en w' => ∃ u, en = .returned u ∧ a.R noM u ∧ Below w.heap.size w w') hr rel fr (fun v h' M' u w' hk rv rel' _ f _ =>
   ⟨u, rfl, (cmpC_ok hk rv).1, f.os, f.tape, f.output, f.size, fun k hk2 => f.keep k hk2 (own_none hb hl k)⟩)
 exact CallsIn.calls cc (fun k d hd => by simp [FW] at hd)
theorem right_c (hm : Tryz.prog.follows .mixedOrders = true) {w : World} (gw : GW w) {inner nilk nilv : Bool} {nk nv : Nat} {kf vf : Nat → Int} {vk vv : Value} {link : Int} (hk : DcR w cU (.rows nilk nk [.int .u64 kf]) vk) (hv : DcR w cU (.rows nilv nv [.int .u64 vf]) vv) (b1 : nk ≤ 100) (b2 : nv ≤ 100) :
   Calls Tryz.prog 179 #[ndV inner vk vv link] w fun e w' => e = .returned (.bool (rightN inner nk kf nv)) ∧ Below w.heap.size w w' := by
 have h2 := @goalRn_ok
 unfold goalRn at h2
 have hb : yAnd (yNle nk 100) (yNle nv 100) = true := by simp [yAnd, yNle, b1, b2]
 refine (wx_calls (us := [ndV inner vk vv link]) hm noSm_ok gw (gs := gRn) (ds := dRn inner nilk nk kf nilv nv vf link) ?_ (by show 2 < 4294967296; decide) (h2 inner nilk nk kf nilv nv vf link hb)).mono ?_
 · exact ⟨_, _, _, _, rfl, rfl, ⟨[.bool inner, vk, vv, .int .u64 link], rfl, _, _, _, _, rfl, rfl, rfl, _, _, _, _, rfl, rfl, hk, _, _, _, _, rfl, rfl, hv, _, _, _, _, rfl, rfl, rfl, rfl, rfl⟩, rfl, rfl⟩
 · rintro e w' ⟨u, rfl, hr, hb⟩
   simp only [AV.R] at hr
   exact ⟨by rw [hr], hb⟩
theorem with_c (hm : Tryz.prog.follows .mixedOrders = true) {w : World} (gw : GW w) {nil : Bool} {n a : Nat} {k x : Nat → Int} {vk vx : Value} (hk : DcR w cU (.rows nil n [.int .u64 k]) vk) (hx : DcR w cU (.rows false 1 [.int .u64 x]) vx) (b1 : n ≤ 80) (b2 : a ≤ n) :
   Calls Tryz.prog 181 #[vk, .int .i64 (a : Int), vx] w fun e w' => ∃ u, e = .returned u ∧ DcR w' cU (.rows false (n + 1) [.int .u64 (insI k a (x 0))]) u ∧ Below w.heap.size w w' := by
 have h2 := @goalWith_ok
 unfold goalWith at h2
 have hs : SmOK Tryz.prog (smL lGr) := smL_ok ⟨smGrow, trivial⟩
 have e1 : yNle n 80 = true := by simp [yNle, b1]
 have e2 : yNle a n = true := by simp [yNle, b2]
 refine rows_calls (us := [vk, .int .i64 (a : Int), vx]) hm hs gw (gs := gWi) (ds := [.cell (.rows nil n [.int .u64 k]), .cell (.v (.y .i64 (yInt a))), .cell (.rows false 1 [.int .u64 x])]) ?_ (by show 2 < 4294967296; decide) (h2 nil n k a false x e1 e2)
 exact ⟨_, _, _, _, rfl, rfl, hk, _, _, _, _, rfl, rfl, rfl, _, _, _, _, rfl, rfl, hx, rfl, rfl⟩
theorem DcR_slice {w : World} {e : TypeId} {ks : List CK} {nil : Bool} {n : Nat} {cols : List Col} {u : Value} (h : DcR w (some (e, ks)) (.rows nil n cols) u) : ∃ p m k, u = .slice p m k := by
 rcases h with ⟨_, _, e⟩ | ⟨_, p, k, e, _⟩
 · exact ⟨_, _, _, e⟩
 · exact ⟨_, _, _, e⟩
theorem gw_bel {w w' : World} (h : GW w) (hb : Below w.heap.size w w') : GW w' := fun g c hg => by
 obtain ⟨vs, e, fr, h1, h2⟩ := h g c hg
 exact ⟨vs, e, fr, by rw [hb.block g (heap_lt h1)]; exact h1, h2⟩
theorem bel2 (w : World) (a b : Obj) : Below w.heap.size w ((w.alloc a).alloc b) := ((Below.refl _ w).alloc (Nat.le_refl _) a).alloc (by simp) b
theorem node_t (hm : Tryz.prog.follows .mixedOrders = true) {w : World} (gw : GW w) {nilk nilv : Bool} {nk nv : Nat} {kf vf : Nat → Int} {vk vv : Value} {link : Int} (hk : DcR w cU (.rows nilk nk [.int .u64 kf]) vk) (hv : DcR w cU (.rows nilv nv [.int .u64 vf]) vv) (b1 : nk ≤ 100) (b2 : nv ≤ 100) (ht : rightN true nk kf nv = true) :
   Calls Tryz.prog 180 #[vk, vv, .int .u64 link] w fun e w' => e = .returned (ndV true vk vv link) ∧ Below w.heap.size w w' := by
 obtain ⟨p1, m1, k1, rfl⟩ := DcR_slice hk
 obtain ⟨p2, m2, k2, rfl⟩ := DcR_slice hv
 go_enter Tryz.func180, Tryz.ntmps180
 go_wp2_with (fail)
 refine (right_c hm (gw_bel gw (bel2 w _ _)) (DcR_below hk (bel2 w _ _)) (DcR_below hv (bel2 w _ _)) b1 b2).mono ?_
 rintro e w' ⟨rfl, hb⟩
 have h1 := (bel2 w _ _).trans (hb.mono (by simp; omega))
 obtain ⟨E, n, rfl⟩ := below_ext hb
 rw [ht]
 simp only []
 go_wp2_with (fail)
 refine (must_t _).mono ?_
 rintro e w' ⟨rfl, rfl⟩
 simp only []
 go_wp2_with (fail)
 simp [bodyPost, results, Tryz.results180, go_sem]
 exact Below_ext (bel2 w _ _) (by simp; omega) E n
theorem node_f (hm : Tryz.prog.follows .mixedOrders = true) {w : World} (gw : GW w) {nilk nilv : Bool} {nk nv : Nat} {kf vf : Nat → Int} {vk vv : Value} {link : Int} (hk : DcR w cU (.rows nilk nk [.int .u64 kf]) vk) (hv : DcR w cU (.rows nilv nv [.int .u64 vf]) vv) (b1 : nk ≤ 100) (b2 : nv ≤ 100) (ht : rightN true nk kf nv = false) :
   Calls Tryz.prog 180 #[vk, vv, .int .u64 link] w fun e w' => e = .panicked [{ v := wrongV, recovered := false }] ∧ Below w.heap.size w w' := by
 obtain ⟨p1, m1, k1, rfl⟩ := DcR_slice hk
 obtain ⟨p2, m2, k2, rfl⟩ := DcR_slice hv
 go_enter Tryz.func180, Tryz.ntmps180
 go_wp2_with (fail)
 refine (right_c hm (gw_bel gw (bel2 w _ _)) (DcR_below hk (bel2 w _ _)) (DcR_below hv (bel2 w _ _)) b1 b2).mono ?_
 rintro e w' ⟨rfl, hb⟩
 have h1 := (bel2 w _ _).trans (hb.mono (by simp; omega))
 obtain ⟨E, n, rfl⟩ := below_ext hb
 rw [ht]
 simp only []
 go_wp2_with (fail)
 refine (must_f _).mono ?_
 rintro e w' ⟨rfl, rfl⟩
 exact ⟨rfl, rfl, h1⟩
end Go.Proofs.YtjhbimdaeofdlaaGreatDoor.Ex
end
section
namespace Go.Proofs.YtjhbimdaeofdlaaGreatDoor.Ex
open Go Go.RowKit
theorem DcR_sl {w : World} {e : TypeId} {ks : List CK} {nil : Bool} {n : Nat} {cols : List Col} {u : Value} (h : DcR w (some (e, ks)) (.rows nil n cols) u) : ∃ p k, u = .slice p n k := by
 rcases h with ⟨_, rfl, e⟩ | ⟨_, p, k, e, _⟩
 · exact ⟨_, _, e⟩
 · exact ⟨_, _, e⟩
theorem cell_ext {w : World} {p : Addr} {v : Value} (h : w.cell? p = some v) (E : Array Obj) (n : Nat) : (w.ext E n).cell? p = some v := by
 have hlt : p.block < w.heap.size := by
   unfold World.cell? at h
   split at h
   · exact heap_lt (by assumption)
   · cases h
 exact ((below_of_ext w E n).cell hlt).trans h
theorem add1_a (hm : Tryz.prog.follows .mixedOrders = true) {w : World} (gw : GW w) {b0 b1 b2 b3 b4 : Nat} {inner nilk nilv : Bool} {nk nv : Nat} {kf vf : Nat → Int} {vk vv : Value} {link a : Int} (hk : DcR w cU (.rows nilk nk [.int .u64 kf]) vk) (hv : DcR w cU (.rows nilv nv [.int .u64 vf]) vv) (h1 : nk ≤ 100) (h2 : nv ≤ 100)
   (c0 : w.cell? ⟨b0, 0, none⟩ = some (.bool inner)) (c1 : w.cell? ⟨b0, 1, none⟩ = some vk) (c2 : w.cell? ⟨b0, 2, none⟩ = some vv) (c3 : w.cell? ⟨b0, 3, none⟩ = some (.int .u64 link)) (c4 : w.cell? ⟨b1, 0, none⟩ = some (.int .i64 a)) (ht : ¬ (rightN inner nk kf nv = true ∧ 1 ≤ a ∧ a ≤ nv)) :
   Calls Tryz.prog 177 #[.pointer (some ⟨b0, 0, none⟩), .pointer (some ⟨b1, 0, none⟩), .pointer (some ⟨b2, 0, none⟩), .pointer (some ⟨b3, 0, none⟩), .pointer (some ⟨b4, 0, none⟩)] w fun e w' => e = .panicked [{ v := wrongV, recovered := false }] ∧ Below w.heap.size w w' := by
 obtain ⟨p1, k1, rfl⟩ := DcR_sl hk
 obtain ⟨p2, k2, rfl⟩ := DcR_sl hv
 go_enter Tryz.func177, Tryz.ntmps177
 go_wp2_with (fail)
 refine (right_c hm gw hk hv h1 h2).mono ?_
 rintro e w' ⟨rfl, hb⟩
 obtain ⟨E, n, rfl⟩ := below_ext hb
 have d2 := cell_ext c2 E n
 have d4 := cell_ext c4 E n
 have hL : nv < 9223372036854775808 := by omega
 simp only []
 go_wp2_with (fail)
 · have e : decide (a ≤ (nv : Int)) = false := decide_eq_false (fun q => ht ⟨by assumption, by omega, q⟩)
   rw [e]
   refine (must_f _).mono ?_
   rintro e w' ⟨rfl, rfl⟩
   exact ⟨rfl, rfl, below_of_ext w E n⟩
 all_goals
   refine (must_f _).mono ?_
   rintro e w' ⟨rfl, rfl⟩
   exact ⟨rfl, rfl, below_of_ext w E n⟩
end Go.Proofs.YtjhbimdaeofdlaaGreatDoor.Ex
end
section
namespace Go.Proofs.YtjhbimdaeofdlaaGreatDoor.Ex
open Go Go.RowKit
theorem rowx {W : World} {b : Nat} {x : Int} {t : TypeId} {fr : Nat × Nat} (h : W.heap[b]? = some (.cells #[.int .u64 x] t fr)) : DcR W cU (.rows false 1 [.int .u64 fun _ => x]) (.slice (some ⟨b, 0, none⟩) 1 1) := by
 refine .inr ⟨rfl, _, _, rfl, Nat.le_refl _, .inr ⟨b, 0, rfl, _, _, _, h, fun i hi j hj => ?_⟩⟩
 obtain rfl : i = 0 := by omega
 obtain rfl : j = 0 := by simp at hj; omega
 exact ⟨_, rfl, rfl, rfl⟩
theorem ha_new (w : World) (o : Obj) {k : Nat} (h : k = w.heap.size) : (w.alloc o).heap[k]? = some o := h ▸ heap_alloc_new w o
theorem ha_old {w : World} {o v : Obj} {k : Nat} (h : w.heap[k]? = some v) : (w.alloc o).heap[k]? = some v := (Below.heap_alloc _ _ _ (heap_lt h)).trans h
theorem ha_ext {w : World} {v : Obj} {k : Nat} (E : Array Obj) (n : Nat) (h : w.heap[k]? = some v) : (w.ext E n).heap[k]? = some v := (ext_heap w E n k (heap_lt h)).trans h
theorem cell_alloc {w : World} {p : Addr} {v : Value} (h : w.cell? p = some v) (o : Obj) : (w.alloc o).cell? p = some v := by
 have hlt : p.block < w.heap.size := by
   unfold World.cell? at h
   split at h
   · exact heap_lt (by assumption)
   · cases h
 exact (World.cell?_alloc_old w o p (by omega)).trans h
theorem cell_drew {w : World} {p : Addr} {v : Value} (h : w.cell? p = some v) : w.drew.cell? p = some v := h
theorem belT {w W w' : World} (h : Below w.heap.size w W) (k : Below W.heap.size W w') : Below w.heap.size w w' := h.trans (k.mono h.size)
theorem node_any (hm : Tryz.prog.follows .mixedOrders = true) {w : World} (gw : GW w) {nilk nilv : Bool} {nk nv : Nat} {kf vf : Nat → Int} {vk vv : Value} {link : Int} (hk : DcR w cU (.rows nilk nk [.int .u64 kf]) vk) (hv : DcR w cU (.rows nilv nv [.int .u64 vf]) vv) (b1 : nk ≤ 100) (b2 : nv ≤ 100) :
   Calls Tryz.prog 180 #[vk, vv, .int .u64 link] w fun e w' => (rightN true nk kf nv = true ∧ e = .returned (ndV true vk vv link) ∧ Below w.heap.size w w') ∨ (rightN true nk kf nv = false ∧ e = .panicked [{ v := wrongV, recovered := false }] ∧ Below w.heap.size w w') := by
 cases ht : rightN true nk kf nv with
 | true => exact (node_t hm gw hk hv b1 b2 ht).mono fun e w' h => .inl ⟨rfl, h⟩
 | false => exact (node_f hm gw hk hv b1 b2 ht).mono fun e w' h => .inr ⟨rfl, h⟩
theorem with_d (hm : Tryz.prog.follows .mixedOrders = true) {w : World} (gw : GW w) {nil : Bool} {n a : Nat} {x : Int} {k : Nat → Int} {vk vx va : Value} (hk : DcR w cU (.rows nil n [.int .u64 k]) vk) (hx : DcR w cU (.rows false 1 [.int .u64 fun _ => x]) vx) (b1 : n ≤ 80) (b2 : a ≤ n) (e : va = .int .i64 (a : Int)) :
   Calls Tryz.prog 181 #[vk, va, vx] w fun e w' => ∃ p c, e = .returned (.slice p (n + 1) c) ∧ DcR w' cU (.rows false (n + 1) [.int .u64 (insI k a x)]) (.slice p (n + 1) c) ∧ Below w.heap.size w w' := by
 subst e
 refine (with_c hm gw hk hx b1 b2).mono ?_
 rintro e w' ⟨u, rfl, h, hb⟩
 obtain ⟨p, c, rfl⟩ := DcR_sl h
 exact ⟨_, _, rfl, h, hb⟩
set_option maxHeartbeats 4000000 in
theorem add1_b (hm : Tryz.prog.follows .mixedOrders = true) {w : World} (gw : GW w) {b0 b1 b2 b3 b4 : Nat} {nilk nilv : Bool} {nk nv : Nat} {kf vf : Nat → Int} {vk vv : Value} {link x y : Int} {j : Nat} {u0 u1 u2 u3 : Value} (hk : DcR w cU (.rows nilk nk [.int .u64 kf]) vk) (hv : DcR w cU (.rows nilv nv [.int .u64 vf]) vv) (h1 : nk ≤ 80) (h2 : nv ≤ 80)
   (c0 : w.cell? ⟨b0, 0, none⟩ = some (.bool true)) (c1 : w.cell? ⟨b0, 1, none⟩ = some vk) (c2 : w.cell? ⟨b0, 2, none⟩ = some vv) (c3 : w.cell? ⟨b0, 3, none⟩ = some (.int .u64 link)) (c4 : w.cell? ⟨b1, 0, none⟩ = some (.int .i64 ((j : Int) + 1))) (c5 : w.cell? ⟨b2, 0, none⟩ = some (.int .u64 x)) (c6 : w.cell? ⟨b3, 0, none⟩ = some (.int .u64 y))
   (c7 : w.heap[b4]? = some (.cells #[u0, u1, u2, u3] 27 (0, 0))) (ht : rightN true nk kf nv = true) (hj : j + 1 ≤ nv) :
   Calls Tryz.prog 177 #[.pointer (some ⟨b0, 0, none⟩), .pointer (some ⟨b1, 0, none⟩), .pointer (some ⟨b2, 0, none⟩), .pointer (some ⟨b3, 0, none⟩), .pointer (some ⟨b4, 0, none⟩)] w fun e w' =>
     (rightN true (nk + 1) (insI kf j x) (nv + 1) = true ∧ e = .returned (.tuple #[]) ∧ ∃ W p1 m1 k1 p2 m2 k2, Below w.heap.size w W ∧ w' = (((W.setCell ⟨b4, 0, none⟩ (.bool true)).setCell ⟨b4, 1, none⟩ (.slice p1 m1 k1)).setCell ⟨b4, 2, none⟩ (.slice p2 m2 k2)).setCell ⟨b4, 3, none⟩ (.int .u64 link)) ∨
     (rightN true (nk + 1) (insI kf j x) (nv + 1) = false ∧ e = .panicked [{ v := wrongV, recovered := false }] ∧ Below w.heap.size w w') := by
 obtain ⟨p1, k1, rfl⟩ := DcR_sl hk
 obtain ⟨p2, k2, rfl⟩ := DcR_sl hv
 have hj2 : j ≤ nk := by have := (rightN_t.1 ht).2.1; omega
 have t1 : decide (((j : Int) + 1) ≤ (nv : Int)) = true := decide_eq_true (by omega)
 have t2 : decide (((j : Int) + 1) ≥ 1) = true := decide_eq_true (by omega)
 have t3 : decide ((1 : Int) ≤ ((j : Int) + 1)) = true := decide_eq_true (by omega)
 have hw : IntKind.i64.wrap (j : Int) = j := wrap64 (by omega) (by omega)
 go_enter Tryz.func177, Tryz.ntmps177
 go_wp2_with (fail)
 refine (right_c hm gw hk hv (by omega) (by omega)).mono ?_
 rintro e w' ⟨rfl, hb⟩
 obtain ⟨E, n, rfl⟩ := below_ext hb
 have d1 := cell_ext c1 E n
 have d2 := cell_ext c2 E n
 have d3 := cell_ext c3 E n
 have d4 := cell_ext c4 E n
 have d5 := cell_ext c5 E n
 have d6 := cell_ext c6 E n
 have hL : nv < 9223372036854775808 := by omega
 rw [ht]
 simp only []
 go_wp2_with (fail)
 refine (must_t _).mono ?_
 rintro e w' ⟨rfl, rfl⟩
 simp only []
 go_wp2_with (fail)
 have hS : HeldTill [(15, fun w' => w'.cell? ⟨b0, 1, none⟩ = some (.slice p1 nk k1)), (15, fun w' => w'.cell? ⟨b1, 0, none⟩ = some (.int .i64 ((j : Int) + 1))), (15, fun w' => w'.cell? ⟨b2, 0, none⟩ = some (.int .u64 x)), (15, fun w' => w'.cell? ⟨b0, 2, none⟩ = some (.slice p2 nv k2)), (15, fun w' => w'.cell? ⟨b3, 0, none⟩ = some (.int .u64 y)), (15, fun w' => w'.cell? ⟨b0, 3, none⟩ = some (.int .u64 link))] (Array.replicate 17 false) (w.ext E n).drew := by
   intro x hx _
   simp only [List.mem_cons, List.not_mem_nil, or_false] at hx
   rcases hx with rfl | rfl | rfl | rfl | rfl | rfl
   · exact d1
   · exact d4
   · exact d5
   · exact d2
   · exact d6
   · exact d3
 refine wp_region_S [(15, fun w' => w'.cell? ⟨b0, 1, none⟩ = some (.slice p1 nk k1)), (15, fun w' => w'.cell? ⟨b1, 0, none⟩ = some (.int .i64 ((j : Int) + 1))), (15, fun w' => w'.cell? ⟨b2, 0, none⟩ = some (.int .u64 x)), (15, fun w' => w'.cell? ⟨b0, 2, none⟩ = some (.slice p2 nv k2)), (15, fun w' => w'.cell? ⟨b3, 0, none⟩ = some (.int .u64 y)), (15, fun w' => w'.cell? ⟨b0, 3, none⟩ = some (.int .u64 link))] (by kernel_rfl) ?_
 (refine wpAnyS_take (i := 0) (v := ?_) rfl (by kernel_rfl) (by kernel_rfl) (by kernel_rfl) (by kernel_rfl) (by kernel_rfl) (by kernel_rfl) (fun _ _ _ h => h) hS (Or.inl ⟨by kernel_rfl, ?_⟩) (fun hS1 => ?_); rotate_left; (focus (intro w _; go_simp; first | done | with_reducible rfl)); clear hS; have hS := hS1; clear hS1)
 (refine wpAnyS_load (i := 1) (c := 15) (T := fun w' => w'.cell? ⟨b0, 1, none⟩ = some (.slice p1 nk k1)) (v := ?_) rfl (by kernel_rfl) (by kernel_rfl) (by kernel_rfl) (by kernel_rfl) (by kernel_rfl) (by kernel_rfl) (by kernel_rfl) (by simp) (fun _ _ _ h => h) hS (Or.inl ⟨by kernel_rfl, ?_⟩) (fun hS1 => ?_); rotate_left; (focus (intro w hT; go_simp; first | done | with_reducible rfl)); clear hS; have hS := hS1; clear hS1)
 (refine wpAnyS_load (i := 2) (c := 15) (T := fun w' => w'.cell? ⟨b1, 0, none⟩ = some (.int .i64 ((j : Int) + 1))) (v := ?_) rfl (by kernel_rfl) (by kernel_rfl) (by kernel_rfl) (by kernel_rfl) (by kernel_rfl) (by kernel_rfl) (by kernel_rfl) (by simp) (fun _ _ _ h => h) hS (Or.inl ⟨by kernel_rfl, ?_⟩) (fun hS1 => ?_); rotate_left; (focus (intro w hT; go_simp; first | done | with_reducible rfl)); clear hS; have hS := hS1; clear hS1)
 (refine wpAnyS_take (i := 3) (v := ?_) rfl (by kernel_rfl) (by kernel_rfl) (by kernel_rfl) (by kernel_rfl) (by kernel_rfl) (by kernel_rfl) (fun _ _ _ h => h) hS (Or.inl ⟨by kernel_rfl, ?_⟩) (fun hS1 => ?_); rotate_left; (focus (intro w _; go_simp; first | done | with_reducible rfl)); clear hS; have hS := hS1; clear hS1)
 (refine wpAnyS_load (i := 4) (c := 15) (T := fun w' => w'.cell? ⟨b2, 0, none⟩ = some (.int .u64 x)) (v := ?_) rfl (by kernel_rfl) (by kernel_rfl) (by kernel_rfl) (by kernel_rfl) (by kernel_rfl) (by kernel_rfl) (by kernel_rfl) (by simp) (fun _ _ _ h => h) hS (Or.inl ⟨by kernel_rfl, ?_⟩) (fun hS1 => ?_); rotate_left; (focus (intro w hT; go_simp; first | done | with_reducible rfl)); clear hS; have hS := hS1; clear hS1)
 (refine wpAnyS_take (i := 7) (v := ?_) rfl (by kernel_rfl) (by kernel_rfl) (by kernel_rfl) (by kernel_rfl) (by kernel_rfl) (by kernel_rfl) (fun _ _ _ h => h) hS (Or.inl ⟨by kernel_rfl, ?_⟩) (fun hS1 => ?_); rotate_left; (focus (intro w _; go_simp; first | done | with_reducible rfl)); clear hS; have hS := hS1; clear hS1)
 (refine wpAnyS_load (i := 8) (c := 15) (T := fun w' => w'.cell? ⟨b0, 2, none⟩ = some (.slice p2 nv k2)) (v := ?_) rfl (by kernel_rfl) (by kernel_rfl) (by kernel_rfl) (by kernel_rfl) (by kernel_rfl) (by kernel_rfl) (by kernel_rfl) (by simp) (fun _ _ _ h => h) hS (Or.inl ⟨by kernel_rfl, ?_⟩) (fun hS1 => ?_); rotate_left; (focus (intro w hT; go_simp; first | done | with_reducible rfl)); clear hS; have hS := hS1; clear hS1)
 (refine wpAnyS_load (i := 9) (c := 15) (T := fun w' => w'.cell? ⟨b1, 0, none⟩ = some (.int .i64 ((j : Int) + 1))) (v := ?_) rfl (by kernel_rfl) (by kernel_rfl) (by kernel_rfl) (by kernel_rfl) (by kernel_rfl) (by kernel_rfl) (by kernel_rfl) (by simp) (fun _ _ _ h => h) hS (Or.inl ⟨by kernel_rfl, ?_⟩) (fun hS1 => ?_); rotate_left; (focus (intro w hT; go_simp; first | done | with_reducible rfl)); clear hS; have hS := hS1; clear hS1)
 (refine wpAnyS_load (i := 10) (c := 15) (T := fun w' => w'.cell? ⟨b3, 0, none⟩ = some (.int .u64 y)) (v := ?_) rfl (by kernel_rfl) (by kernel_rfl) (by kernel_rfl) (by kernel_rfl) (by kernel_rfl) (by kernel_rfl) (by kernel_rfl) (by simp) (fun _ _ _ h => h) hS (Or.inl ⟨by kernel_rfl, ?_⟩) (fun hS1 => ?_); rotate_left; (focus (intro w hT; go_simp; first | done | with_reducible rfl)); clear hS; have hS := hS1; clear hS1)
 (refine wpAnyS_take (i := 13) (v := ?_) rfl (by kernel_rfl) (by kernel_rfl) (by kernel_rfl) (by kernel_rfl) (by kernel_rfl) (by kernel_rfl) (fun _ _ _ h => h) hS (Or.inl ⟨by kernel_rfl, ?_⟩) (fun hS1 => ?_); rotate_left; (focus (intro w _; go_simp; first | done | with_reducible rfl)); clear hS; have hS := hS1; clear hS1)
 (refine wpAnyS_load (i := 14) (c := 15) (T := fun w' => w'.cell? ⟨b0, 3, none⟩ = some (.int .u64 link)) (v := ?_) rfl (by kernel_rfl) (by kernel_rfl) (by kernel_rfl) (by kernel_rfl) (by kernel_rfl) (by kernel_rfl) (by kernel_rfl) (by simp) (fun _ _ _ h => h) hS (Or.inl ⟨by kernel_rfl, ?_⟩) (fun hS1 => ?_); rotate_left; (focus (intro w hT; go_simp; first | done | with_reducible rfl)); clear hS; have hS := hS1; clear hS1)
 refine wpAnyS_ready (rs := [5, 11]) (by kernel_rfl) (by simp) ?_
 refine AllReadyS.cons rfl (fun K hK => ?_) (AllReadyS.cons rfl (fun K hK => ?_) AllReadyS.nil)
 · go_simp
   refine hK.out _ _ ?_ (fun hS1 => ?_)
   · clear hK hS; (intro x hx hl; simp only [List.mem_cons, List.not_mem_nil, or_false] at hx; rcases hx with rfl | rfl | rfl | rfl | rfl | rfl; all_goals (first | exact Bool.noConfusion (show true = false from hl) | (show World.cell? _ _ = _; (repeat' (first | assumption | refine cell_ext ?_ _ _ | refine cell_alloc ?_ _ | refine cell_drew ?_)); done) | (show World.cell? _ _ = _; go_simp; done) | (refine ⟨?_, ?_, ?_, ?_, ?_⟩ <;> (show World.cell? _ _ = _; go_simp; done)) | (refine ⟨?_, ?_, ?_⟩ <;> (show World.cell? _ _ = _; go_simp; done))))
   clear hK K hS
   have hS := hS1
   clear hS1
   refine wpAnyS_ready (rs := [6, 11]) (by kernel_rfl) (by simp) ?_
   refine AllReadyS.cons rfl (fun K hK => ?_) (AllReadyS.cons rfl (fun K hK => ?_) AllReadyS.nil)
   · go_simp
     ((with_reducible refine (with_d hm (gw_bel gw (by ((repeat' (first | exact Below.refl _ _ | assumption | (refine Below_alloc ?_ ?_ _) | (refine Below_ext ?_ ?_ _ _) | (refine Below_setCell ?_ _ _ _ ?_) | apply Below.drew | refine Below_drewN ?_ _)) <;> first | done | (simp; done) | (simp; omega)))) (x := x) (DcR_below hk (by ((repeat' (first | exact Below.refl _ _ | assumption | (refine Below_alloc ?_ ?_ _) | (refine Below_ext ?_ ?_ _ _) | (refine Below_setCell ?_ _ _ _ ?_) | apply Below.drew | refine Below_drewN ?_ _)) <;> first | done | (simp; done) | (simp; omega)))) ?_ h1 (a := j) (by omega) (by first | rfl | (simp; done) | (simp (disch := omega) only [wrap64]; done) | (congr 1; omega))).mono ?_))
     · exact rowx (by repeat' (first | assumption | (refine ha_new _ _ ?_; (first | rfl | (simp; done))) | refine ha_old ?_ | refine ha_ext _ _ ?_))
     rintro e w6 ⟨p6, k6, rfl, hR6, hb6⟩
     obtain ⟨E6, n6, rfl⟩ := below_ext hb6
     have HR6 := Lib.hid hR6
     clear hR6 hb6
     simp only []
     refine hK.out _ _ ?_ (fun hS1 => ?_)
     · clear hK hS; (intro x hx hl; simp only [List.mem_cons, List.not_mem_nil, or_false] at hx; rcases hx with rfl | rfl | rfl | rfl | rfl | rfl; all_goals (first | exact Bool.noConfusion (show true = false from hl) | (show World.cell? _ _ = _; (repeat' (first | assumption | refine cell_ext ?_ _ _ | refine cell_alloc ?_ _ | refine cell_drew ?_)); done) | (show World.cell? _ _ = _; go_simp; done) | (refine ⟨?_, ?_, ?_, ?_, ?_⟩ <;> (show World.cell? _ _ = _; go_simp; done)) | (refine ⟨?_, ?_, ?_⟩ <;> (show World.cell? _ _ = _; go_simp; done))))
     clear hK K hS
     have hS := hS1
     clear hS1
     refine wpAnyS_ready (rs := [11]) (by kernel_rfl) (by simp) ?_
     refine AllReadyS.cons rfl (fun K hK => ?_) AllReadyS.nil
     go_simp
     refine hK.out _ _ ?_ (fun hS1 => ?_)
     · clear hK hS; (intro x hx hl; simp only [List.mem_cons, List.not_mem_nil, or_false] at hx; rcases hx with rfl | rfl | rfl | rfl | rfl | rfl; all_goals (first | exact Bool.noConfusion (show true = false from hl) | (show World.cell? _ _ = _; (repeat' (first | assumption | refine cell_ext ?_ _ _ | refine cell_alloc ?_ _ | refine cell_drew ?_)); done) | (show World.cell? _ _ = _; go_simp; done) | (refine ⟨?_, ?_, ?_, ?_, ?_⟩ <;> (show World.cell? _ _ = _; go_simp; done)) | (refine ⟨?_, ?_, ?_⟩ <;> (show World.cell? _ _ = _; go_simp; done))))
     clear hK K hS
     have hS := hS1
     clear hS1
     refine wpAnyS_ready (rs := [12]) (by kernel_rfl) (by simp) ?_
     refine AllReadyS.cons rfl (fun K hK => ?_) AllReadyS.nil
     go_simp
     ((with_reducible refine (with_d hm (gw_bel gw (by ((repeat' (first | exact Below.refl _ _ | assumption | (refine Below_alloc ?_ ?_ _) | (refine Below_ext ?_ ?_ _ _) | (refine Below_setCell ?_ _ _ _ ?_) | apply Below.drew | refine Below_drewN ?_ _)) <;> first | done | (simp; done) | (simp; omega)))) (x := y) (DcR_below hv (by ((repeat' (first | exact Below.refl _ _ | assumption | (refine Below_alloc ?_ ?_ _) | (refine Below_ext ?_ ?_ _ _) | (refine Below_setCell ?_ _ _ _ ?_) | apply Below.drew | refine Below_drewN ?_ _)) <;> first | done | (simp; done) | (simp; omega)))) ?_ h2 (a := j + 1) (by omega) (by exact congrArg (Value.int .i64) (by omega))).mono ?_))
     · exact rowx (by repeat' (first | assumption | (refine ha_new _ _ ?_; (first | rfl | (simp; done))) | refine ha_old ?_ | refine ha_ext _ _ ?_))
     rintro e w12 ⟨p12, k12, rfl, hR12, hb12⟩
     obtain ⟨E12, n12, rfl⟩ := below_ext hb12
     have HR12 := Lib.hid hR12
     clear hR12 hb12
     simp only []
     refine hK.out _ _ ?_ (fun hS1 => ?_)
     · clear hK hS; (intro x hx hl; simp only [List.mem_cons, List.not_mem_nil, or_false] at hx; rcases hx with rfl | rfl | rfl | rfl | rfl | rfl; all_goals (first | exact Bool.noConfusion (show true = false from hl) | (show World.cell? _ _ = _; (repeat' (first | assumption | refine cell_ext ?_ _ _ | refine cell_alloc ?_ _ | refine cell_drew ?_)); done) | (show World.cell? _ _ = _; go_simp; done) | (refine ⟨?_, ?_, ?_, ?_, ?_⟩ <;> (show World.cell? _ _ = _; go_simp; done)) | (refine ⟨?_, ?_, ?_⟩ <;> (show World.cell? _ _ = _; go_simp; done))))
     clear hK K hS
     have hS := hS1
     clear hS1
     refine wpAnyS_ready (rs := [15]) (by kernel_rfl) (by simp) ?_
     refine AllReadyS.cons rfl (fun K hK => ?_) AllReadyS.nil
     go_simp
     ((with_reducible refine (node_any hm (link := link) (gw_bel gw ?_) (DcR_below HR6.out ?_) (DcR_below HR12.out ?_) (by omega) (by omega)).mono ?_))
     · exact (by ((repeat' (first | exact Below.refl _ _ | assumption | (refine Below_alloc ?_ ?_ _) | (refine Below_ext ?_ ?_ _ _) | (refine Below_setCell ?_ _ _ _ ?_) | apply Below.drew | refine Below_drewN ?_ _)) <;> first | done | (simp; done) | (simp; omega)))
     · exact (by ((repeat' (first | exact Below.refl _ _ | assumption | (refine Below_alloc ?_ ?_ _) | (refine Below_ext ?_ ?_ _ _) | (refine Below_setCell ?_ _ _ _ ?_) | apply Below.drew | refine Below_drewN ?_ _)) <;> first | done | (simp; done) | (simp; omega)))
     · exact (by ((repeat' (first | exact Below.refl _ _ | assumption | (refine Below_alloc ?_ ?_ _) | (refine Below_ext ?_ ?_ _ _) | (refine Below_setCell ?_ _ _ _ ?_) | apply Below.drew | refine Below_drewN ?_ _)) <;> first | done | (simp; done) | (simp; omega)))
     intro e w15 hh
     have hB : Below w.heap.size w w15 := by
       refine belT ?_ (hh.elim (fun q => q.2.2) (fun q => q.2.2))
       exact (by ((repeat' (first | exact Below.refl _ _ | assumption | (refine Below_alloc ?_ ?_ _) | (refine Below_ext ?_ ?_ _ _) | (refine Below_setCell ?_ _ _ _ ?_) | apply Below.drew | refine Below_drewN ?_ _)) <;> first | done | (simp; done) | (simp; omega)))
     rcases hh with ⟨hr, rfl, -⟩ | ⟨hr, rfl, -⟩
     case inr => exact ⟨rfl, .inr ⟨hr, rfl, hB⟩⟩
     have q := (hB.block b4 (heap_lt c7)).trans c7
     have q0 : w15.cell? ⟨b4, 0, none⟩ = some u0 := by simp [World.cell?, q]
     have q1 : w15.cell? ⟨b4, 1, none⟩ = some u1 := by simp [World.cell?, q]
     have q2 : w15.cell? ⟨b4, 2, none⟩ = some u2 := by simp [World.cell?, q]
     have q3 : w15.cell? ⟨b4, 3, none⟩ = some u3 := by simp [World.cell?, q]
     have z0 : w15.frozen? ⟨b4, 0, none⟩ = false := by simp [World.frozen?, q]
     have z1 : w15.frozen? ⟨b4, 1, none⟩ = false := by simp [World.frozen?, q]
     have z2 : w15.frozen? ⟨b4, 2, none⟩ = false := by simp [World.frozen?, q]
     have z3 : w15.frozen? ⟨b4, 3, none⟩ = false := by simp [World.frozen?, q]
     clear q
     simp only []
     refine hK.out _ _ ?_ (fun hS1 => ?_)
     · clear hK hS; (intro x hx hl; simp only [List.mem_cons, List.not_mem_nil, or_false] at hx; rcases hx with rfl | rfl | rfl | rfl | rfl | rfl; all_goals (first | exact Bool.noConfusion (show true = false from hl) | (show World.cell? _ _ = _; (repeat' (first | assumption | refine cell_ext ?_ _ _ | refine cell_alloc ?_ _ | refine cell_drew ?_)); done) | (show World.cell? _ _ = _; go_simp; done) | (refine ⟨?_, ?_, ?_, ?_, ?_⟩ <;> (show World.cell? _ _ = _; go_simp; done)) | (refine ⟨?_, ?_, ?_⟩ <;> (show World.cell? _ _ = _; go_simp; done))))
     clear hK K hS
     have hS := hS1
     clear hS1
     refine wpAnyS_ready (rs := [16]) (by kernel_rfl) (by simp) ?_
     refine AllReadyS.cons rfl (fun K hK => ?_) AllReadyS.nil
     go_simp
     refine hK.out _ _ ?_ (fun hS1 => ?_)
     · clear hK hS; (intro x hx hl; simp only [List.mem_cons, List.not_mem_nil, or_false] at hx; rcases hx with rfl | rfl | rfl | rfl | rfl | rfl; all_goals (first | exact Bool.noConfusion (show true = false from hl) | (show World.cell? _ _ = _; (repeat' (first | assumption | refine cell_ext ?_ _ _ | refine cell_alloc ?_ _ | refine cell_drew ?_)); done) | (show World.cell? _ _ = _; go_simp; done) | (refine ⟨?_, ?_, ?_, ?_, ?_⟩ <;> (show World.cell? _ _ = _; go_simp; done)) | (refine ⟨?_, ?_, ?_⟩ <;> (show World.cell? _ _ = _; go_simp; done))))
     clear hK K hS
     have hS := hS1
     clear hS1
     refine wpAnyS_done (by kernel_rfl) ?_ _
     clear hS
     go_wp2_with (fail)
     go_end0
     exact .inl ⟨hr, rfl, w15, _, _, _, _, _, _, hB, rfl⟩
   · go_simp
     refine hK.out _ _ ?_ (fun hS1 => ?_)
     · clear hK hS; (intro x hx hl; simp only [List.mem_cons, List.not_mem_nil, or_false] at hx; rcases hx with rfl | rfl | rfl | rfl | rfl | rfl; all_goals (first | exact Bool.noConfusion (show true = false from hl) | (show World.cell? _ _ = _; (repeat' (first | assumption | refine cell_ext ?_ _ _ | refine cell_alloc ?_ _ | refine cell_drew ?_)); done) | (show World.cell? _ _ = _; go_simp; done) | (refine ⟨?_, ?_, ?_, ?_, ?_⟩ <;> (show World.cell? _ _ = _; go_simp; done)) | (refine ⟨?_, ?_, ?_⟩ <;> (show World.cell? _ _ = _; go_simp; done))))
     clear hK K hS
     have hS := hS1
     clear hS1
     refine wpAnyS_ready (rs := [6]) (by kernel_rfl) (by simp) ?_
     refine AllReadyS.cons rfl (fun K hK => ?_) AllReadyS.nil
     go_simp
     ((with_reducible refine (with_d hm (gw_bel gw (by ((repeat' (first | exact Below.refl _ _ | assumption | (refine Below_alloc ?_ ?_ _) | (refine Below_ext ?_ ?_ _ _) | (refine Below_setCell ?_ _ _ _ ?_) | apply Below.drew | refine Below_drewN ?_ _)) <;> first | done | (simp; done) | (simp; omega)))) (x := x) (DcR_below hk (by ((repeat' (first | exact Below.refl _ _ | assumption | (refine Below_alloc ?_ ?_ _) | (refine Below_ext ?_ ?_ _ _) | (refine Below_setCell ?_ _ _ _ ?_) | apply Below.drew | refine Below_drewN ?_ _)) <;> first | done | (simp; done) | (simp; omega)))) ?_ h1 (a := j) (by omega) (by first | rfl | (simp; done) | (simp (disch := omega) only [wrap64]; done) | (congr 1; omega))).mono ?_))
     · exact rowx (by repeat' (first | assumption | (refine ha_new _ _ ?_; (first | rfl | (simp; done))) | refine ha_old ?_ | refine ha_ext _ _ ?_))
     rintro e w6 ⟨p6, k6, rfl, hR6, hb6⟩
     obtain ⟨E6, n6, rfl⟩ := below_ext hb6
     have HR6 := Lib.hid hR6
     clear hR6 hb6
     simp only []
     refine hK.out _ _ ?_ (fun hS1 => ?_)
     · clear hK hS; (intro x hx hl; simp only [List.mem_cons, List.not_mem_nil, or_false] at hx; rcases hx with rfl | rfl | rfl | rfl | rfl | rfl; all_goals (first | exact Bool.noConfusion (show true = false from hl) | (show World.cell? _ _ = _; (repeat' (first | assumption | refine cell_ext ?_ _ _ | refine cell_alloc ?_ _ | refine cell_drew ?_)); done) | (show World.cell? _ _ = _; go_simp; done) | (refine ⟨?_, ?_, ?_, ?_, ?_⟩ <;> (show World.cell? _ _ = _; go_simp; done)) | (refine ⟨?_, ?_, ?_⟩ <;> (show World.cell? _ _ = _; go_simp; done))))
     clear hK K hS
     have hS := hS1
     clear hS1
     refine wpAnyS_ready (rs := [12]) (by kernel_rfl) (by simp) ?_
     refine AllReadyS.cons rfl (fun K hK => ?_) AllReadyS.nil
     go_simp
     ((with_reducible refine (with_d hm (gw_bel gw (by ((repeat' (first | exact Below.refl _ _ | assumption | (refine Below_alloc ?_ ?_ _) | (refine Below_ext ?_ ?_ _ _) | (refine Below_setCell ?_ _ _ _ ?_) | apply Below.drew | refine Below_drewN ?_ _)) <;> first | done | (simp; done) | (simp; omega)))) (x := y) (DcR_below hv (by ((repeat' (first | exact Below.refl _ _ | assumption | (refine Below_alloc ?_ ?_ _) | (refine Below_ext ?_ ?_ _ _) | (refine Below_setCell ?_ _ _ _ ?_) | apply Below.drew | refine Below_drewN ?_ _)) <;> first | done | (simp; done) | (simp; omega)))) ?_ h2 (a := j + 1) (by omega) (by exact congrArg (Value.int .i64) (by omega))).mono ?_))
     · exact rowx (by repeat' (first | assumption | (refine ha_new _ _ ?_; (first | rfl | (simp; done))) | refine ha_old ?_ | refine ha_ext _ _ ?_))
     rintro e w12 ⟨p12, k12, rfl, hR12, hb12⟩
     obtain ⟨E12, n12, rfl⟩ := below_ext hb12
     have HR12 := Lib.hid hR12
     clear hR12 hb12
     simp only []
     refine hK.out _ _ ?_ (fun hS1 => ?_)
     · clear hK hS; (intro x hx hl; simp only [List.mem_cons, List.not_mem_nil, or_false] at hx; rcases hx with rfl | rfl | rfl | rfl | rfl | rfl; all_goals (first | exact Bool.noConfusion (show true = false from hl) | (show World.cell? _ _ = _; (repeat' (first | assumption | refine cell_ext ?_ _ _ | refine cell_alloc ?_ _ | refine cell_drew ?_)); done) | (show World.cell? _ _ = _; go_simp; done) | (refine ⟨?_, ?_, ?_, ?_, ?_⟩ <;> (show World.cell? _ _ = _; go_simp; done)) | (refine ⟨?_, ?_, ?_⟩ <;> (show World.cell? _ _ = _; go_simp; done))))
     clear hK K hS
     have hS := hS1
     clear hS1
     refine wpAnyS_ready (rs := [15]) (by kernel_rfl) (by simp) ?_
     refine AllReadyS.cons rfl (fun K hK => ?_) AllReadyS.nil
     go_simp
     ((with_reducible refine (node_any hm (link := link) (gw_bel gw ?_) (DcR_below HR6.out ?_) (DcR_below HR12.out ?_) (by omega) (by omega)).mono ?_))
     · exact (by ((repeat' (first | exact Below.refl _ _ | assumption | (refine Below_alloc ?_ ?_ _) | (refine Below_ext ?_ ?_ _ _) | (refine Below_setCell ?_ _ _ _ ?_) | apply Below.drew | refine Below_drewN ?_ _)) <;> first | done | (simp; done) | (simp; omega)))
     · exact (by ((repeat' (first | exact Below.refl _ _ | assumption | (refine Below_alloc ?_ ?_ _) | (refine Below_ext ?_ ?_ _ _) | (refine Below_setCell ?_ _ _ _ ?_) | apply Below.drew | refine Below_drewN ?_ _)) <;> first | done | (simp; done) | (simp; omega)))
     · exact (by ((repeat' (first | exact Below.refl _ _ | assumption | (refine Below_alloc ?_ ?_ _) | (refine Below_ext ?_ ?_ _ _) | (refine Below_setCell ?_ _ _ _ ?_) | apply Below.drew | refine Below_drewN ?_ _)) <;> first | done | (simp; done) | (simp; omega)))
     intro e w15 hh
     have hB : Below w.heap.size w w15 := by
       refine belT ?_ (hh.elim (fun q => q.2.2) (fun q => q.2.2))
       exact (by ((repeat' (first | exact Below.refl _ _ | assumption | (refine Below_alloc ?_ ?_ _) | (refine Below_ext ?_ ?_ _ _) | (refine Below_setCell ?_ _ _ _ ?_) | apply Below.drew | refine Below_drewN ?_ _)) <;> first | done | (simp; done) | (simp; omega)))
     rcases hh with ⟨hr, rfl, -⟩ | ⟨hr, rfl, -⟩
     case inr => exact ⟨rfl, .inr ⟨hr, rfl, hB⟩⟩
     have q := (hB.block b4 (heap_lt c7)).trans c7
     have q0 : w15.cell? ⟨b4, 0, none⟩ = some u0 := by simp [World.cell?, q]
     have q1 : w15.cell? ⟨b4, 1, none⟩ = some u1 := by simp [World.cell?, q]
     have q2 : w15.cell? ⟨b4, 2, none⟩ = some u2 := by simp [World.cell?, q]
     have q3 : w15.cell? ⟨b4, 3, none⟩ = some u3 := by simp [World.cell?, q]
     have z0 : w15.frozen? ⟨b4, 0, none⟩ = false := by simp [World.frozen?, q]
     have z1 : w15.frozen? ⟨b4, 1, none⟩ = false := by simp [World.frozen?, q]
     have z2 : w15.frozen? ⟨b4, 2, none⟩ = false := by simp [World.frozen?, q]
     have z3 : w15.frozen? ⟨b4, 3, none⟩ = false := by simp [World.frozen?, q]
     clear q
     simp only []
     refine hK.out _ _ ?_ (fun hS1 => ?_)
     · clear hK hS; (intro x hx hl; simp only [List.mem_cons, List.not_mem_nil, or_false] at hx; rcases hx with rfl | rfl | rfl | rfl | rfl | rfl; all_goals (first | exact Bool.noConfusion (show true = false from hl) | (show World.cell? _ _ = _; (repeat' (first | assumption | refine cell_ext ?_ _ _ | refine cell_alloc ?_ _ | refine cell_drew ?_)); done) | (show World.cell? _ _ = _; go_simp; done) | (refine ⟨?_, ?_, ?_, ?_, ?_⟩ <;> (show World.cell? _ _ = _; go_simp; done)) | (refine ⟨?_, ?_, ?_⟩ <;> (show World.cell? _ _ = _; go_simp; done))))
     clear hK K hS
     have hS := hS1
     clear hS1
     refine wpAnyS_ready (rs := [16]) (by kernel_rfl) (by simp) ?_
     refine AllReadyS.cons rfl (fun K hK => ?_) AllReadyS.nil
     go_simp
     refine hK.out _ _ ?_ (fun hS1 => ?_)
     · clear hK hS; (intro x hx hl; simp only [List.mem_cons, List.not_mem_nil, or_false] at hx; rcases hx with rfl | rfl | rfl | rfl | rfl | rfl; all_goals (first | exact Bool.noConfusion (show true = false from hl) | (show World.cell? _ _ = _; (repeat' (first | assumption | refine cell_ext ?_ _ _ | refine cell_alloc ?_ _ | refine cell_drew ?_)); done) | (show World.cell? _ _ = _; go_simp; done) | (refine ⟨?_, ?_, ?_, ?_, ?_⟩ <;> (show World.cell? _ _ = _; go_simp; done)) | (refine ⟨?_, ?_, ?_⟩ <;> (show World.cell? _ _ = _; go_simp; done))))
     clear hK K hS
     have hS := hS1
     clear hS1
     refine wpAnyS_done (by kernel_rfl) ?_ _
     clear hS
     go_wp2_with (fail)
     go_end0
     exact .inl ⟨hr, rfl, w15, _, _, _, _, _, _, hB, rfl⟩
 · go_simp
   refine hK.out _ _ ?_ (fun hS1 => ?_)
   · clear hK hS; (intro x hx hl; simp only [List.mem_cons, List.not_mem_nil, or_false] at hx; rcases hx with rfl | rfl | rfl | rfl | rfl | rfl; all_goals (first | exact Bool.noConfusion (show true = false from hl) | (show World.cell? _ _ = _; (repeat' (first | assumption | refine cell_ext ?_ _ _ | refine cell_alloc ?_ _ | refine cell_drew ?_)); done) | (show World.cell? _ _ = _; go_simp; done) | (refine ⟨?_, ?_, ?_, ?_, ?_⟩ <;> (show World.cell? _ _ = _; go_simp; done)) | (refine ⟨?_, ?_, ?_⟩ <;> (show World.cell? _ _ = _; go_simp; done))))
   clear hK K hS
   have hS := hS1
   clear hS1
   refine wpAnyS_ready (rs := [5]) (by kernel_rfl) (by simp) ?_
   refine AllReadyS.cons rfl (fun K hK => ?_) AllReadyS.nil
   go_simp
   refine hK.out _ _ ?_ (fun hS1 => ?_)
   · clear hK hS; (intro x hx hl; simp only [List.mem_cons, List.not_mem_nil, or_false] at hx; rcases hx with rfl | rfl | rfl | rfl | rfl | rfl; all_goals (first | exact Bool.noConfusion (show true = false from hl) | (show World.cell? _ _ = _; (repeat' (first | assumption | refine cell_ext ?_ _ _ | refine cell_alloc ?_ _ | refine cell_drew ?_)); done) | (show World.cell? _ _ = _; go_simp; done) | (refine ⟨?_, ?_, ?_, ?_, ?_⟩ <;> (show World.cell? _ _ = _; go_simp; done)) | (refine ⟨?_, ?_, ?_⟩ <;> (show World.cell? _ _ = _; go_simp; done))))
   clear hK K hS
   have hS := hS1
   clear hS1
   refine wpAnyS_ready (rs := [6]) (by kernel_rfl) (by simp) ?_
   refine AllReadyS.cons rfl (fun K hK => ?_) AllReadyS.nil
   go_simp
   ((with_reducible refine (with_d hm (gw_bel gw (by ((repeat' (first | exact Below.refl _ _ | assumption | (refine Below_alloc ?_ ?_ _) | (refine Below_ext ?_ ?_ _ _) | (refine Below_setCell ?_ _ _ _ ?_) | apply Below.drew | refine Below_drewN ?_ _)) <;> first | done | (simp; done) | (simp; omega)))) (x := x) (DcR_below hk (by ((repeat' (first | exact Below.refl _ _ | assumption | (refine Below_alloc ?_ ?_ _) | (refine Below_ext ?_ ?_ _ _) | (refine Below_setCell ?_ _ _ _ ?_) | apply Below.drew | refine Below_drewN ?_ _)) <;> first | done | (simp; done) | (simp; omega)))) ?_ h1 (a := j) (by omega) (by first | rfl | (simp; done) | (simp (disch := omega) only [wrap64]; done) | (congr 1; omega))).mono ?_))
   · exact rowx (by repeat' (first | assumption | (refine ha_new _ _ ?_; (first | rfl | (simp; done))) | refine ha_old ?_ | refine ha_ext _ _ ?_))
   rintro e w6 ⟨p6, k6, rfl, hR6, hb6⟩
   obtain ⟨E6, n6, rfl⟩ := below_ext hb6
   have HR6 := Lib.hid hR6
   clear hR6 hb6
   simp only []
   refine hK.out _ _ ?_ (fun hS1 => ?_)
   · clear hK hS; (intro x hx hl; simp only [List.mem_cons, List.not_mem_nil, or_false] at hx; rcases hx with rfl | rfl | rfl | rfl | rfl | rfl; all_goals (first | exact Bool.noConfusion (show true = false from hl) | (show World.cell? _ _ = _; (repeat' (first | assumption | refine cell_ext ?_ _ _ | refine cell_alloc ?_ _ | refine cell_drew ?_)); done) | (show World.cell? _ _ = _; go_simp; done) | (refine ⟨?_, ?_, ?_, ?_, ?_⟩ <;> (show World.cell? _ _ = _; go_simp; done)) | (refine ⟨?_, ?_, ?_⟩ <;> (show World.cell? _ _ = _; go_simp; done))))
   clear hK K hS
   have hS := hS1
   clear hS1
   refine wpAnyS_ready (rs := [12]) (by kernel_rfl) (by simp) ?_
   refine AllReadyS.cons rfl (fun K hK => ?_) AllReadyS.nil
   go_simp
   ((with_reducible refine (with_d hm (gw_bel gw (by ((repeat' (first | exact Below.refl _ _ | assumption | (refine Below_alloc ?_ ?_ _) | (refine Below_ext ?_ ?_ _ _) | (refine Below_setCell ?_ _ _ _ ?_) | apply Below.drew | refine Below_drewN ?_ _)) <;> first | done | (simp; done) | (simp; omega)))) (x := y) (DcR_below hv (by ((repeat' (first | exact Below.refl _ _ | assumption | (refine Below_alloc ?_ ?_ _) | (refine Below_ext ?_ ?_ _ _) | (refine Below_setCell ?_ _ _ _ ?_) | apply Below.drew | refine Below_drewN ?_ _)) <;> first | done | (simp; done) | (simp; omega)))) ?_ h2 (a := j + 1) (by omega) (by exact congrArg (Value.int .i64) (by omega))).mono ?_))
   · exact rowx (by repeat' (first | assumption | (refine ha_new _ _ ?_; (first | rfl | (simp; done))) | refine ha_old ?_ | refine ha_ext _ _ ?_))
   rintro e w12 ⟨p12, k12, rfl, hR12, hb12⟩
   obtain ⟨E12, n12, rfl⟩ := below_ext hb12
   have HR12 := Lib.hid hR12
   clear hR12 hb12
   simp only []
   refine hK.out _ _ ?_ (fun hS1 => ?_)
   · clear hK hS; (intro x hx hl; simp only [List.mem_cons, List.not_mem_nil, or_false] at hx; rcases hx with rfl | rfl | rfl | rfl | rfl | rfl; all_goals (first | exact Bool.noConfusion (show true = false from hl) | (show World.cell? _ _ = _; (repeat' (first | assumption | refine cell_ext ?_ _ _ | refine cell_alloc ?_ _ | refine cell_drew ?_)); done) | (show World.cell? _ _ = _; go_simp; done) | (refine ⟨?_, ?_, ?_, ?_, ?_⟩ <;> (show World.cell? _ _ = _; go_simp; done)) | (refine ⟨?_, ?_, ?_⟩ <;> (show World.cell? _ _ = _; go_simp; done))))
   clear hK K hS
   have hS := hS1
   clear hS1
   refine wpAnyS_ready (rs := [15]) (by kernel_rfl) (by simp) ?_
   refine AllReadyS.cons rfl (fun K hK => ?_) AllReadyS.nil
   go_simp
   ((with_reducible refine (node_any hm (link := link) (gw_bel gw ?_) (DcR_below HR6.out ?_) (DcR_below HR12.out ?_) (by omega) (by omega)).mono ?_))
   · exact (by ((repeat' (first | exact Below.refl _ _ | assumption | (refine Below_alloc ?_ ?_ _) | (refine Below_ext ?_ ?_ _ _) | (refine Below_setCell ?_ _ _ _ ?_) | apply Below.drew | refine Below_drewN ?_ _)) <;> first | done | (simp; done) | (simp; omega)))
   · exact (by ((repeat' (first | exact Below.refl _ _ | assumption | (refine Below_alloc ?_ ?_ _) | (refine Below_ext ?_ ?_ _ _) | (refine Below_setCell ?_ _ _ _ ?_) | apply Below.drew | refine Below_drewN ?_ _)) <;> first | done | (simp; done) | (simp; omega)))
   · exact (by ((repeat' (first | exact Below.refl _ _ | assumption | (refine Below_alloc ?_ ?_ _) | (refine Below_ext ?_ ?_ _ _) | (refine Below_setCell ?_ _ _ _ ?_) | apply Below.drew | refine Below_drewN ?_ _)) <;> first | done | (simp; done) | (simp; omega)))
   intro e w15 hh
   have hB : Below w.heap.size w w15 := by
     refine belT ?_ (hh.elim (fun q => q.2.2) (fun q => q.2.2))
     exact (by ((repeat' (first | exact Below.refl _ _ | assumption | (refine Below_alloc ?_ ?_ _) | (refine Below_ext ?_ ?_ _ _) | (refine Below_setCell ?_ _ _ _ ?_) | apply Below.drew | refine Below_drewN ?_ _)) <;> first | done | (simp; done) | (simp; omega)))
   rcases hh with ⟨hr, rfl, -⟩ | ⟨hr, rfl, -⟩
   case inr => exact ⟨rfl, .inr ⟨hr, rfl, hB⟩⟩
   have q := (hB.block b4 (heap_lt c7)).trans c7
   have q0 : w15.cell? ⟨b4, 0, none⟩ = some u0 := by simp [World.cell?, q]
   have q1 : w15.cell? ⟨b4, 1, none⟩ = some u1 := by simp [World.cell?, q]
   have q2 : w15.cell? ⟨b4, 2, none⟩ = some u2 := by simp [World.cell?, q]
   have q3 : w15.cell? ⟨b4, 3, none⟩ = some u3 := by simp [World.cell?, q]
   have z0 : w15.frozen? ⟨b4, 0, none⟩ = false := by simp [World.frozen?, q]
   have z1 : w15.frozen? ⟨b4, 1, none⟩ = false := by simp [World.frozen?, q]
   have z2 : w15.frozen? ⟨b4, 2, none⟩ = false := by simp [World.frozen?, q]
   have z3 : w15.frozen? ⟨b4, 3, none⟩ = false := by simp [World.frozen?, q]
   clear q
   simp only []
   refine hK.out _ _ ?_ (fun hS1 => ?_)
   · clear hK hS; (intro x hx hl; simp only [List.mem_cons, List.not_mem_nil, or_false] at hx; rcases hx with rfl | rfl | rfl | rfl | rfl | rfl; all_goals (first | exact Bool.noConfusion (show true = false from hl) | (show World.cell? _ _ = _; (repeat' (first | assumption | refine cell_ext ?_ _ _ | refine cell_alloc ?_ _ | refine cell_drew ?_)); done) | (show World.cell? _ _ = _; go_simp; done) | (refine ⟨?_, ?_, ?_, ?_, ?_⟩ <;> (show World.cell? _ _ = _; go_simp; done)) | (refine ⟨?_, ?_, ?_⟩ <;> (show World.cell? _ _ = _; go_simp; done))))
   clear hK K hS
   have hS := hS1
   clear hS1
   refine wpAnyS_ready (rs := [16]) (by kernel_rfl) (by simp) ?_
   refine AllReadyS.cons rfl (fun K hK => ?_) AllReadyS.nil
   go_simp
   refine hK.out _ _ ?_ (fun hS1 => ?_)
   · clear hK hS; (intro x hx hl; simp only [List.mem_cons, List.not_mem_nil, or_false] at hx; rcases hx with rfl | rfl | rfl | rfl | rfl | rfl; all_goals (first | exact Bool.noConfusion (show true = false from hl) | (show World.cell? _ _ = _; (repeat' (first | assumption | refine cell_ext ?_ _ _ | refine cell_alloc ?_ _ | refine cell_drew ?_)); done) | (show World.cell? _ _ = _; go_simp; done) | (refine ⟨?_, ?_, ?_, ?_, ?_⟩ <;> (show World.cell? _ _ = _; go_simp; done)) | (refine ⟨?_, ?_, ?_⟩ <;> (show World.cell? _ _ = _; go_simp; done))))
   clear hK K hS
   have hS := hS1
   clear hS1
   refine wpAnyS_done (by kernel_rfl) ?_ _
   clear hS
   go_wp2_with (fail)
   go_end0
   exact .inl ⟨hr, rfl, w15, _, _, _, _, _, _, hB, rfl⟩
end Go.Proofs.YtjhbimdaeofdlaaGreatDoor.Ex
end
section
namespace Go.Proofs.YtjhbimdaeofdlaaGreatDoor.Ex
open Go Go.RowKit
structure BelX (b : Nat) (w w' : World) : Prop where
 os : w'.os = w.os
 tape : w'.tape = w.tape
 output : w'.output = w.output
 size : w.heap.size ≤ w'.heap.size
 block : ∀ k, k < w.heap.size → k ≠ b → w'.heap[k]? = w.heap[k]?
theorem BelX.of {b : Nat} {w w' : World} (h : Below w.heap.size w w') : BelX b w w' := ⟨h.os, h.tape, h.output, h.size, fun k hk _ => h.block k hk⟩
theorem BelX.alloc {b : Nat} {w w' : World} (h : BelX b w w') (o : Obj) : BelX b w (w'.alloc o) :=
 ⟨h.os, h.tape, h.output, by have := h.size; simp; omega, fun k hk hb => (Below.heap_alloc _ _ _ (by have := h.size; omega)).trans (h.block k hk hb)⟩
theorem BelX.set {b : Nat} {w w' : World} (h : BelX b w w') (k o : Nat) (v : Value) (hk : k = b ∨ w.heap.size ≤ k) : BelX b w (w'.setCell ⟨k, o, none⟩ v) :=
 ⟨h.os, h.tape, h.output, by have := h.size; simp [World.setCell]; omega, fun i hi hb => (Below.heap_setCell _ _ _ _ (by show i ≠ k; omega)).trans (h.block i hi hb)⟩
theorem BelX.td {b : Nat} {w w' : World} (h : BelX b (tdW w) w') : BelX b w w' :=
 ⟨h.os, h.tape, h.output, by have := h.size; simp at this; omega, fun k hk hb => (h.block k (by simp; omega) hb).trans (Below.heap_alloc _ _ _ hk)⟩
theorem cells_set {W : World} {b : Nat} {cs : Array Value} {t : TypeId} {fr : Nat × Nat} (h : W.heap[b]? = some (.cells cs t fr)) (o : Nat) (v : Value) : (W.setCell ⟨b, o, none⟩ v).heap[b]? = some (.cells (cs.setIfInBounds o v) t fr) := by
 simp [World.setCell, Array.getElem?_modify, h]
theorem at5 (w : World) (o0 o1 o2 o3 o4 : Obj) : Below w.heap.size w (((((w.alloc o0).alloc o1).alloc o2).alloc o3).alloc o4) := (((((Below.refl _ w).alloc (Nat.le_refl _) o0).alloc (by simp) o1).alloc (by simp; omega) o2).alloc (by simp; omega) o3).alloc (by simp; omega) o4
theorem cell_at {W : World} {b o : Nat} {cs : Array Value} {t : TypeId} {fr : Nat × Nat} {v : Value} (h : W.heap[b]? = some (.cells cs t fr)) (hv : cs[o]? = some v) : W.cell? ⟨b, o, none⟩ = some v := by
 simp [World.cell?, h, hv]
theorem frozen_at {W : World} {b o : Nat} {cs : Array Value} {t : TypeId} (h : W.heap[b]? = some (.cells cs t (0, 0))) : W.frozen? ⟨b, o, none⟩ = false := by
 simp [World.frozen?, h]
def addOk (inner : Bool) (nk : Nat) (kf : Nat → Int) (nv : Nat) (a x : Int) : Bool := decide (rightN inner nk kf nv = true ∧ 1 ≤ a ∧ a ≤ nv ∧ rightN true (nk + 1) (insI kf (a - 1).toNat x) (nv + 1) = true)
theorem tried_add (hm : Tryz.prog.follows .mixedOrders = true) {W : World} (gw : GW W) {b0 b1 b2 b3 b4 : Nat} {inner nilk nilv : Bool} {nk nv : Nat} {kf vf : Nat → Int} {vk vv : Value} {link a x y : Int} (hk : DcR W cU (.rows nilk nk [.int .u64 kf]) vk) (hv : DcR W cU (.rows nilv nv [.int .u64 vf]) vv) (h1 : nk ≤ 80) (h2 : nv ≤ 80)
   (c0 : W.cell? ⟨b0, 0, none⟩ = some (.bool inner)) (c1 : W.cell? ⟨b0, 1, none⟩ = some vk) (c2 : W.cell? ⟨b0, 2, none⟩ = some vv) (c3 : W.cell? ⟨b0, 3, none⟩ = some (.int .u64 link)) (c4 : W.cell? ⟨b1, 0, none⟩ = some (.int .i64 a)) (c5 : W.cell? ⟨b2, 0, none⟩ = some (.int .u64 x)) (c6 : W.cell? ⟨b3, 0, none⟩ = some (.int .u64 y))
   (c7 : W.heap[b4]? = some (.cells #[.bool false, .slice none 0 0, .slice none 0 0, .int .u64 0] 27 (0, 0))) :
   Calls Tryz.prog 176 #[.func (.func 177) #[] #[.pointer (some ⟨b0, 0, none⟩), .pointer (some ⟨b1, 0, none⟩), .pointer (some ⟨b2, 0, none⟩), .pointer (some ⟨b3, 0, none⟩), .pointer (some ⟨b4, 0, none⟩)]] W fun e w' =>
     e = .returned (.bool (addOk inner nk kf nv a x)) ∧ (∃ z0 p1 m1 k1 p2 m2 k2 z3, w'.heap[b4]? = some (.cells #[.bool z0, .slice p1 m1 k1, .slice p2 m2 k2, .int .u64 z3] 27 (0, 0))) ∧ BelX b4 W w' := by
 have tdB : Below W.heap.size W (tdW W) := (Below.refl _ W).alloc (Nat.le_refl _) _
 have lt4 := heap_lt c7
 have e4 : (tdW W).heap[b4]? = some (.cells #[.bool false, .slice none 0 0, .slice none 0 0, .int .u64 0] 27 (0, 0)) := ha_old c7
 have hnew : (tdW W).heap[W.heap.size]? = some (.cells #[.bool false] 4 (0, 0)) := heap_alloc_new W _
 have hsz : (tdW W).heap.size = W.heap.size + 1 := by simp [tdW]
 have hrun : (callFunc 177 #[.pointer (some ⟨b0, 0, none⟩), .pointer (some ⟨b1, 0, none⟩), .pointer (some ⟨b2, 0, none⟩), .pointer (some ⟨b3, 0, none⟩), .pointer (some ⟨b4, 0, none⟩)]).run Tryz.prog (tdW W) = .ok (.enter 177 #[.pointer (some ⟨b0, 0, none⟩), .pointer (some ⟨b1, 0, none⟩), .pointer (some ⟨b2, 0, none⟩), .pointer (some ⟨b3, 0, none⟩), .pointer (some ⟨b4, 0, none⟩)]) (tdW W) := by kernel_rfl
 have bad : ∀ w1 : World, Below (tdW W).heap.size (tdW W) w1 → (∃ z0 p1 m1 k1 p2 m2 k2 z3, ((w1.alloc (.cells #[] 221)).setCell ⟨W.heap.size, 0, none⟩ (.bool false)).heap[b4]? = some (.cells #[.bool z0, .slice p1 m1 k1, .slice p2 m2 k2, .int .u64 z3] 27 (0, 0))) ∧ BelX b4 W ((w1.alloc (.cells #[] 221)).setCell ⟨W.heap.size, 0, none⟩ (.bool false)) := fun w1 hb => by
   refine ⟨⟨false, none, 0, 0, none, 0, 0, 0, ?_⟩, (((BelX.of hb).td).alloc _).set _ _ _ (.inr (Nat.le_refl _))⟩
   rw [Below.heap_setCell _ _ _ _ (by show b4 ≠ W.heap.size; omega)]
   exact ha_old ((hb.block b4 (by omega)).trans e4)
 by_cases hA : rightN inner nk kf nv = true ∧ 1 ≤ a ∧ a ≤ nv
 · obtain ⟨q, q1, q2⟩ := hA
   obtain rfl : inner = true := (rightN_t.1 q).1
   obtain ⟨j, rfl⟩ : ∃ j : Nat, a = (j : Int) + 1 := ⟨(a - 1).toNat, by omega⟩
   have ej : ((j : Int) + 1 - 1).toNat = j := by omega
   have H := add1_b hm (gw_bel gw tdB) (b0 := b0) (b1 := b1) (b2 := b2) (b3 := b3) (b4 := b4) (DcR_below hk tdB) (DcR_below hv tdB) h1 h2 (cell_alloc c0 _) (cell_alloc c1 _) (cell_alloc c2 _) (cell_alloc c3 _) (cell_alloc c4 _) (cell_alloc c5 _) (cell_alloc c6 _) e4 q (by omega)
   cases hr : rightN true (nk + 1) (insI kf j x) (nv + 1) with
   | false =>
     have eo : addOk true nk kf nv ((j : Int) + 1) x = false := by
       unfold addOk; rw [ej, hr]; simp
     rw [eo]
     refine (tried_wrong (R := fun w1 => Below (tdW W).heap.size (tdW W) w1) hrun (H.mono ?_)).mono ?_
     · rintro e w1 (⟨h, _⟩ | ⟨_, he, hb⟩)
       · rw [hr] at h; cases h
       · exact ⟨he, (hb.block _ (by omega)).trans hnew, hb⟩
     · rintro e w' ⟨w1, hb, he, rfl⟩
       exact ⟨he, bad w1 hb⟩
   | true =>
     have eo : addOk true nk kf nv ((j : Int) + 1) x = true := by
       unfold addOk; rw [ej, hr, q]; simp; omega
     rw [eo]
     refine (tried_ret (R := fun w1 => (∃ z0 p1 m1 k1 p2 m2 k2 z3, w1.heap[b4]? = some (.cells #[.bool z0, .slice p1 m1 k1, .slice p2 m2 k2, .int .u64 z3] 27 (0, 0))) ∧ BelX b4 (tdW W) w1) hrun (H.mono ?_)).mono ?_
     · rintro e w1 (⟨_, he, U, p1, m1, k1, p2, m2, k2, hb, rfl⟩ | ⟨h, _⟩)
       · have f0 := (hb.block b4 (by omega)).trans e4
         have f1 := cells_set (cells_set (cells_set (cells_set f0 0 (.bool true)) 1 (.slice p1 m1 k1)) 2 (.slice p2 m2 k2)) 3 (.int .u64 link)
         have bx : BelX b4 (tdW W) ((((U.setCell ⟨b4, 0, none⟩ (.bool true)).setCell ⟨b4, 1, none⟩ (.slice p1 m1 k1)).setCell ⟨b4, 2, none⟩ (.slice p2 m2 k2)).setCell ⟨b4, 3, none⟩ (.int .u64 link)) := ((((BelX.of hb).set _ _ _ (.inl rfl)).set _ _ _ (.inl rfl)).set _ _ _ (.inl rfl)).set _ _ _ (.inl rfl)
         exact ⟨he, (bx.block _ (by omega) (by omega)).trans hnew, ⟨_, _, _, _, _, _, _, _, f1⟩, bx⟩
       · rw [hr] at h; cases h
     · rintro e w' ⟨w1, ⟨⟨z0, p1, m1, k1, p2, m2, k2, z3, hz⟩, bx⟩, he, rfl⟩
       refine ⟨he, ⟨z0, p1, m1, k1, p2, m2, k2, z3, ?_⟩, bx.td.set _ _ _ (.inr (Nat.le_refl _))⟩
       rw [Below.heap_setCell _ _ _ _ (by show b4 ≠ W.heap.size; omega)]
       exact hz
 · have eo : addOk inner nk kf nv a x = false := by
     unfold addOk
     exact decide_eq_false (fun ⟨q, q1, q2, _⟩ => hA ⟨q, q1, q2⟩)
   rw [eo]
   have H := add1_a hm (gw_bel gw tdB) (b0 := b0) (b1 := b1) (b2 := b2) (b3 := b3) (b4 := b4) (DcR_below hk tdB) (DcR_below hv tdB) (by omega) (by omega) (cell_alloc c0 _) (cell_alloc c1 _) (cell_alloc c2 _) (cell_alloc c3 _) (cell_alloc c4 _) hA
   refine (tried_wrong (R := fun w1 => Below (tdW W).heap.size (tdW W) w1) hrun (H.mono ?_)).mono ?_
   · rintro e w1 ⟨he, hb⟩
     exact ⟨he, (hb.block _ (by omega)).trans hnew, hb⟩
   · rintro e w' ⟨w1, hb, he, rfl⟩
     exact ⟨he, bad w1 hb⟩
set_option maxHeartbeats 4000000 in
theorem add_c (hm : Tryz.prog.follows .mixedOrders = true) {w : World} (gw : GW w) {inner nilk nilv : Bool} {nk nv : Nat} {kf vf : Nat → Int} {vk vv : Value} {link a x y : Int} (hk : DcR w cU (.rows nilk nk [.int .u64 kf]) vk) (hv : DcR w cU (.rows nilv nv [.int .u64 vf]) vv) (h1 : nk ≤ 80) (h2 : nv ≤ 80) :
   Calls Tryz.prog 77 #[ndV inner vk vv link, .int .i64 a, .int .u64 x, .int .u64 y] w fun e w' => ∃ (z0 : Bool) (p3 : Option Addr) (m3 k3 : Nat) (p4 : Option Addr) (m4 k4 : Nat) (z3 : Int), e = .returned (.tuple #[.agg #[.bool z0, .slice p3 m3 k3, .slice p4 m4 k4, .int .u64 z3], .bool (addOk inner nk kf nv a x)]) ∧ Below w.heap.size w w' := by
 obtain ⟨p1, k1, rfl⟩ := DcR_sl hk
 obtain ⟨p2, k2, rfl⟩ := DcR_sl hv
 go_enter Tryz.func77, Tryz.ntmps77
 go_wp2_with (fail)
 refine (tried_add hm (gw_bel gw (at5 w _ _ _ _ _)) (DcR_below hk (at5 w _ _ _ _ _)) (DcR_below hv (at5 w _ _ _ _ _)) h1 h2 (inner := inner) (link := link) (a := a) (x := x) (y := y) ?_ ?_ ?_ ?_ ?_ ?_ ?_ ?_).mono ?_
 iterate 7
   · apply cell_at
     · repeat' (first | (refine ha_new _ _ ?_; (first | rfl | (simp; done))) | refine ha_old ?_)
     · rfl
 · repeat' (first | (refine ha_new _ _ ?_; (first | rfl | (simp; done))) | refine ha_old ?_)
 rintro e w' ⟨rfl, ⟨z0, p3, m3, k3, p4, m4, k4, z3, hz⟩, hB⟩
 have hbb : Below w.heap.size w w' := ⟨hB.os, hB.tape, hB.output, by have := hB.size; simp at this; omega, fun k hk => (hB.block k (by simp; omega) (by omega)).trans ((at5 w _ _ _ _ _).block k hk)⟩
 have q0 := cell_at (o := 0) (v := .bool z0) hz rfl
 have q1 := cell_at (o := 1) (v := .slice p3 m3 k3) hz rfl
 have q2 := cell_at (o := 2) (v := .slice p4 m4 k4) hz rfl
 have q3 := cell_at (o := 3) (v := .int .u64 z3) hz rfl
 have f0 := frozen_at (o := 0) hz
 have f1 := frozen_at (o := 1) hz
 have f2 := frozen_at (o := 2) hz
 have f3 := frozen_at (o := 3) hz
 clear hB hz
 simp only []
 go_wp2_with (fail)
 simp [bodyPost, results, Tryz.results77, go_sem, q0, q1, q2, q3]
 exact Below_setCell (Below_setCell (Below_setCell (Below_setCell hbb _ _ _ (by omega)) _ _ _ (by omega)) _ _ _ (by omega)) _ _ _ (by omega)
end Go.Proofs.YtjhbimdaeofdlaaGreatDoor.Ex
end
section
namespace Go.Proofs.YtjhbimdaeofdlaaGreatDoor.Ex
open Go
def packC (b : Bool) (n : Int) : Int := (if 0 ≤ n ∧ n ≤ 255 then n * 2 else 0) + (if b then 1 else 0)
abbrev gPk : List Ag := [.cell none, .cell none]
abbrev dPk (b : Bool) (n : Int) : List Da := [.cell (.v (.yb b)), .cell (.v (.y .i64 n))]
def fPk (ds : List Da) : Option (Bool × AV) :=
 match ds with
 | [.cell (.v (.yb b)), .cell (.v (.y .i64 n))] => some (true, .y .u64 (packC b n))
 | _ => none
def gPkgoal (P : Program) (f : FuncId) : Prop := ∀ (b : Bool) (n : Int), wxF P noSm (fun _ => none) 1000 f (canA gPk (dPk b n) []).1 (heapOf (canA gPk (dPk b n) []).2) (fun v _ => cmpC (.y .u64 (packC b n)) v)
def goalPack : Prop := gPkgoal Tryz.prog 169
def goalPackR : Prop := gPkgoal Tryz.prog 159
theorem or_one : ∀ m, m < 256 → (m * 2 ||| 1) = m * 2 + 1 := by decide +kernel
theorem pack_put {m : Nat} (h : m < 256) : yBits .or .u64 0 (yBits .and .u64 (yShl .u64 (m : Int) 1) 510) = ((m * 2 : Nat) : Int) := by
 have e2 : yShl .u64 (m : Int) 1 = ((m * 2 % 18446744073709551616 : Nat) : Int) := shl_u (n := 1) (by omega)
 rw [e2]
 have h1 : yBits .or .u64 (yBits .andNot .u64 ((0 : Nat) : Int) 510) (yBits .and .u64 ((m * 2 % 18446744073709551616 : Nat) : Int) 510) = ((512 * (0 / 512) + (2 * (m % 256) + 0 % 2) : Nat) : Int) := field_put (w := 0) (v := m) (at_ := 1) (n := 8) (by omega) (by omega) (by omega) rfl rfl
 have h0 : yBits .andNot .u64 ((0 : Nat) : Int) 510 = 0 := by decide +kernel
 rw [h0] at h1
 rw [h1]; congr 1; omega
theorem pack_one {m : Nat} (h : m < 256) : yBits .or .u64 ((m * 2 : Nat) : Int) 1 = ((m * 2 + 1 : Nat) : Int) := by
 have h1 : yBits .or .u64 ((m * 2 : Nat) : Int) ((1 : Nat) : Int) = ((m * 2 ||| 1 : Nat) : Int) := bits_or (by omega) (by omega)
 rw [or_one m h] at h1
 exact h1
def goalPackV : Prop := (∀ (b : Bool) (n : Int), (yLe 0 n = true → (yNot (yLt n 256) = true → (b = true → packC b n = (1 : Int)) ∧ (b = false → packC b n = (0 : Int))) ∧ (yNot (yLt n 256) = false → (yLe 0 (1 : Int) = true → (b = true → packC b n = yBits BinOp.or IntKind.u64 (yBits BinOp.or IntKind.u64 0 (yBits BinOp.and IntKind.u64 (yShl IntKind.u64 (yWrap IntKind.u64 n) 1) 510)) 1) ∧ (b = false → packC b n = yBits BinOp.or IntKind.u64 0 (yBits BinOp.and IntKind.u64 (yShl IntKind.u64 (yWrap IntKind.u64 n) 1) 510))) ∧ (yLe 0 (1 : Int) = false → False))) ∧ (yLe 0 n = false → (b = true → packC b n = (1 : Int)) ∧ (b = false → packC b n = (0 : Int))))
theorem goalPack_eq : goalPack = goalPackV := by kernel_rfl
theorem goalPack_vc : goalPackV := by
 unfold goalPackV
 intro b n
 by_cases hn : 0 ≤ n ∧ n ≤ 255
 · obtain ⟨m, rfl⟩ : ∃ m : Nat, n = (m : Int) := ⟨n.toNat, by omega⟩
   rw [yWrapN (n := m) (by omega), pack_put (m := m) (by omega), pack_one (m := m) (by omega)]
   unfold packC
   rw [if_pos hn]
   simp only [yLe_t, yLe_f, yLt_t, yLt_f, yNot_t, yNot_f]
   cases b
   all_goals repeat' (first | apply And.intro | intro _)
   all_goals first
     | contradiction
     | (exfalso; omega)
     | (simp only [if_true, if_false, Bool.false_eq_true]; done)
     | (simp only [if_true, if_false, Bool.false_eq_true]; omega)
 · unfold packC
   rw [if_neg hn]
   simp only [yLe_t, yLe_f, yLt_t, yLt_f, yNot_t, yNot_f]
   cases b
   all_goals repeat' (first | apply And.intro | intro _)
   all_goals first
     | contradiction
     | (exfalso; omega)
     | rfl
theorem goalPack_tt : (goalPack) = True := goalPack_eq.trans (eq_true goalPack_vc)
theorem goalPack_ok : goalPack := @ft' goalPack goalPack_tt
def goalPackRV : Prop := (∀ (b : Bool) (n : Int), (yLt n (0 : Int) = true → (b = true → packC b n = (1 : Int)) ∧ (b = false → packC b n = (0 : Int))) ∧ (yLt n (0 : Int) = false → (yLt 255 n = true → (b = true → packC b n = (1 : Int)) ∧ (b = false → packC b n = (0 : Int))) ∧ (yLt 255 n = false → (b = true → packC b n = yWrap IntKind.u64 (yAdd (yWrap IntKind.u64 (yMul (yWrap IntKind.u64 n) 2)) 1)) ∧ (b = false → packC b n = yWrap IntKind.u64 (yMul (yWrap IntKind.u64 n) 2)))))
theorem goalPackR_eq : goalPackR = goalPackRV := by kernel_rfl
theorem goalPackR_vc : goalPackRV := by
 unfold goalPackRV
 intro b n
 by_cases hn : 0 ≤ n ∧ n ≤ 255
 · simp only [yLt_t, yLt_f, yAdd_e, yMul_e]
   rw [wrapU64 (n := n) (by omega) (by omega), wrapU64 (n := n * 2) (by omega) (by omega), wrapU64 (n := n * 2 + 1) (by omega) (by omega)]
   unfold packC
   rw [if_pos hn]
   cases b
   all_goals repeat' (first | apply And.intro | intro _)
   all_goals first
     | contradiction
     | (exfalso; omega)
     | (simp only [if_true, if_false, Bool.false_eq_true]; done)
     | (simp only [if_false, Bool.false_eq_true]; omega)
 · unfold packC
   rw [if_neg hn]
   simp only [yLt_t, yLt_f]
   cases b
   all_goals repeat' (first | apply And.intro | intro _)
   all_goals first
     | contradiction
     | (exfalso; omega)
     | rfl
theorem goalPackR_tt : (goalPackR) = True := goalPackR_eq.trans (eq_true goalPackR_vc)
theorem goalPackR_ok : goalPackR := @ft' goalPackR goalPackR_tt
def renewC (v : Int) : Int := (v / 1099511627776 + 1) % 16777216 * 1099511627776 + (v / 4 + 1) % 274877906944 * 4 + 1
def genC (v : Int) : Int := v / 1099511627776
def makeC (g s : Int) : Int := if 1 ≤ s ∧ s ≤ 65535 then g % 16777216 * 65536 + s else 0
def handC (s v : Int) : Int := makeC (genC v) s
def freshC (s v : Int) : Int := makeC (genC (renewC v)) s
def goalRenew : Prop := gWgoal Tryz.prog 114 renewC
def goalRenewR : Prop := gWgoal Tryz.prog 182 renewC
def goalGen : Prop := gWgoal Tryz.prog 113 genC
abbrev gMk : List Ag := [.cell none, .cell none]
abbrev dMk (g s : Int) : List Da := [.cell (.v (.y .u64 g)), .cell (.v (.y .i64 s))]
def fMk (ds : List Da) : Option (Bool × AV) :=
 match ds with
 | [.cell (.v (.y .u64 g)), .cell (.v (.y .i64 s))] => some (inU g, .y .u64 (makeC g s))
 | _ => none
def gMkgoal (P : Program) (f : FuncId) : Prop := ∀ (g s : Int), inU g = true → wxF P noSm (fun _ => none) 1000 f (canA gMk (dMk g s) []).1 (heapOf (canA gMk (dMk g s) []).2) (fun v _ => cmpC (.y .u64 (makeC g s)) v)
def goalMk : Prop := gMkgoal Tryz.prog 112
def goalMkR : Prop := gMkgoal Tryz.prog 56
abbrev gPart : List Ag := [.agg [none, none, none, cU, cU, none]]
abbrev dPart (s v : Int) (i kn : Bool) (nk : Nat) (k : Nat → Int) (vn : Bool) (nv : Nat) (w : Nat → Int) (l : Int) : List Da := [.agg [.v (.y .i64 s), .v (.y .u64 v), .v (.yb i), .rows kn nk [.int .u64 k], .rows vn nv [.int .u64 w], .v (.y .u64 l)]]
def fHan (F : Int → Int → Int) (ds : List Da) : Option (Bool × AV) :=
 match ds with
 | [.agg [.v (.y .i64 s), .v (.y .u64 v), .v (.yb _), .rows _ _ [.int .u64 _], .rows _ _ [.int .u64 _], .v (.y .u64 _)]] => some (inU v, .y .u64 (F s v))
 | _ => none
def lHan : List (Nat × Sm) := [(114, .ct (ctS gW (fW renewC))), (182, .ct (ctS gW (fW renewC))), (113, .ct (ctS gW (fW genC))), (112, .ct (ctS gMk fMk)), (56, .ct (ctS gMk fMk))]
def goalHan (P : Program) (f : FuncId) (F : Int → Int → Int) : Prop := ∀ (s v : Int) (i kn : Bool) (nk : Nat) (k : Nat → Int) (vn : Bool) (nv : Nat) (w : Nat → Int) (l : Int), inU v = true → inU (renewC v) = true → inU (genC v) = true → inU (genC (renewC v)) = true →
 wxF P (smL lHan) (fun _ => none) 1000 f (canA gPart (dPart s v i kn nk k vn nv w l) []).1 (heapOf (canA gPart (dPart s v i kn nk k vn nv w l) []).2) (fun r _ => cmpC (.y .u64 (F s v)) r)
def goalHand : Prop := goalHan Tryz.prog 88 handC
def goalFresh : Prop := goalHan Tryz.prog 24 freshC
def goalHandR : Prop := goalHan Tryz.prog 92 handC
def goalFreshR : Prop := goalHan Tryz.prog 81 freshC
theorem lockB {w : Nat} (hw : w < 18446744073709551616) : yBits .or .u64 (yBits .andNot .u64 (w : Int) 1) 1 = ((w / 2 * 2 + 1 : Nat) : Int) := by
 have := field_put' (at_ := 0) (n := 1) (v := 1) (M := 1) (S := 1) (R := 1) hw (by omega) (by omega) rfl rfl (by decide +kernel)
 rw [this]; congr 1
 show 2 * (w / 2) + (1 * 1 + w % 1) = _
 omega
theorem undead {w : Nat} (hw : w < 18446744073709551616) : yBits .or .u64 (yBits .andNot .u64 (w : Int) 2) 0 = ((w / 4 * 4 + w % 2 : Nat) : Int) := by
 have := field_put' (at_ := 1) (n := 1) (v := 0) (M := 2) (S := 0) (R := 0) hw (by omega) (by omega) rfl rfl (by decide +kernel)
 rw [this]; congr 1
 show 4 * (w / 4) + (2 * 0 + w % 2) = _
 omega
theorem genGet {w : Nat} (hw : w < 18446744073709551616) : yBits .and .u64 (yShr .u64 (w : Int) 40) 16777215 = ((w / 1099511627776 : Nat) : Int) := by
 have h : yBits .and .u64 (yShr .u64 (w : Int) 40) 16777215 = ((w / 1099511627776 % 16777216 : Nat) : Int) := field_get (at_ := 40) (n := 24) hw (by omega) (by omega) rfl
 rw [h, Nat.mod_eq_of_lt (by omega)]
theorem genPut {w v : Nat} (hw : w < 18446744073709551616) (hv : v < 18446744073709551616) : yBits .or .u64 (yBits .andNot .u64 (w : Int) 18446742974197923840) (yBits .and .u64 (yShl .u64 (v : Int) 40) 18446742974197923840) = ((1099511627776 * (v % 16777216) + w % 1099511627776 : Nat) : Int) := by
 have e2 : yShl .u64 (v : Int) 40 = ((v * 1099511627776 % 18446744073709551616 : Nat) : Int) := shl_u (n := 40) (by omega)
 rw [e2]
 have h : yBits .or .u64 (yBits .andNot .u64 (w : Int) 18446742974197923840) (yBits .and .u64 ((v * 1099511627776 % 18446744073709551616 : Nat) : Int) 18446742974197923840) = ((18446744073709551616 * (w / 18446744073709551616) + (1099511627776 * (v % 16777216) + w % 1099511627776) : Nat) : Int) := field_put (at_ := 40) (n := 24) hw hv (by omega) rfl rfl
 rw [h]; congr 1; omega
theorem slotPut {w v : Nat} (hw : w < 65536) (hv : v < 18446744073709551616) : yBits .or .u64 (yBits .andNot .u64 (w : Int) 1099511562240) (yBits .and .u64 (yShl .u64 (v : Int) 16) 1099511562240) = ((65536 * (v % 16777216) + w : Nat) : Int) := by
 have e2 : yShl .u64 (v : Int) 16 = ((v * 65536 % 18446744073709551616 : Nat) : Int) := shl_u (n := 16) (by omega)
 rw [e2]
 have h : yBits .or .u64 (yBits .andNot .u64 (w : Int) 1099511562240) (yBits .and .u64 ((v * 65536 % 18446744073709551616 : Nat) : Int) 1099511562240) = ((1099511627776 * (w / 1099511627776) + (65536 * (v % 16777216) + w % 65536) : Nat) : Int) := field_put (at_ := 16) (n := 24) (by omega) hv (by omega) rfl rfl
 rw [h]; congr 1; omega
def goalRenewV : Prop := (∀ (w : Int), yAnd (yLe 0 w) (yLt w 18446744073709551616) = true → (yLe 0 (2 : Int) = true → (yLe 0 (2 : Int) = true → (yLe 0 (40 : Int) = true → (yLe 0 (40 : Int) = true → renewC w = yBits BinOp.or IntKind.u64 (yBits BinOp.andNot IntKind.u64 (yBits BinOp.or IntKind.u64 (yBits BinOp.andNot IntKind.u64 (yBits BinOp.or IntKind.u64 (yBits BinOp.andNot IntKind.u64 (yBits BinOp.or IntKind.u64 (yBits BinOp.andNot IntKind.u64 w 1099511627772) (yBits BinOp.and IntKind.u64 (yShl IntKind.u64 (yWrap IntKind.u64 (yAdd (yBits BinOp.and IntKind.u64 (yShr IntKind.u64 w 2) 274877906943) 1)) 2) 1099511627772)) 1) 1) 2) 0) 18446742974197923840) (yBits BinOp.and IntKind.u64 (yShl IntKind.u64 (yWrap IntKind.u64 (yAdd (yBits BinOp.and IntKind.u64 (yShr IntKind.u64 (yBits BinOp.or IntKind.u64 (yBits BinOp.andNot IntKind.u64 (yBits BinOp.or IntKind.u64 (yBits BinOp.andNot IntKind.u64 w 1099511627772) (yBits BinOp.and IntKind.u64 (yShl IntKind.u64 (yWrap IntKind.u64 (yAdd (yBits BinOp.and IntKind.u64 (yShr IntKind.u64 w 2) 274877906943) 1)) 2) 1099511627772)) 1) 1) 40) 16777215) 1)) 40) 18446742974197923840)) ∧ (yLe 0 (40 : Int) = false → False)) ∧ (yLe 0 (40 : Int) = false → False)) ∧ (yLe 0 (2 : Int) = false → False)) ∧ (yLe 0 (2 : Int) = false → False))
theorem goalRenew_eq : goalRenew = goalRenewV := by kernel_rfl
set_option maxHeartbeats 4000000 in
theorem goalRenew_vc : goalRenewV := by
 unfold goalRenewV
 intro w h
 obtain ⟨n, rfl, hn⟩ := inU_nat h
 have e1 := counted hn
 generalize hA : 1099511627776 * (n / 1099511627776) + (4 * ((n / 4 % 274877906944 + 1) % 274877906944) + n % 4) = A at e1
 have hA2 : A < 18446744073709551616 := by omega
 have e2 := lockB hA2
 have e3 := undead (w := A / 2 * 2 + 1) (by omega)
 have e4 := genGet (w := A / 2 * 2 + 1) (by omega)
 have e5 : yWrap .u64 (yAdd (((A / 2 * 2 + 1) / 1099511627776 : Nat) : Int) 1) = (((A / 2 * 2 + 1) / 1099511627776 + 1 : Nat) : Int) := yWrapN (n := (A / 2 * 2 + 1) / 1099511627776 + 1) (by omega)
 have e6 := genPut (w := (A / 2 * 2 + 1) / 4 * 4 + (A / 2 * 2 + 1) % 2) (v := (A / 2 * 2 + 1) / 1099511627776 + 1) (by omega) (by omega)
 rw [e1, e2, e3, e4, e5, e6]
 have hf : renewC (n : Int) = ((1099511627776 * (((A / 2 * 2 + 1) / 1099511627776 + 1) % 16777216) + ((A / 2 * 2 + 1) / 4 * 4 + (A / 2 * 2 + 1) % 2) % 1099511627776 : Nat) : Int) := by unfold renewC; omega
 repeat' (first | apply And.intro | intro _)
 all_goals first
   | exact hf
   | (rename_i h; cases h)
theorem goalRenew_tt : (goalRenew) = True := goalRenew_eq.trans (eq_true goalRenew_vc)
theorem goalRenew_ok : goalRenew := @ft' goalRenew goalRenew_tt
def goalGenV : Prop := (∀ (w : Int), yAnd (yLe 0 w) (yLt w 18446744073709551616) = true → (yLe 0 (40 : Int) = true → genC w = yBits BinOp.and IntKind.u64 (yShr IntKind.u64 w 40) 16777215) ∧ (yLe 0 (40 : Int) = false → False))
theorem goalGen_eq : goalGen = goalGenV := by kernel_rfl
set_option maxHeartbeats 4000000 in
theorem goalGen_vc : goalGenV := by
 unfold goalGenV
 intro w h
 obtain ⟨n, rfl, hn⟩ := inU_nat h
 rw [genGet hn]
 have hf : genC (n : Int) = ((n / 1099511627776 : Nat) : Int) := by unfold genC; omega
 repeat' (first | apply And.intro | intro _)
 all_goals first
   | exact hf
   | (rename_i h; cases h)
theorem goalGen_tt : (goalGen) = True := goalGen_eq.trans (eq_true goalGen_vc)
theorem goalGen_ok : goalGen := @ft' goalGen goalGen_tt
def goalMkV : Prop := (∀ (g s : Int), yAnd (yLe 0 g) (yLt g 18446744073709551616) = true → (yLt s (1 : Int) = true → makeC g s = (0 : Int)) ∧ (yLt s (1 : Int) = false → (yLt 65535 s = true → makeC g s = (0 : Int)) ∧ (yLt 65535 s = false → (yLe 0 (16 : Int) = true → makeC g s = yBits BinOp.or IntKind.u64 (yBits BinOp.andNot IntKind.u64 (yWrap IntKind.u64 s) 1099511562240) (yBits BinOp.and IntKind.u64 (yShl IntKind.u64 g 16) 1099511562240)) ∧ (yLe 0 (16 : Int) = false → False))))
theorem goalMk_eq : goalMk = goalMkV := by kernel_rfl
set_option maxHeartbeats 4000000 in
theorem goalMk_vc : goalMkV := by
 unfold goalMkV
 intro g s h
 obtain ⟨n, rfl, hn⟩ := inU_nat h
 by_cases hs : 1 ≤ s ∧ s ≤ 65535
 · obtain ⟨m, rfl⟩ : ∃ m : Nat, s = (m : Int) := ⟨s.toNat, by omega⟩
   rw [yWrapN (n := m) (by omega), slotPut (w := m) (by omega) hn]
   have hf : makeC (n : Int) (m : Int) = ((65536 * (n % 16777216) + m : Nat) : Int) := by unfold makeC; rw [if_pos hs]; omega
   simp only [vS, forall_const]
   repeat' (first | apply And.intro | intro _)
   all_goals first
     | exact hf
     | (exfalso; omega)
 · have hf : makeC (n : Int) s = 0 := by unfold makeC; rw [if_neg hs]
   simp only [vS, forall_const]
   repeat' (first | apply And.intro | intro _)
   all_goals first
     | exact hf
     | (exfalso; omega)
theorem goalMk_tt : (goalMk) = True := goalMk_eq.trans (eq_true goalMk_vc)
theorem goalMk_ok : goalMk := @ft' goalMk goalMk_tt
def goalMkRV : Prop := (∀ (g s : Int), yAnd (yLe 0 g) (yLt g 18446744073709551616) = true → (yLt s (1 : Int) = true → makeC g s = (0 : Int)) ∧ (yLt s (1 : Int) = false → (yLt 65535 s = true → makeC g s = (0 : Int)) ∧ (yLt 65535 s = false → (yEq 16777216 (0 : Int) = true → False) ∧ (yEq 16777216 (0 : Int) = false → makeC g s = yWrap IntKind.u64 (yAdd (yWrap IntKind.u64 (yMul (yRem g 16777216) 65536)) (yWrap IntKind.u64 s))))))
theorem goalMkR_eq : goalMkR = goalMkRV := by kernel_rfl
set_option maxHeartbeats 4000000 in
theorem goalMkR_vc : goalMkRV := by
 unfold goalMkRV
 intro g s h
 obtain ⟨n, rfl, hn⟩ := inU_nat h
 have a1 : yRem (n : Int) 16777216 = ((n % 16777216 : Nat) : Int) := rem_u (c := 16777216)
 rw [a1]
 by_cases hs : 1 ≤ s ∧ s ≤ 65535
 · simp only [vS, forall_const]
   rw [wrapU64 (n := s) (by omega) (by omega), wrapU64 (n := ((n % 16777216 : Nat) : Int) * 65536) (by omega) (by omega), wrapU64 (by omega) (by omega)]
   have hf : makeC (n : Int) s = ((n % 16777216 : Nat) : Int) * 65536 + s := by unfold makeC; rw [if_pos hs]; omega
   repeat' (first | apply And.intro | intro _)
   all_goals first
     | exact hf
     | (exfalso; omega)
 · have hf : makeC (n : Int) s = 0 := by unfold makeC; rw [if_neg hs]
   simp only [vS, forall_const]
   repeat' (first | apply And.intro | intro _)
   all_goals first
     | exact hf
     | (exfalso; omega)
theorem goalMkR_tt : (goalMkR) = True := goalMkR_eq.trans (eq_true goalMkR_vc)
theorem goalMkR_ok : goalMkR := @ft' goalMkR goalMkR_tt
def goalRenewRV : Prop := (∀ (w : Int), yAnd (yLe 0 w) (yLt w 18446744073709551616) = true → (yEq 2 (0 : Int) = true → False) ∧ (yEq 2 (0 : Int) = false → (yEq 2 (0 : Int) = true → False) ∧ (yEq 2 (0 : Int) = false → (yEq 2 (0 : Int) = true → False) ∧ (yEq 2 (0 : Int) = false → (yEq 4 (0 : Int) = true → False) ∧ (yEq 4 (0 : Int) = false → (yEq 274877906944 (0 : Int) = true → False) ∧ (yEq 274877906944 (0 : Int) = false → (yEq 1099511627776 (0 : Int) = true → False) ∧ (yEq 1099511627776 (0 : Int) = false → (yEq 16777216 (0 : Int) = true → False) ∧ (yEq 16777216 (0 : Int) = false → (yEq 274877906944 (0 : Int) = true → False) ∧ (yEq 274877906944 (0 : Int) = false → renewC w = yWrap IntKind.u64 (yAdd (yWrap IntKind.u64 (yAdd (yWrap IntKind.u64 (yMul (yRem (yWrap IntKind.u64 (yAdd (yQuo IntKind.u64 w 1099511627776) 1)) 16777216) 1099511627776)) (yWrap IntKind.u64 (yMul (yRem (yWrap IntKind.u64 (yAdd (yRem (yQuo IntKind.u64 w 4) 274877906944) 1)) 274877906944) 4)))) 1))))))))))
theorem goalRenewR_eq : goalRenewR = goalRenewRV := by kernel_rfl
set_option maxHeartbeats 4000000 in
theorem goalRenewR_vc : goalRenewRV := by
 unfold goalRenewRV
 intro w h
 obtain ⟨n, rfl, hn⟩ := inU_nat h
 have a2 : yQuo .u64 (n : Int) 4 = ((n / 4 : Nat) : Int) := quo_u (c := 4) hn
 have a3 : yQuo .u64 (n : Int) 1099511627776 = ((n / 1099511627776 : Nat) : Int) := quo_u (c := 1099511627776) hn
 have a5 : yRem ((n / 4 : Nat) : Int) 274877906944 = ((n / 4 % 274877906944 : Nat) : Int) := rem_u (c := 274877906944)
 have a7 : yWrap .u64 (yAdd ((n / 4 % 274877906944 : Nat) : Int) 1) = ((n / 4 % 274877906944 + 1 : Nat) : Int) := yWrapN (n := n / 4 % 274877906944 + 1) (by omega)
 have a8 : yRem ((n / 4 % 274877906944 + 1 : Nat) : Int) 274877906944 = (((n / 4 % 274877906944 + 1) % 274877906944 : Nat) : Int) := rem_u (c := 274877906944)
 have a9 : yWrap .u64 (yAdd ((n / 1099511627776 : Nat) : Int) 1) = ((n / 1099511627776 + 1 : Nat) : Int) := yWrapN (n := n / 1099511627776 + 1) (by omega)
 have a6 : yRem ((n / 1099511627776 + 1 : Nat) : Int) 16777216 = (((n / 1099511627776 + 1) % 16777216 : Nat) : Int) := rem_u (c := 16777216)
 simp only [a2, a3, a5, a6, a7, a8, a9]
 have b1 : yWrap .u64 (yMul (((n / 1099511627776 + 1) % 16777216 : Nat) : Int) 1099511627776) = (((n / 1099511627776 + 1) % 16777216 * 1099511627776 : Nat) : Int) := yWrapN (n := (n / 1099511627776 + 1) % 16777216 * 1099511627776) (by omega)
 have b2 : yWrap .u64 (yMul (((n / 4 % 274877906944 + 1) % 274877906944 : Nat) : Int) 4) = (((n / 4 % 274877906944 + 1) % 274877906944 * 4 : Nat) : Int) := yWrapN (n := (n / 4 % 274877906944 + 1) % 274877906944 * 4) (by omega)
 have b3 : yWrap .u64 (yAdd (((n / 1099511627776 + 1) % 16777216 * 1099511627776 : Nat) : Int) (((n / 4 % 274877906944 + 1) % 274877906944 * 4 : Nat) : Int)) = (((n / 1099511627776 + 1) % 16777216 * 1099511627776 + (n / 4 % 274877906944 + 1) % 274877906944 * 4 : Nat) : Int) := yWrapN (n := (n / 1099511627776 + 1) % 16777216 * 1099511627776 + (n / 4 % 274877906944 + 1) % 274877906944 * 4) (by omega)
 have b4 : yWrap .u64 (yAdd (((n / 1099511627776 + 1) % 16777216 * 1099511627776 + (n / 4 % 274877906944 + 1) % 274877906944 * 4 : Nat) : Int) 1) = (((n / 1099511627776 + 1) % 16777216 * 1099511627776 + (n / 4 % 274877906944 + 1) % 274877906944 * 4 + 1 : Nat) : Int) := yWrapN (n := (n / 1099511627776 + 1) % 16777216 * 1099511627776 + (n / 4 % 274877906944 + 1) % 274877906944 * 4 + 1) (by omega)
 simp only [b1, b2, b3, b4]
 have hf : renewC (n : Int) = (((n / 1099511627776 + 1) % 16777216 * 1099511627776 + (n / 4 % 274877906944 + 1) % 274877906944 * 4 + 1 : Nat) : Int) := by unfold renewC; omega
 simp only [vS, forall_const]
 repeat' (first | apply And.intro | intro _)
 all_goals first
   | (exfalso; omega)
   | exact hf
theorem goalRenewR_tt : (goalRenewR) = True := goalRenewR_eq.trans (eq_true goalRenewR_vc)
theorem goalRenewR_ok : goalRenewR := @ft' goalRenewR goalRenewR_tt
theorem quo_gen {v : Int} (h : inU v = true) : yQuo .u64 v 1099511627776 = genC v := by
 obtain ⟨n, rfl, hn⟩ := inU_nat h
 have a3 : yQuo .u64 (n : Int) 1099511627776 = ((n / 1099511627776 : Nat) : Int) := quo_u (c := 1099511627776) hn
 rw [a3]; unfold genC; omega
theorem inU_gen {v : Int} (h : inU v = true) : inU (genC v) = true := by
 obtain ⟨n, rfl, hn⟩ := inU_nat h
 simp only [inU, yAnd_t, yLe_t, yLt_t]; unfold genC; omega
theorem inU_renew {v : Int} (h : inU v = true) : inU (renewC v) = true := by
 obtain ⟨n, rfl, hn⟩ := inU_nat h
 simp only [inU, yAnd_t, yLe_t, yLt_t]; unfold renewC; omega
def goalHandV : Prop := (∀ (s v : Int) (_i _kn : Bool) (_nk : Nat) (_k : Nat → Int) (_vn : Bool) (_nv : Nat) (_w : Nat → Int) (_l : Int), yAnd (yLe 0 v) (yLt v 18446744073709551616) = true → yAnd (yLe 0 (renewC v)) (yLt (renewC v) 18446744073709551616) = true → yAnd (yLe 0 (genC v)) (yLt (genC v) 18446744073709551616) = true → yAnd (yLe 0 (genC (renewC v))) (yLt (genC (renewC v)) 18446744073709551616) = true → (yAnd (yLe 0 v) (yLt v 18446744073709551616) = true → (yAnd (yLe 0 (genC v)) (yLt (genC v) 18446744073709551616) = true → handC s v = makeC (genC v) s) ∧ (yAnd (yLe 0 (genC v)) (yLt (genC v) 18446744073709551616) = false → False)) ∧ (yAnd (yLe 0 v) (yLt v 18446744073709551616) = false → False))
theorem goalHand_eq : goalHand = goalHandV := by kernel_rfl
theorem goalHand_vc : goalHandV := by
 unfold goalHandV
 intro s v _ _ _ _ _ _ _ _ h1 h2 h3 h4
 have hf : handC s v = makeC (genC v) s := rfl
 simp only [h1, h2, h3, h4, hf, Bool.true_eq_false, false_implies, true_implies, and_true, true_and]
theorem goalHand_tt : (goalHand) = True := goalHand_eq.trans (eq_true goalHand_vc)
theorem goalHand_ok : goalHand := @ft' goalHand goalHand_tt
def goalFreshV : Prop := (∀ (s v : Int) (_i _kn : Bool) (_nk : Nat) (_k : Nat → Int) (_vn : Bool) (_nv : Nat) (_w : Nat → Int) (_l : Int), yAnd (yLe 0 v) (yLt v 18446744073709551616) = true → yAnd (yLe 0 (renewC v)) (yLt (renewC v) 18446744073709551616) = true → yAnd (yLe 0 (genC v)) (yLt (genC v) 18446744073709551616) = true → yAnd (yLe 0 (genC (renewC v))) (yLt (genC (renewC v)) 18446744073709551616) = true → (yAnd (yLe 0 v) (yLt v 18446744073709551616) = true → (yAnd (yLe 0 (renewC v)) (yLt (renewC v) 18446744073709551616) = true → (yAnd (yLe 0 (genC (renewC v))) (yLt (genC (renewC v)) 18446744073709551616) = true → freshC s v = makeC (genC (renewC v)) s) ∧ (yAnd (yLe 0 (genC (renewC v))) (yLt (genC (renewC v)) 18446744073709551616) = false → False)) ∧ (yAnd (yLe 0 (renewC v)) (yLt (renewC v) 18446744073709551616) = false → False)) ∧ (yAnd (yLe 0 v) (yLt v 18446744073709551616) = false → False))
theorem goalFresh_eq : goalFresh = goalFreshV := by kernel_rfl
theorem goalFresh_vc : goalFreshV := by
 unfold goalFreshV
 intro s v _ _ _ _ _ _ _ _ h1 h2 h3 h4
 have hf : freshC s v = makeC (genC (renewC v)) s := rfl
 simp only [h1, h2, h3, h4, hf, Bool.true_eq_false, false_implies, true_implies, and_true, true_and]
theorem goalFresh_tt : (goalFresh) = True := goalFresh_eq.trans (eq_true goalFresh_vc)
theorem goalFresh_ok : goalFresh := @ft' goalFresh goalFresh_tt
def goalHandRV : Prop := (∀ (s v : Int) (_i _kn : Bool) (_nk : Nat) (_k : Nat → Int) (_vn : Bool) (_nv : Nat) (_w : Nat → Int) (_l : Int), yAnd (yLe 0 v) (yLt v 18446744073709551616) = true → yAnd (yLe 0 (renewC v)) (yLt (renewC v) 18446744073709551616) = true → yAnd (yLe 0 (genC v)) (yLt (genC v) 18446744073709551616) = true → yAnd (yLe 0 (genC (renewC v))) (yLt (genC (renewC v)) 18446744073709551616) = true → (yEq 2 (0 : Int) = true → False) ∧ (yEq 2 (0 : Int) = false → (yEq 2 (0 : Int) = true → False) ∧ (yEq 2 (0 : Int) = false → (yEq 2 (0 : Int) = true → False) ∧ (yEq 2 (0 : Int) = false → (yEq 4 (0 : Int) = true → False) ∧ (yEq 4 (0 : Int) = false → (yEq 274877906944 (0 : Int) = true → False) ∧ (yEq 274877906944 (0 : Int) = false → (yEq 1099511627776 (0 : Int) = true → False) ∧ (yEq 1099511627776 (0 : Int) = false → (yAnd (yLe 0 (yQuo IntKind.u64 v 1099511627776)) (yLt (yQuo IntKind.u64 v 1099511627776) 18446744073709551616) = true → handC s v = makeC (yQuo IntKind.u64 v 1099511627776) s) ∧ (yAnd (yLe 0 (yQuo IntKind.u64 v 1099511627776)) (yLt (yQuo IntKind.u64 v 1099511627776) 18446744073709551616) = false → False))))))))
theorem goalHandR_eq : goalHandR = goalHandRV := by kernel_rfl
theorem goalHandR_vc : goalHandRV := by
 unfold goalHandRV
 intro s v _ _ _ _ _ _ _ _ h1 h2 h3 h4
 have hf : handC s v = makeC (genC v) s := rfl
 have hq := quo_gen (v := v) h1
 rw [hq]
 simp only [h1, h2, h3, h4, hf, Bool.true_eq_false, false_implies, true_implies, and_true, true_and, yEq_t, yEq_f, ne_eq]
 repeat' (first | apply And.intro | intro _)
 all_goals first
   | trivial
   | (exfalso; omega)
theorem goalHandR_tt : (goalHandR) = True := goalHandR_eq.trans (eq_true goalHandR_vc)
theorem goalHandR_ok : goalHandR := @ft' goalHandR goalHandR_tt
def goalFreshRV : Prop := (∀ (s v : Int) (_i _kn : Bool) (_nk : Nat) (_k : Nat → Int) (_vn : Bool) (_nv : Nat) (_w : Nat → Int) (_l : Int), yAnd (yLe 0 v) (yLt v 18446744073709551616) = true → yAnd (yLe 0 (renewC v)) (yLt (renewC v) 18446744073709551616) = true → yAnd (yLe 0 (genC v)) (yLt (genC v) 18446744073709551616) = true → yAnd (yLe 0 (genC (renewC v))) (yLt (genC (renewC v)) 18446744073709551616) = true → (yAnd (yLe 0 v) (yLt v 18446744073709551616) = true → (yEq 2 (0 : Int) = true → False) ∧ (yEq 2 (0 : Int) = false → (yEq 2 (0 : Int) = true → False) ∧ (yEq 2 (0 : Int) = false → (yEq 2 (0 : Int) = true → False) ∧ (yEq 2 (0 : Int) = false → (yEq 4 (0 : Int) = true → False) ∧ (yEq 4 (0 : Int) = false → (yEq 274877906944 (0 : Int) = true → False) ∧ (yEq 274877906944 (0 : Int) = false → (yEq 1099511627776 (0 : Int) = true → False) ∧ (yEq 1099511627776 (0 : Int) = false → (yAnd (yLe 0 (yQuo IntKind.u64 (renewC v) 1099511627776)) (yLt (yQuo IntKind.u64 (renewC v) 1099511627776) 18446744073709551616) = true → freshC s v = makeC (yQuo IntKind.u64 (renewC v) 1099511627776) s) ∧ (yAnd (yLe 0 (yQuo IntKind.u64 (renewC v) 1099511627776)) (yLt (yQuo IntKind.u64 (renewC v) 1099511627776) 18446744073709551616) = false → False)))))))) ∧ (yAnd (yLe 0 v) (yLt v 18446744073709551616) = false → False))
theorem goalFreshR_eq : goalFreshR = goalFreshRV := by kernel_rfl
theorem goalFreshR_vc : goalFreshRV := by
 unfold goalFreshRV
 intro s v _ _ _ _ _ _ _ _ h1 h2 h3 h4
 have hf : freshC s v = makeC (genC (renewC v)) s := rfl
 have hq := quo_gen (v := renewC v) h2
 rw [hq]
 simp only [h1, h2, h3, h4, hf, Bool.true_eq_false, false_implies, true_implies, and_true, true_and, yEq_t, yEq_f, ne_eq]
 repeat' (first | apply And.intro | intro _)
 all_goals first
   | trivial
   | (exfalso; omega)
theorem goalFreshR_tt : (goalFreshR) = True := goalFreshR_eq.trans (eq_true goalFreshR_vc)
theorem goalFreshR_ok : goalFreshR := @ft' goalFreshR goalFreshR_tt
def layL (cs ct cf s j key val : Int) : List (Int × Int) := [(keyC cs ct cf s j, key), (valC cs ct cf s j, val)]
def prw (n : Nat) (a b : Nat → Int) : List (Int × Int) := (List.range n).map fun j => (a j, b j)
def shO (cs ct cf s : Int) (k w : Nat → Int) (j : Nat) (i : Nat) : List (Int × Int) := (List.range (i - j)).flatMap fun d => layL cs ct cf s ((j + d : Nat) : Int) (k (j + d + 1)) (w (j + d + 1))
def cloO (cs ct cf s : Int) (k w : Nat → Int) (n0 : Nat) (a0 b0 : Nat → Int) (j i : Nat) : List (Int × Int) := prw n0 a0 b0 ++ shO cs ct cf s k w j i
abbrev slW (id : Nat) (l : List (Int × Int)) : AV := .ysl false (rE l) id 2 0 (rN l)
abbrev arW (l : List (Int × Int)) : AO := .arr false 106 2 (rN l) (colF [.int .i64 (rA l), .int .u64 (rB l)])
abbrev sPen : Sx := .ptr 137 [.sc, .sc, .sc, .sc, .sc, ownW]
abbrev dPen (cs ct cf cl cp : Int) (r : Dx) : Dx := .l [.v (.y .i64 cs), .v (.y .i64 ct), .v (.y .i64 cf), .v (.y .i64 cl), .v (.y .i64 cp), r]
def lLay : List (Nat × Sm) := [(106, .ct (ctS gL2 (fL2 keyC))), (90, .ct (ctS gL2 (fL2 valC))), (135, .ct (ctS gL1 (fL1 shapeC))), (169, .ct (ctS gPk fPk)),
 (121, .ct (ctS gL2 (fR2 keyC))), (93, .ct (ctS gL2 (fR2 valC))), (118, .ct (ctS gL1 (fR1 shapeC))), (159, .ct (ctS gPk fPk))]
theorem rN_snoc (l : List (Int × Int)) (x : Int × Int) : rN (l ++ [x]) = rN l + 1 := by simp [rN]
theorem rE_snoc (l : List (Int × Int)) (x : Int × Int) : rE (l ++ [x]) = false := by simp [rE]
theorem rA_snoc (l : List (Int × Int)) (x : Int × Int) {j : Nat} (h : j < rN l + 1) : rA (l ++ [x]) j = ySel (yNlt j (rN l)) (rA l j) x.1 := by
 unfold rN at h
 unfold rA ySel yNlt rN
 rw [List.getD_eq_getElem?_getD, List.getD_eq_getElem?_getD, List.getElem?_append]
 by_cases hj : j < l.length
 · simp [hj]
 · have : j = l.length := by omega
   subst this; simp
theorem rB_snoc (l : List (Int × Int)) (x : Int × Int) {j : Nat} (h : j < rN l + 1) : rB (l ++ [x]) j = ySel (yNlt j (rN l)) (rB l j) x.2 := by
 unfold rN at h
 unfold rB ySel yNlt rN
 rw [List.getD_eq_getElem?_getD, List.getD_eq_getElem?_getD, List.getElem?_append]
 by_cases hj : j < l.length
 · simp [hj]
 · have : j = l.length := by omega
   subst this; simp
theorem rA_snoc2 (l : List (Int × Int)) (x y : Int × Int) {j : Nat} (h : j < rN l + 1 + 1) : rA (l ++ [x] ++ [y]) j = ySel (yNlt j (rN l + 1)) (ySel (yNlt j (rN l)) (rA l j) x.1) y.1 := by
 rw [rA_snoc _ y (by rw [rN_snoc]; exact h), rN_snoc]
 by_cases hj : j < rN l + 1
 · rw [rA_snoc _ x hj]
 · simp [ySel, yNlt, hj]
theorem rB_snoc2 (l : List (Int × Int)) (x y : Int × Int) {j : Nat} (h : j < rN l + 1 + 1) : rB (l ++ [x] ++ [y]) j = ySel (yNlt j (rN l + 1)) (ySel (yNlt j (rN l)) (rB l j) x.2) y.2 := by
 rw [rB_snoc _ y (by rw [rN_snoc]; exact h), rN_snoc]
 by_cases hj : j < rN l + 1
 · rw [rB_snoc _ x hj]
 · simp [ySel, yNlt, hj]
theorem yAnd10 (b : Bool) : yAnd b (yNeq 1 0) = false := by cases b <;> rfl
theorem shO_self (cs ct cf s : Int) (k w : Nat → Int) (j : Nat) : shO cs ct cf s k w j j = [] := by simp [shO]
theorem prw_len (n : Nat) (a b : Nat → Int) : (prw n a b).length = n := by simp [prw]
theorem prw_A {n : Nat} {a b : Nat → Int} {i : Nat} (h : i < n) : rA (prw n a b) i = a i ∧ rB (prw n a b) i = b i := by
 unfold rA rB prw
 simp [List.getD_eq_getElem?_getD, h]
theorem cloO_zero {cs ct cf s : Int} {k w : Nat → Int} {nil0 : Bool} {n0 : Nat} {a0 b0 : Nat → Int} {j : Nat} (h : nil0 = yNeq n0 0) : rE (cloO cs ct cf s k w n0 a0 b0 j j) = nil0 ∧ rN (cloO cs ct cf s k w n0 a0 b0 j j) = n0 ∧
   ∀ i, i + 1 ≤ rN (cloO cs ct cf s k w n0 a0 b0 j j) → rA (cloO cs ct cf s k w n0 a0 b0 j j) i = a0 i ∧ rB (cloO cs ct cf s k w n0 a0 b0 j j) i = b0 i := by
 have e : cloO cs ct cf s k w n0 a0 b0 j j = prw n0 a0 b0 := by simp [cloO, shO_self]
 rw [e]
 have hn : rN (prw n0 a0 b0) = n0 := by simp [rN, prw_len]
 refine ⟨?_, hn, fun i hi => prw_A (by omega)⟩
 subst h
 unfold rE yNeq
 cases n0 with
 | zero => rfl
 | succ n => simp [prw, List.range_succ]
def prOp (j n d : Nat) : Prop := j + d ≤ n
def penId (h : AH) : List Nat := match h.get 1 with | some (.cells c _ _) => (match nthA c 5 with | some (.ysl _ _ id _ _ _) => [id] | some (.sl id _ _ _ _) => [id] | _ => []) | _ => []
def tmpId (tm : Tr AV) (t : Nat) : List Nat := match evT tm (.tmp t) with | .ysl _ _ id _ _ _ => [id] | .sl id _ _ _ _ => [id] | _ => []
def annOpn (cs ct cf cl cp : Int) (O : Nat → List (Int × Int)) (j nv : Nat) (b : Nat) : Option (St → LoopA) :=
 match b with
 | 0 => some fun z => { ι := Nat, tms := [12], tmU := fun d => [.y .i64 (yInt (yNsub nv (Nat.succ d)))], ids := [1, z.h.nx], hpU := fun d => [.cells [.y .i64 cs, .y .i64 ct, .y .i64 cf, .y .i64 cl, .y .i64 cp, slW z.h.nx (O d)] 137 none, arW (O d)], del := penId z.h, ex := 1, pre := fun d => prOp j nv (Nat.succ d), ms := msFit nv }
 | _ => none
theorem rA_snoc3 (l : List (Int × Int)) (x y z : Int × Int) {j : Nat} (h : j < rN l + 1 + 1 + 1) : rA (l ++ [x] ++ [y] ++ [z]) j = ySel (yNlt j (rN l + 1 + 1)) (ySel (yNlt j (rN l + 1)) (ySel (yNlt j (rN l)) (rA l j) x.1) y.1) z.1 := by
 rw [rA_snoc _ z (by rw [rN_snoc, rN_snoc]; exact h), rN_snoc, rN_snoc]
 by_cases hj : j < rN l + 1 + 1
 · rw [rA_snoc2 _ x y hj]
 · simp [ySel, yNlt, hj]
theorem rB_snoc3 (l : List (Int × Int)) (x y z : Int × Int) {j : Nat} (h : j < rN l + 1 + 1 + 1) : rB (l ++ [x] ++ [y] ++ [z]) j = ySel (yNlt j (rN l + 1 + 1)) (ySel (yNlt j (rN l + 1)) (ySel (yNlt j (rN l)) (rB l j) x.2) y.2) z.2 := by
 rw [rB_snoc _ z (by rw [rN_snoc, rN_snoc]; exact h), rN_snoc, rN_snoc]
 by_cases hj : j < rN l + 1 + 1
 · rw [rB_snoc2 _ x y hj]
 · simp [ySel, yNlt, hj]
theorem sel_old {q n : Nat} {a b c : Int} (h : q < n → a = b) : ySel (yNlt q n) b c = ySel (yNlt q n) a c := by
 by_cases hq : q < n
 · rw [h hq]
 · simp [ySel, yNlt, hq]
end Go.Proofs.YtjhbimdaeofdlaaGreatDoor.Ex
end
section
namespace Go.Proofs.YtjhbimdaeofdlaaGreatDoor.Ex
open Go
theorem smPk {f : FuncId} (hm : Tryz.prog.follows .mixedOrders = true) (hg : gPkgoal Tryz.prog f) : SmCall Tryz.prog f (fun args h => (ctS gPk fPk args h).sel) :=
 ctS_ok hm noSm_ok (by decide) (fun ds a h => by
   unfold fPk at h
   split at h
   · simp only [Option.some.injEq, Prod.mk.injEq] at h
     obtain ⟨h1, rfl⟩ := h
     exact ⟨_, 1000, hg _ _⟩
   · cases h)
theorem smMk {f : FuncId} (hm : Tryz.prog.follows .mixedOrders = true) (hg : gMkgoal Tryz.prog f) : SmCall Tryz.prog f (fun args h => (ctS gMk fMk args h).sel) :=
 ctS_ok hm noSm_ok (by decide) (fun ds a h => by
   unfold fMk at h
   split at h
   · simp only [Option.some.injEq, Prod.mk.injEq] at h
     obtain ⟨h1, rfl⟩ := h
     exact ⟨_, 1000, hg _ _ h1⟩
   · cases h)
theorem lHan_ok (hm : Tryz.prog.follows .mixedOrders = true) : SmAll Tryz.prog lHan :=
 ⟨smW hm @goalRenew_ok, smW hm @goalRenewR_ok, smW hm @goalGen_ok, smMk hm @goalMk_ok, smMk hm @goalMkR_ok, trivial⟩
theorem smHan {f : FuncId} {F : Int → Int → Int} (hm : Tryz.prog.follows .mixedOrders = true) (hg : goalHan Tryz.prog f F) : SmCall Tryz.prog f (fun args h => (ctS gPart (fHan F) args h).sel) :=
 ctS_ok hm (smL_ok (lHan_ok hm)) (by decide) (fun ds a h => by
   unfold fHan at h
   split at h
   · simp only [Option.some.injEq, Prod.mk.injEq] at h
     obtain ⟨h1, rfl⟩ := h
     exact ⟨_, 1000, @hg _ _ _ _ _ _ _ _ _ _ h1 (inU_renew h1) (inU_gen h1) (inU_gen (inU_renew h1))⟩
   · cases h)
theorem lLay_ok (hm : Tryz.prog.follows .mixedOrders = true) : SmAll Tryz.prog lLay :=
 ⟨smL2 (f := 106) (F := keyC) hm @goalKey_ok, smVal hm, smL1 (f := 135) (F := shapeC) hm @goalShp_ok, smPk hm @goalPack_ok,
  smR2 (f := 121) (F := keyC) hm @goalKeyR_ok, smValR hm, smR1 (f := 118) (F := shapeC) hm @goalShpR_ok, smPk hm @goalPackR_ok, trivial⟩
theorem yNat_yInt (m : Nat) : yNat (yInt m) = m := by unfold yNat yInt; omega
theorem yLe_nat {j : Int} {n : Nat} (h : yLe 0 j = true ∧ yLe j (yInt n) = true) : ∃ m : Nat, j = yInt m ∧ yNle m n = true := by
 simp only [yLe_t, yInt_e, yNle_t] at h ⊢; exact ⟨j.toNat, by omega, by omega⟩
end Go.Proofs.YtjhbimdaeofdlaaGreatDoor.Ex
end
section
namespace Go.Proofs.YtjhbimdaeofdlaaGreatDoor.Ex
open Go
def linkC (s t f slot : Int) : Int := if 0 ≤ slot ∧ slot ≤ s then nodeC t f slot + 2 else -1
def goalLnk : Prop := gL1goal Tryz.prog 97 linkC
def goalLnkR : Prop := gR1goal Tryz.prog 80 linkC
def goalLnkV : Prop := (∀ (s t f l p slot : Int), rightC s t f l p = true → (yAnd (yEq s 0) (yAnd (yEq t 0) (yAnd (yEq f 0) (yAnd (yEq l 0) (yAnd (yEq p 0) true)))) = true → linkC s t f slot = (-1 : Int)) ∧ (yAnd (yEq s 0) (yAnd (yEq t 0) (yAnd (yEq f 0) (yAnd (yEq l 0) (yAnd (yEq p 0) true)))) = false → (yLe 0 slot = true → (yNot (yLt slot (yWrap IntKind.i64 (yAdd s 1))) = true → linkC s t f slot = (-1 : Int)) ∧ (yNot (yLt slot (yWrap IntKind.i64 (yAdd s 1))) = false → linkC s t f slot = yWrap IntKind.i64 (yAdd (yWrap IntKind.i64 (yAdd (yWrap IntKind.i64 (yAdd (yWrap IntKind.i64 (yAdd (yWrap IntKind.i64 (yAdd 3 t)) (yWrap IntKind.i64 (yMul 2 t)))) (yWrap IntKind.i64 (yMul slot (yWrap IntKind.i64 (yAdd 3 (yWrap IntKind.i64 (yMul 2 f)))))))) 2)) 0))) ∧ (yLe 0 slot = false → linkC s t f slot = (-1 : Int))))
theorem goalLnk_eq : goalLnk = goalLnkV := by kernel_rfl
theorem goalLnk_vc : goalLnkV := by
 unfold goalLnkV
 intro s t f l p slot hr
 have h := rightC_iff.1 hr
 have hp := lay_prod (slot := slot) hr
 clear hr
 simp only [vS, forall_const]
 unfold linkC nodeC
 repeat' (first | apply And.intro | intro _)
 all_goals (try simp (disch := omega) only [wrap64] at *)
 all_goals (try (have hq := hp (by omega) (by omega); clear hp; simp (disch := omega) only [wrap64]))
 all_goals (try split)
 all_goals omega
theorem goalLnk_tt : (goalLnk) = True := goalLnk_eq.trans (eq_true goalLnk_vc)
theorem goalLnk_ok : goalLnk := @ft' goalLnk goalLnk_tt
def goalLnkRV : Prop := (∀ (s t f l p slot : Int), yAnd (rightC s t f l p) (yAnd (yLe 0 slot) (yLe slot s)) = true → linkC s t f slot = yWrap IntKind.i64 (yAdd (yWrap IntKind.i64 (yAdd (yWrap IntKind.i64 (yAdd 3 (yWrap IntKind.i64 (yMul 3 t)))) (yWrap IntKind.i64 (yMul slot (yWrap IntKind.i64 (yAdd 3 (yWrap IntKind.i64 (yMul 2 f)))))))) 2))
theorem goalLnkR_eq : goalLnkR = goalLnkRV := by kernel_rfl
theorem goalLnkR_vc : goalLnkRV := by
 unfold goalLnkRV
 intro s t f l p slot hr
 simp only [yAnd_t, yLe_t, yLt_t] at hr
 have h := rightC_iff.1 hr.1
 have hp := lay_prod (slot := slot) hr.1
 have hr2 := hr.2
 have hr3 := hr.1
 simp only [vS, forall_const]
 unfold linkC nodeC
 repeat' (first | apply And.intro | intro _)
 all_goals (try simp (disch := omega) only [wrap64] at *)
 all_goals (try (have hq := hp (by omega) (by omega); clear hp; simp (disch := omega) only [wrap64]))
 all_goals (try split)
 all_goals omega
theorem goalLnkR_tt : (goalLnkR) = True := goalLnkR_eq.trans (eq_true goalLnkR_vc)
theorem goalLnkR_ok : goalLnkR := @ft' goalLnkR goalLnkR_tt
abbrev dPb (s v : Int) (i kn : Bool) (nk : Nat) (k : Nat → Int) (vn : Bool) (nv : Nat) (w : Nat → Int) (l : Int) : Dx := .l [.v (.y .i64 s), .v (.y .u64 v), .v (.b i), .rows kn nk [.int .u64 k], .rows vn nv [.int .u64 w], .v (.y .u64 l)]
def layI (cs ct cf s j key val : Int) : List (Int × Int) := (if 0 < j then [(keyC cs ct cf s (j - 1), key)] else []) ++ [(valC cs ct cf s j, val)]
def keyI (k0 : Int) (k : Nat → Int) (j : Nat) : Int := if j = 0 then k0 else k (j - 1)
def shI (cs ct cf s : Int) (k w : Nat → Int) (j : Nat) (i : Nat) : List (Int × Int) := (List.range (i - j)).flatMap fun d => layI cs ct cf s ((j + d : Nat) : Int) (k (j + d)) (w (j + d + 1))
def cloIO (cs ct cf s : Int) (k w : Nat → Int) (n0 : Nat) (a0 b0 : Nat → Int) (j i : Nat) : List (Int × Int) := prw n0 a0 b0 ++ shI cs ct cf s k w j i
def dnI (cs ct cf s k0 : Int) (k w : Nat → Int) (n : Nat) (d : Nat) : List (Int × Int) := (List.range d).flatMap fun e => layI cs ct cf s ((n - 1 - e : Nat) : Int) (keyI k0 k (n - 2 - e)) (w (n - 2 - e))
def opIO (cs ct cf s k0 : Int) (k w : Nat → Int) (n0 : Nat) (a0 b0 : Nat → Int) (n d : Nat) : List (Int × Int) :=
 prw n0 a0 b0 ++ (layI cs ct cf s (n : Int) (keyI k0 k (n - 1)) (w (n - 1)) ++ [(shapeC cs ct cf s, packC true ((n : Int) + 1))]) ++ dnI cs ct cf s k0 k w n d
def opIR (cs ct cf s k0 : Int) (k w : Nat → Int) (n0 : Nat) (a0 b0 : Nat → Int) (n d : Nat) : List (Int × Int) :=
 match d with | 0 => prw n0 a0 b0 | d + 1 => opIO cs ct cf s k0 k w n0 a0 b0 n d
def opIL (cs ct cf s : Int) (k w : Nat → Int) (n0 : Nat) (a0 b0 : Nat → Int) (n j : Nat) (key val : Int) : List (Int × Int) :=
 if j = n then prw n0 a0 b0 ++ layI cs ct cf s (n : Int) key val ++ [(shapeC cs ct cf s, packC true ((n : Int) + 1))]
 else opIO cs ct cf s key k w n0 a0 b0 n (n - 1 - j) ++ layI cs ct cf s (j : Int) key val
def goalOpnI : Prop := ∀ (cs ct cf cl cp s v : Int) (kn : Bool) (nk : Nat) (k : Nat → Int) (vn : Bool) (nv : Nat) (w : Nat → Int) (l : Int) (nil0 : Bool) (n0 : Nat) (a0 b0 : Nat → Int) (j : Nat) (key val : Int) (L : List (Int × Int)) (O : Nat → List (Int × Int)),
 rightC cs ct cf cl cp = true → yNle nv 80 = true → yNle n0 1000 = true → yNle j nv = true → yIff nil0 (yNeq n0 0) = true → yNeq (yNadd nk 1) nv = true → L = opIL cs ct cf s k w n0 a0 b0 nv j key val → O = opIO cs ct cf s key k w n0 a0 b0 nv →
 wxP Tryz.prog (smL lLay) (annOpn cs ct cf cl cp O j nv) 68 [sPen, sPart, .sc, .sc, .sc] [dPen cs ct cf cl cp (.rows nil0 n0 [.int .i64 a0, .int .u64 b0]), dPb s v true kn nk k vn nv w l, .v (.y .i64 (yInt j)), .v (.y .u64 key), .v (.y .u64 val)] (.tup []) (.l []) [[.v (.y .i64 cs), .v (.y .i64 ct), .v (.y .i64 cf), .v (.y .i64 cl), .v (.y .i64 cp), rowsW L]]
def annOpRI (O : Nat → List (Int × Int)) (j nv : Nat) (b : Nat) : Option (St → LoopA) :=
 match b with
 | 0 => some fun z => { ι := Nat, tms := [1, 14], tmU := fun d => [slW z.h.nx (O d), .y .i64 (yInt (yNsub nv d))], ids := [z.h.nx], hpU := fun d => [arW (O d)], del := tmpId z.tm 1, ex := 1, pre := prOp j nv, ms := msFit (Nat.succ nv) }
 | _ => none
def goalOpRI : Prop := ∀ (cs ct cf cl cp s v : Int) (kn : Bool) (nk : Nat) (k : Nat → Int) (vn : Bool) (nv : Nat) (w : Nat → Int) (l : Int) (nil0 : Bool) (n0 : Nat) (a0 b0 : Nat → Int) (j : Nat) (key val : Int) (L : List (Int × Int)) (O : Nat → List (Int × Int)),
 rightC cs ct cf cl cp = true → yNle nv 80 = true → yNle n0 1000 = true → yNle j nv = true → yIff nil0 (yNeq n0 0) = true → yNeq (yNadd nk 1) nv = true → yAnd (yLe 0 s) (yLe s cs) = true → yLt (yInt nv) cf = true → L = opIL cs ct cf s k w n0 a0 b0 nv j key val → O = opIR cs ct cf s key k w n0 a0 b0 nv →
 wxP Tryz.prog (smL lLay) (annOpRI O j nv) 82 [sConf, ownW, sPart, .sc, .sc, .sc] [dCf cs ct cf cl cp, .rows nil0 n0 [.int .i64 a0, .int .u64 b0], dPt s v true kn nk k vn nv w l, .v (.y .i64 (yInt j)), .v (.y .u64 key), .v (.y .u64 val)] ownW (rowsW L) []
theorem layI_pos {cs ct cf s : Int} {j : Nat} {key val : Int} (h : 0 < j) : layI cs ct cf s (j : Int) key val = [(keyC cs ct cf s ((j : Int) - 1), key)] ++ [(valC cs ct cf s j, val)] := by
 unfold layI; rw [if_pos (by omega)]
theorem layI_zero {cs ct cf s key val : Int} : layI cs ct cf s ((0 : Nat) : Int) key val = [(valC cs ct cf s ((0 : Nat) : Int), val)] := by
 unfold layI; rw [if_neg (by omega)]; rfl
theorem layI_len {cs ct cf s : Int} {j : Nat} {key val : Int} : (layI cs ct cf s (j : Int) key val).length ≤ 2 := by
 unfold layI; split <;> simp
theorem cloIO_zero {cs ct cf s : Int} {k w : Nat → Int} {nil0 : Bool} {n0 : Nat} {a0 b0 : Nat → Int} {j : Nat} (h : nil0 = yNeq n0 0) : rE (cloIO cs ct cf s k w n0 a0 b0 j j) = nil0 ∧ rN (cloIO cs ct cf s k w n0 a0 b0 j j) = n0 ∧
   ∀ i, i + 1 ≤ rN (cloIO cs ct cf s k w n0 a0 b0 j j) → rA (cloIO cs ct cf s k w n0 a0 b0 j j) i = a0 i ∧ rB (cloIO cs ct cf s k w n0 a0 b0 j j) i = b0 i := by
 have := cloO_zero (cs := cs) (ct := ct) (cf := cf) (s := s) (k := k) (w := w) (a0 := a0) (b0 := b0) (j := 0) h
 have e : cloO cs ct cf s k w n0 a0 b0 0 0 = prw n0 a0 b0 := by simp [cloO, shO_self]
 have e2 : cloIO cs ct cf s k w n0 a0 b0 j j = prw n0 a0 b0 := by simp [cloIO, shI]
 rw [e] at this; rw [e2]
 exact this
theorem opIR_zero {cs ct cf s k0 : Int} {k w : Nat → Int} {nil0 : Bool} {n0 : Nat} {a0 b0 : Nat → Int} {n : Nat} (h : nil0 = yNeq n0 0) : rE (opIR cs ct cf s k0 k w n0 a0 b0 n 0) = nil0 ∧ rN (opIR cs ct cf s k0 k w n0 a0 b0 n 0) = n0 ∧
   ∀ i, i + 1 ≤ rN (opIR cs ct cf s k0 k w n0 a0 b0 n 0) → rA (opIR cs ct cf s k0 k w n0 a0 b0 n 0) i = a0 i ∧ rB (opIR cs ct cf s k0 k w n0 a0 b0 n 0) i = b0 i :=
 cloIO_zero (cs := cs) (ct := ct) (cf := cf) (s := s) (k := k) (w := w) (a0 := a0) (b0 := b0) (j := 0) h |> fun h => by
   have e2 : cloIO cs ct cf s k w n0 a0 b0 0 0 = prw n0 a0 b0 := by simp [cloIO, shI]
   rw [e2] at h; exact h
theorem opIR_one {cs ct cf s k0 : Int} {k w : Nat → Int} {n0 : Nat} {a0 b0 : Nat → Int} {n : Nat} (h : 0 < n) : opIR cs ct cf s k0 k w n0 a0 b0 n 1 = opIR cs ct cf s k0 k w n0 a0 b0 n 0 ++ [(keyC cs ct cf s ((n : Int) - 1), keyI k0 k (n - 1))] ++ [(valC cs ct cf s n, w (n - 1))] ++ [(shapeC cs ct cf s, packC true ((n : Int) + 1))] := by
 simp only [opIR, opIO, dnI, layI_pos h]
 simp
theorem opIR_step {cs ct cf s k0 : Int} {k w : Nat → Int} {n0 : Nat} {a0 b0 : Nat → Int} {n d : Nat} (h : 1 ≤ d) (hd : d < n) : opIR cs ct cf s k0 k w n0 a0 b0 n (d + 1) = opIR cs ct cf s k0 k w n0 a0 b0 n d ++ [(keyC cs ct cf s (((n - d : Nat) : Int) - 1), keyI k0 k (n - d - 1))] ++ [(valC cs ct cf s ((n - d : Nat) : Int), w (n - d - 1))] := by
 obtain ⟨e, rfl⟩ : ∃ e, d = e + 1 := ⟨d - 1, by omega⟩
 simp only [opIR, opIO, dnI, List.range_succ, List.flatMap_append, List.flatMap_cons, List.flatMap_nil, List.append_nil]
 rw [show n - 1 - e = n - (e + 1) by omega, show n - 2 - e = n - (e + 1) - 1 by omega, layI_pos (j := n - (e + 1)) (by omega)]
 simp
theorem opIR_len {cs ct cf s k0 : Int} {k w : Nat → Int} {n0 : Nat} {a0 b0 : Nat → Int} {n : Nat} : ∀ d, rN (opIR cs ct cf s k0 k w n0 a0 b0 n d) ≤ n0 + 2 * d + 1
 | 0 => by simp [opIR, rN, prw_len]
 | 1 => by
   have h2 := layI_len (cs := cs) (ct := ct) (cf := cf) (s := s) (j := n) (key := keyI k0 k (n - 1)) (val := w (n - 1))
   simp only [opIR, opIO, dnI, rN, List.length_append, prw_len, List.length_cons, List.length_nil, List.range_zero, List.flatMap_nil]; omega
 | d + 2 => by
   have := opIR_len (cs := cs) (ct := ct) (cf := cf) (s := s) (k0 := k0) (k := k) (w := w) (n0 := n0) (a0 := a0) (b0 := b0) (n := n) (d + 1)
   have h2 := layI_len (cs := cs) (ct := ct) (cf := cf) (s := s) (j := n - 1 - d) (key := keyI k0 k (n - 2 - d)) (val := w (n - 2 - d))
   simp only [opIR, opIO, dnI, List.range_succ, List.flatMap_append, List.flatMap_cons, List.flatMap_nil, List.append_nil, rN, List.length_append] at this ⊢
   omega
theorem keyI_pos {k0 : Int} {k : Nat → Int} {j : Nat} (h : 0 < j) : keyI k0 k j = k (j - 1) := by unfold keyI; rw [if_neg (by omega)]
theorem keyI_zero {k0 : Int} {k : Nat → Int} {j : Nat} (h : j = 0) : keyI k0 k j = k0 := by unfold keyI; rw [if_pos h]
def goalOpRI_1 (cs : Int) (ct : Int) (cf : Int) (cl : Int) (cp : Int) (s : Int) := yAnd (rightC cs ct cf cl cp) (yAnd (yLe 0 s) (yLe s cs))
def goalOpRI_10 (O : Nat → List (Int × Int)) (i : Nat) := yGrow (yNadd (rN (O i)) 1) (nat_lit 16) = false → False
def goalOpRI_12 (cs : Int) (ct : Int) (cf : Int) (cl : Int) (cp : Int) (s : Int) := yAnd (rightC cs ct cf cl cp) (yAnd (yLe 0 s) (yLe s cs)) = false → False
def goalOpRI_3 (nv : Nat) (i : Nat) (cf : Int) := yAnd (yLe 0 (yInt (yNsub nv i))) (yLt (yInt (yNsub nv i)) cf)
def goalOpRI_15 (cs : Int) (ct : Int) (cf : Int) (cl : Int) (cp : Int) (s : Int) (nv : Nat) (i : Nat) := yAnd (goalOpRI_1 cs ct cf cl cp s) (goalOpRI_3 nv i cf) = false → False
def goalOpRI_2 (nv : Nat) (i : Nat) := yNadd 0 (yNat (yWrap IntKind.i64 (ySub (yInt (yNsub nv i)) 1)))
def goalOpRI_6 (O : Nat → List (Int × Int)) (i : Nat) := yGrow (yNadd (yNadd (rN (O i)) 1) 1) (nat_lit 16) = false → False
def goalOpRI_7 (O : Nat → List (Int × Int)) (i : Nat) := yNeq (yNadd (rN (O i)) 1) (yNadd (rN (O i)) 1) = false → False
def goalOpRI_0 (nv : Nat) (i : Nat) (cs : Int) (ct : Int) (cf : Int) (cl : Int) (cp : Int) (s : Int) (O : Nat → List (Int × Int)) (j : Nat) (w : Nat → Int) := yLt 0 (yInt (yNsub nv i)) = false → (yAnd (goalOpRI_1 cs ct cf cl cp s) (goalOpRI_3 nv i cf) = true → mst (yNeq (rN (O i)) (rN (O i))) ((yGrow (yNadd (rN (O i)) 1) (nat_lit 16) = true → (yEq (yInt (yNsub nv i)) (yInt nv) = true → (yAnd (rightC cs ct cf cl cp) (yAnd (yLe 0 s) (yLe s cs)) = true → mst (true) ((yNeq (yNadd (rN (O i)) 1) (yNadd (rN (O i)) 1) = true → (yGrow (yNadd (yNadd (rN (O i)) 1) 1) (nat_lit 16) = true → true = true ∧ ∃ (i' : Nat), prOp j nv i' ∧ Nat.succ (msFit (Nat.succ nv) i') ≤ msFit (Nat.succ nv) i ∧ true = true ∧ rE (O i') = yAnd (yAnd (rE (O i)) (yNeq 1 0)) (yNeq 1 0) ∧ nat_lit 0 = nat_lit 0 ∧ rN (O i') = yNadd (yNadd (rN (O i)) 1) 1 ∧ yInt (yNsub nv i') = yWrap IntKind.i64 (ySub (yInt (yNsub nv i)) 1) ∧ rN (O i') = yNadd (yNadd (rN (O i)) 1) 1 ∧ (∀ (i_1 : Nat), Nat.succ i_1 ≤ rN (O i') → rA (O i') i_1 = ySel (yNlt i_1 (yNadd (rN (O i)) 1)) (ySel (yNlt i_1 (rN (O i))) (rA (O i) i_1) (valC cs ct cf s (yInt (yNsub nv i)))) (shapeC cs ct cf s) ∧ rB (O i') i_1 = ySel (yNlt i_1 (yNadd (rN (O i)) 1)) (ySel (yNlt i_1 (rN (O i))) (rB (O i) i_1) (w (goalOpRI_2 nv i))) (packC true (yWrap IntKind.i64 (yAdd (yInt nv) 1))) ∧ True) ∧ true = true) ∧ (goalOpRI_6 O i)) ∧ (goalOpRI_7 O i))) ∧ (goalOpRI_12 cs ct cf cl cp s)) ∧ (yEq (yInt (yNsub nv i)) (yInt nv) = false → true = true ∧ ∃ (i' : Nat), prOp j nv i' ∧ Nat.succ (msFit (Nat.succ nv) i') ≤ msFit (Nat.succ nv) i ∧ true = true ∧ rE (O i') = yAnd (rE (O i)) (yNeq 1 0) ∧ nat_lit 0 = nat_lit 0 ∧ rN (O i') = yNadd (rN (O i)) 1 ∧ yInt (yNsub nv i') = yWrap IntKind.i64 (ySub (yInt (yNsub nv i)) 1) ∧ rN (O i') = yNadd (rN (O i)) 1 ∧ (∀ (i_1 : Nat), Nat.succ i_1 ≤ rN (O i') → rA (O i') i_1 = ySel (yNlt i_1 (rN (O i))) (rA (O i) i_1) (valC cs ct cf s (yInt (yNsub nv i))) ∧ rB (O i') i_1 = ySel (yNlt i_1 (rN (O i))) (rB (O i) i_1) (w (goalOpRI_2 nv i)) ∧ True) ∧ true = true)) ∧ (goalOpRI_10 O i))) ∧ (goalOpRI_15 cs ct cf cl cp s nv i)
def goalOpRI_4 (O : Nat → List (Int × Int)) (i : Nat) := yNadd (yNadd (yNadd (rN (O i)) 1) 1) 1
def goalOpRI_5 (nv : Nat) (i : Nat) (cf : Int) := yAnd (yLe 0 (yWrap IntKind.i64 (ySub (yInt (yNsub nv i)) 1))) (yLt (yWrap IntKind.i64 (ySub (yInt (yNsub nv i)) 1)) cf)
def goalOpRI_8 (nv : Nat) (i : Nat) := yWrap IntKind.i64 (ySub (yWrap IntKind.i64 (ySub (yInt (yNsub nv i)) 1)) 1)
def goalOpRI_9 (O : Nat → List (Int × Int)) (i : Nat) := yNeq (yNadd (yNadd (rN (O i)) 1) 1) (yNadd (yNadd (rN (O i)) 1) 1) = false → False
def goalOpRI_11 (i_1 : Nat) (O : Nat → List (Int × Int)) (i : Nat) := yNlt i_1 (yNadd (yNadd (rN (O i)) 1) 1)
def goalOpRI_13 (O : Nat → List (Int × Int)) (i : Nat) := yAnd (yAnd (rE (O i)) (yNeq 1 0)) (yNeq 1 0)
def goalOpRI_14 (i_1 : Nat) (O : Nat → List (Int × Int)) (i : Nat) (cs : Int) (ct : Int) (cf : Int) (s : Int) (nv : Nat) := ySel (yNlt i_1 (rN (O i))) (rA (O i) i_1) (keyC cs ct cf s (yWrap IntKind.i64 (ySub (yInt (yNsub nv i)) 1)))
def goalOpRIV : Prop := (∀ (cs ct cf cl cp s v : Int) (kn : Bool) (nk : Nat) (k : Nat → Int) (vn : Bool) (nv : Nat) (w : Nat → Int) (l : Int) (nil0 : Bool) (n0 : Nat) (a0 b0 : Nat → Int) (j : Nat) (key val : Int) (L : List (Int × Int)) (O : Nat → List (Int × Int)), rightC cs ct cf cl cp = true → yNle nv (nat_lit 80) = true → yNle n0 (nat_lit 1000) = true → yNle j nv = true → yIff nil0 (yNeq n0 0) = true → yNeq (yNadd nk 1) nv = true → yAnd (yLe 0 s) (yLe s cs) = true → yLt (yInt nv) cf = true → L = opIL cs ct cf s k w n0 a0 b0 nv j key val → O = opIR cs ct cf s key k w n0 a0 b0 nv → (yEq (yInt j) (yInt nv) = true → (yNot true = true → mst (yAnd (goalOpRI_1 cs ct cf cl cp s) (yAnd (yLe 0 (yInt nv)) (yLt (yInt nv) cf))) (mst (yNeq n0 n0) (mst (yGrow (yNadd n0 1) 16) (mst (yAnd (goalOpRI_1 cs ct cf cl cp s) (yAnd (yLe 0 (yInt nv)) (yLt (yInt nv) cf))) (mst (yNeq (yNadd n0 1) (yNadd n0 1)) (mst (yGrow (yNadd (yNadd n0 1) 1) 16) ((yAnd (rightC cs ct cf cl cp) (yAnd (yLe 0 s) (yLe s cs)) = true → mst (true) (mst (yNeq (yNadd (yNadd n0 1) 1) (yNadd (yNadd n0 1) 1)) (mst (yGrow (yNadd (yNadd (yNadd n0 1) 1) 1) 16) (rE L = yAnd (yAnd (yAnd nil0 (yNeq 1 0)) (yNeq 1 0)) (yNeq 1 0) ∧ nat_lit 0 = nat_lit 0 ∧ rN L = yNadd (yNadd (yNadd n0 1) 1) 1 ∧ rN L = yNadd (yNadd (yNadd n0 1) 1) 1 ∧ (∀ (i : Nat), Nat.succ i ≤ rN L → rA L i = ySel (yNlt i (yNadd (yNadd n0 1) 1)) (ySel (yNlt i (yNadd n0 1)) (ySel (yNlt i n0) (a0 i) (keyC cs ct cf s (yInt nv))) (valC cs ct cf s (yInt nv))) (shapeC cs ct cf s) ∧ rB L i = ySel (yNlt i (yNadd (yNadd n0 1) 1)) (ySel (yNlt i (yNadd n0 1)) (ySel (yNlt i n0) (b0 i) key) val) (packC true (yWrap IntKind.i64 (yAdd (yInt nv) 1))) ∧ True) ∧ true = true)))) ∧ (goalOpRI_12 cs ct cf cl cp s)))))))) ∧ (yNot true = false → (yLt 0 (yInt nv) = true → mst (yAnd (goalOpRI_1 cs ct cf cl cp s) (yAnd (yLe 0 (yWrap IntKind.i64 (ySub (yInt nv) 1))) (yLt (yWrap IntKind.i64 (ySub (yInt nv) 1)) cf))) (mst (yNeq n0 n0) (mst (yGrow (yNadd n0 1) 16) (mst (yAnd (goalOpRI_1 cs ct cf cl cp s) (yAnd (yLe 0 (yInt nv)) (yLt (yInt nv) cf))) (mst (yNeq (yNadd n0 1) (yNadd n0 1)) (mst (yGrow (yNadd (yNadd n0 1) 1) 16) ((yAnd (rightC cs ct cf cl cp) (yAnd (yLe 0 s) (yLe s cs)) = true → mst (true) (mst (yNeq (yNadd (yNadd n0 1) 1) (yNadd (yNadd n0 1) 1)) (mst (yGrow (yNadd (yNadd (yNadd n0 1) 1) 1) 16) (rE L = yAnd (yAnd (yAnd nil0 (yNeq 1 0)) (yNeq 1 0)) (yNeq 1 0) ∧ nat_lit 0 = nat_lit 0 ∧ rN L = yNadd (yNadd (yNadd n0 1) 1) 1 ∧ rN L = yNadd (yNadd (yNadd n0 1) 1) 1 ∧ (∀ (i : Nat), Nat.succ i ≤ rN L → rA L i = ySel (yNlt i (yNadd (yNadd n0 1) 1)) (ySel (yNlt i (yNadd n0 1)) (ySel (yNlt i n0) (a0 i) (keyC cs ct cf s (yWrap IntKind.i64 (ySub (yInt nv) 1)))) (valC cs ct cf s (yInt nv))) (shapeC cs ct cf s) ∧ rB L i = ySel (yNlt i (yNadd (yNadd n0 1) 1)) (ySel (yNlt i (yNadd n0 1)) (ySel (yNlt i n0) (b0 i) key) val) (packC true (yWrap IntKind.i64 (yAdd (yInt nv) 1))) ∧ True) ∧ true = true)))) ∧ (goalOpRI_12 cs ct cf cl cp s)))))))) ∧ (yLt 0 (yInt nv) = false → mst (yAnd (goalOpRI_1 cs ct cf cl cp s) (yAnd (yLe 0 (yInt nv)) (yLt (yInt nv) cf))) (mst (yNeq n0 n0) (mst (yGrow (yNadd n0 1) 16) ((yAnd (rightC cs ct cf cl cp) (yAnd (yLe 0 s) (yLe s cs)) = true → mst (true) (mst (yNeq (yNadd n0 1) (yNadd n0 1)) (mst (yGrow (yNadd (yNadd n0 1) 1) 16) (rE L = yAnd (yAnd nil0 (yNeq 1 0)) (yNeq 1 0) ∧ nat_lit 0 = nat_lit 0 ∧ rN L = yNadd (yNadd n0 1) 1 ∧ rN L = yNadd (yNadd n0 1) 1 ∧ (∀ (i : Nat), Nat.succ i ≤ rN L → rA L i = ySel (yNlt i (yNadd n0 1)) (ySel (yNlt i n0) (a0 i) (valC cs ct cf s (yInt nv))) (shapeC cs ct cf s) ∧ rB L i = ySel (yNlt i (yNadd n0 1)) (ySel (yNlt i n0) (b0 i) val) (packC true (yWrap IntKind.i64 (yAdd (yInt nv) 1))) ∧ True) ∧ true = true)))) ∧ (goalOpRI_12 cs ct cf cl cp s))))))) ∧ (yEq (yInt j) (yInt nv) = false → true = true ∧ (∃ (i0 : Nat), prOp j nv i0 ∧ true = true ∧ rE (O i0) = nil0 ∧ nat_lit 0 = nat_lit 0 ∧ rN (O i0) = n0 ∧ yInt (yNsub nv i0) = yInt nv ∧ rN (O i0) = n0 ∧ (∀ (i : Nat), Nat.succ i ≤ rN (O i0) → rA (O i0) i = a0 i ∧ rB (O i0) i = b0 i ∧ True) ∧ true = true) ∧ ∀ (g : Nat → AV) (i : Nat), prOp j nv i → (yLt (yInt j) (yInt (yNsub nv i)) = true → (yNot true = true → mst (yIn (yWrap IntKind.i64 (ySub (yInt (yNsub nv i)) 1)) nk) (mst (yNlt (goalOpRI_2 nv i) nk) (mst (yIn (yWrap IntKind.i64 (ySub (yInt (yNsub nv i)) 1)) nv) (mst (yNlt (goalOpRI_2 nv i) nv) ((yNot true = true → (yAnd (goalOpRI_1 cs ct cf cl cp s) (goalOpRI_3 nv i cf) = true → mst (yNeq (rN (O i)) (rN (O i))) ((yGrow (yNadd (rN (O i)) 1) (nat_lit 16) = true → (yAnd (goalOpRI_1 cs ct cf cl cp s) (goalOpRI_3 nv i cf) = true → (yNeq (yNadd (rN (O i)) 1) (yNadd (rN (O i)) 1) = true → (yGrow (yNadd (yNadd (rN (O i)) 1) 1) (nat_lit 16) = true → (yEq (yInt (yNsub nv i)) (yInt nv) = true → (yAnd (rightC cs ct cf cl cp) (yAnd (yLe 0 s) (yLe s cs)) = true → mst (true) ((yNeq (yNadd (yNadd (rN (O i)) 1) 1) (yNadd (yNadd (rN (O i)) 1) 1) = true → mst (yGrow (goalOpRI_4 O i) 16) (true = true ∧ ∃ (i' : Nat), prOp j nv i' ∧ Nat.succ (msFit (Nat.succ nv) i') ≤ msFit (Nat.succ nv) i ∧ true = true ∧ rE (O i') = yAnd (goalOpRI_13 O i) (yNeq 1 0) ∧ nat_lit 0 = nat_lit 0 ∧ rN (O i') = yNadd (yNadd (yNadd (rN (O i)) 1) 1) 1 ∧ yInt (yNsub nv i') = yWrap IntKind.i64 (ySub (yInt (yNsub nv i)) 1) ∧ rN (O i') = yNadd (yNadd (yNadd (rN (O i)) 1) 1) 1 ∧ (∀ (i_1 : Nat), Nat.succ i_1 ≤ rN (O i') → rA (O i') i_1 = ySel (goalOpRI_11 i_1 O i) (ySel (yNlt i_1 (yNadd (rN (O i)) 1)) (ySel (yNlt i_1 (rN (O i))) (rA (O i) i_1) (keyC cs ct cf s (yInt (yNsub nv i)))) (valC cs ct cf s (yInt (yNsub nv i)))) (shapeC cs ct cf s) ∧ rB (O i') i_1 = ySel (goalOpRI_11 i_1 O i) (ySel (yNlt i_1 (yNadd (rN (O i)) 1)) (ySel (yNlt i_1 (rN (O i))) (rB (O i) i_1) (k (goalOpRI_2 nv i))) (w (goalOpRI_2 nv i))) (packC true (yWrap IntKind.i64 (yAdd (yInt nv) 1))) ∧ True) ∧ true = true)) ∧ (goalOpRI_9 O i))) ∧ (goalOpRI_12 cs ct cf cl cp s)) ∧ (yEq (yInt (yNsub nv i)) (yInt nv) = false → true = true ∧ ∃ (i' : Nat), prOp j nv i' ∧ Nat.succ (msFit (Nat.succ nv) i') ≤ msFit (Nat.succ nv) i ∧ true = true ∧ rE (O i') = yAnd (yAnd (rE (O i)) (yNeq 1 0)) (yNeq 1 0) ∧ nat_lit 0 = nat_lit 0 ∧ rN (O i') = yNadd (yNadd (rN (O i)) 1) 1 ∧ yInt (yNsub nv i') = yWrap IntKind.i64 (ySub (yInt (yNsub nv i)) 1) ∧ rN (O i') = yNadd (yNadd (rN (O i)) 1) 1 ∧ (∀ (i_1 : Nat), Nat.succ i_1 ≤ rN (O i') → rA (O i') i_1 = ySel (yNlt i_1 (yNadd (rN (O i)) 1)) (ySel (yNlt i_1 (rN (O i))) (rA (O i) i_1) (keyC cs ct cf s (yInt (yNsub nv i)))) (valC cs ct cf s (yInt (yNsub nv i))) ∧ rB (O i') i_1 = ySel (yNlt i_1 (yNadd (rN (O i)) 1)) (ySel (yNlt i_1 (rN (O i))) (rB (O i) i_1) (k (goalOpRI_2 nv i))) (w (goalOpRI_2 nv i)) ∧ True) ∧ true = true)) ∧ (goalOpRI_6 O i)) ∧ (goalOpRI_7 O i)) ∧ (goalOpRI_15 cs ct cf cl cp s nv i)) ∧ (goalOpRI_10 O i))) ∧ (goalOpRI_15 cs ct cf cl cp s nv i)) ∧ (yNot true = false → (yLt 0 (yInt (yNsub nv i)) = true → mst (yAnd (goalOpRI_1 cs ct cf cl cp s) (goalOpRI_5 nv i cf)) (mst (yNeq (rN (O i)) (rN (O i))) ((yGrow (yNadd (rN (O i)) 1) (nat_lit 16) = true → (yAnd (goalOpRI_1 cs ct cf cl cp s) (goalOpRI_3 nv i cf) = true → (yNeq (yNadd (rN (O i)) 1) (yNadd (rN (O i)) 1) = true → (yGrow (yNadd (yNadd (rN (O i)) 1) 1) (nat_lit 16) = true → (yEq (yInt (yNsub nv i)) (yInt nv) = true → (yAnd (rightC cs ct cf cl cp) (yAnd (yLe 0 s) (yLe s cs)) = true → mst (true) ((yNeq (yNadd (yNadd (rN (O i)) 1) 1) (yNadd (yNadd (rN (O i)) 1) 1) = true → mst (yGrow (goalOpRI_4 O i) 16) (true = true ∧ ∃ (i' : Nat), prOp j nv i' ∧ Nat.succ (msFit (Nat.succ nv) i') ≤ msFit (Nat.succ nv) i ∧ true = true ∧ rE (O i') = yAnd (goalOpRI_13 O i) (yNeq 1 0) ∧ nat_lit 0 = nat_lit 0 ∧ rN (O i') = yNadd (yNadd (yNadd (rN (O i)) 1) 1) 1 ∧ yInt (yNsub nv i') = yWrap IntKind.i64 (ySub (yInt (yNsub nv i)) 1) ∧ rN (O i') = yNadd (yNadd (yNadd (rN (O i)) 1) 1) 1 ∧ (∀ (i_1 : Nat), Nat.succ i_1 ≤ rN (O i') → rA (O i') i_1 = ySel (goalOpRI_11 i_1 O i) (ySel (yNlt i_1 (yNadd (rN (O i)) 1)) (goalOpRI_14 i_1 O i cs ct cf s nv) (valC cs ct cf s (yInt (yNsub nv i)))) (shapeC cs ct cf s) ∧ rB (O i') i_1 = ySel (goalOpRI_11 i_1 O i) (ySel (yNlt i_1 (yNadd (rN (O i)) 1)) (ySel (yNlt i_1 (rN (O i))) (rB (O i) i_1) (k (goalOpRI_2 nv i))) (w (goalOpRI_2 nv i))) (packC true (yWrap IntKind.i64 (yAdd (yInt nv) 1))) ∧ True) ∧ true = true)) ∧ (goalOpRI_9 O i))) ∧ (goalOpRI_12 cs ct cf cl cp s)) ∧ (yEq (yInt (yNsub nv i)) (yInt nv) = false → true = true ∧ ∃ (i' : Nat), prOp j nv i' ∧ Nat.succ (msFit (Nat.succ nv) i') ≤ msFit (Nat.succ nv) i ∧ true = true ∧ rE (O i') = yAnd (yAnd (rE (O i)) (yNeq 1 0)) (yNeq 1 0) ∧ nat_lit 0 = nat_lit 0 ∧ rN (O i') = yNadd (yNadd (rN (O i)) 1) 1 ∧ yInt (yNsub nv i') = yWrap IntKind.i64 (ySub (yInt (yNsub nv i)) 1) ∧ rN (O i') = yNadd (yNadd (rN (O i)) 1) 1 ∧ (∀ (i_1 : Nat), Nat.succ i_1 ≤ rN (O i') → rA (O i') i_1 = ySel (yNlt i_1 (yNadd (rN (O i)) 1)) (goalOpRI_14 i_1 O i cs ct cf s nv) (valC cs ct cf s (yInt (yNsub nv i))) ∧ rB (O i') i_1 = ySel (yNlt i_1 (yNadd (rN (O i)) 1)) (ySel (yNlt i_1 (rN (O i))) (rB (O i) i_1) (k (goalOpRI_2 nv i))) (w (goalOpRI_2 nv i)) ∧ True) ∧ true = true)) ∧ (goalOpRI_6 O i)) ∧ (goalOpRI_7 O i)) ∧ (goalOpRI_15 cs ct cf cl cp s nv i)) ∧ (goalOpRI_10 O i)))) ∧ (goalOpRI_0 nv i cs ct cf cl cp s O j w))))))) ∧ (yNot true = false → (yEq (yWrap IntKind.i64 (ySub (yInt (yNsub nv i)) 1)) (0 : Int) = true → mst (yIn (yWrap IntKind.i64 (ySub (yInt (yNsub nv i)) 1)) nv) (mst (yNlt (goalOpRI_2 nv i) nv) ((yNot true = true → (yAnd (goalOpRI_1 cs ct cf cl cp s) (goalOpRI_3 nv i cf) = true → mst (yNeq (rN (O i)) (rN (O i))) ((yGrow (yNadd (rN (O i)) 1) (nat_lit 16) = true → (yAnd (goalOpRI_1 cs ct cf cl cp s) (goalOpRI_3 nv i cf) = true → (yNeq (yNadd (rN (O i)) 1) (yNadd (rN (O i)) 1) = true → (yGrow (yNadd (yNadd (rN (O i)) 1) 1) (nat_lit 16) = true → (yEq (yInt (yNsub nv i)) (yInt nv) = true → (yAnd (rightC cs ct cf cl cp) (yAnd (yLe 0 s) (yLe s cs)) = true → mst (true) ((yNeq (yNadd (yNadd (rN (O i)) 1) 1) (yNadd (yNadd (rN (O i)) 1) 1) = true → mst (yGrow (goalOpRI_4 O i) 16) (true = true ∧ ∃ (i' : Nat), prOp j nv i' ∧ Nat.succ (msFit (Nat.succ nv) i') ≤ msFit (Nat.succ nv) i ∧ true = true ∧ rE (O i') = yAnd (goalOpRI_13 O i) (yNeq 1 0) ∧ nat_lit 0 = nat_lit 0 ∧ rN (O i') = yNadd (yNadd (yNadd (rN (O i)) 1) 1) 1 ∧ yInt (yNsub nv i') = yWrap IntKind.i64 (ySub (yInt (yNsub nv i)) 1) ∧ rN (O i') = yNadd (yNadd (yNadd (rN (O i)) 1) 1) 1 ∧ (∀ (i_1 : Nat), Nat.succ i_1 ≤ rN (O i') → rA (O i') i_1 = ySel (goalOpRI_11 i_1 O i) (ySel (yNlt i_1 (yNadd (rN (O i)) 1)) (ySel (yNlt i_1 (rN (O i))) (rA (O i) i_1) (keyC cs ct cf s (yInt (yNsub nv i)))) (valC cs ct cf s (yInt (yNsub nv i)))) (shapeC cs ct cf s) ∧ rB (O i') i_1 = ySel (goalOpRI_11 i_1 O i) (ySel (yNlt i_1 (yNadd (rN (O i)) 1)) (ySel (yNlt i_1 (rN (O i))) (rB (O i) i_1) key) (w (goalOpRI_2 nv i))) (packC true (yWrap IntKind.i64 (yAdd (yInt nv) 1))) ∧ True) ∧ true = true)) ∧ (goalOpRI_9 O i))) ∧ (goalOpRI_12 cs ct cf cl cp s)) ∧ (yEq (yInt (yNsub nv i)) (yInt nv) = false → true = true ∧ ∃ (i' : Nat), prOp j nv i' ∧ Nat.succ (msFit (Nat.succ nv) i') ≤ msFit (Nat.succ nv) i ∧ true = true ∧ rE (O i') = yAnd (yAnd (rE (O i)) (yNeq 1 0)) (yNeq 1 0) ∧ nat_lit 0 = nat_lit 0 ∧ rN (O i') = yNadd (yNadd (rN (O i)) 1) 1 ∧ yInt (yNsub nv i') = yWrap IntKind.i64 (ySub (yInt (yNsub nv i)) 1) ∧ rN (O i') = yNadd (yNadd (rN (O i)) 1) 1 ∧ (∀ (i_1 : Nat), Nat.succ i_1 ≤ rN (O i') → rA (O i') i_1 = ySel (yNlt i_1 (yNadd (rN (O i)) 1)) (ySel (yNlt i_1 (rN (O i))) (rA (O i) i_1) (keyC cs ct cf s (yInt (yNsub nv i)))) (valC cs ct cf s (yInt (yNsub nv i))) ∧ rB (O i') i_1 = ySel (yNlt i_1 (yNadd (rN (O i)) 1)) (ySel (yNlt i_1 (rN (O i))) (rB (O i) i_1) key) (w (goalOpRI_2 nv i)) ∧ True) ∧ true = true)) ∧ (goalOpRI_6 O i)) ∧ (goalOpRI_7 O i)) ∧ (goalOpRI_15 cs ct cf cl cp s nv i)) ∧ (goalOpRI_10 O i))) ∧ (goalOpRI_15 cs ct cf cl cp s nv i)) ∧ (yNot true = false → (yLt 0 (yInt (yNsub nv i)) = true → mst (yAnd (goalOpRI_1 cs ct cf cl cp s) (goalOpRI_5 nv i cf)) (mst (yNeq (rN (O i)) (rN (O i))) ((yGrow (yNadd (rN (O i)) 1) (nat_lit 16) = true → (yAnd (goalOpRI_1 cs ct cf cl cp s) (goalOpRI_3 nv i cf) = true → (yNeq (yNadd (rN (O i)) 1) (yNadd (rN (O i)) 1) = true → (yGrow (yNadd (yNadd (rN (O i)) 1) 1) (nat_lit 16) = true → (yEq (yInt (yNsub nv i)) (yInt nv) = true → (yAnd (rightC cs ct cf cl cp) (yAnd (yLe 0 s) (yLe s cs)) = true → mst (true) ((yNeq (yNadd (yNadd (rN (O i)) 1) 1) (yNadd (yNadd (rN (O i)) 1) 1) = true → mst (yGrow (goalOpRI_4 O i) 16) (true = true ∧ ∃ (i' : Nat), prOp j nv i' ∧ Nat.succ (msFit (Nat.succ nv) i') ≤ msFit (Nat.succ nv) i ∧ true = true ∧ rE (O i') = yAnd (goalOpRI_13 O i) (yNeq 1 0) ∧ nat_lit 0 = nat_lit 0 ∧ rN (O i') = yNadd (yNadd (yNadd (rN (O i)) 1) 1) 1 ∧ yInt (yNsub nv i') = yWrap IntKind.i64 (ySub (yInt (yNsub nv i)) 1) ∧ rN (O i') = yNadd (yNadd (yNadd (rN (O i)) 1) 1) 1 ∧ (∀ (i_1 : Nat), Nat.succ i_1 ≤ rN (O i') → rA (O i') i_1 = ySel (goalOpRI_11 i_1 O i) (ySel (yNlt i_1 (yNadd (rN (O i)) 1)) (goalOpRI_14 i_1 O i cs ct cf s nv) (valC cs ct cf s (yInt (yNsub nv i)))) (shapeC cs ct cf s) ∧ rB (O i') i_1 = ySel (goalOpRI_11 i_1 O i) (ySel (yNlt i_1 (yNadd (rN (O i)) 1)) (ySel (yNlt i_1 (rN (O i))) (rB (O i) i_1) key) (w (goalOpRI_2 nv i))) (packC true (yWrap IntKind.i64 (yAdd (yInt nv) 1))) ∧ True) ∧ true = true)) ∧ (goalOpRI_9 O i))) ∧ (goalOpRI_12 cs ct cf cl cp s)) ∧ (yEq (yInt (yNsub nv i)) (yInt nv) = false → true = true ∧ ∃ (i' : Nat), prOp j nv i' ∧ Nat.succ (msFit (Nat.succ nv) i') ≤ msFit (Nat.succ nv) i ∧ true = true ∧ rE (O i') = yAnd (yAnd (rE (O i)) (yNeq 1 0)) (yNeq 1 0) ∧ nat_lit 0 = nat_lit 0 ∧ rN (O i') = yNadd (yNadd (rN (O i)) 1) 1 ∧ yInt (yNsub nv i') = yWrap IntKind.i64 (ySub (yInt (yNsub nv i)) 1) ∧ rN (O i') = yNadd (yNadd (rN (O i)) 1) 1 ∧ (∀ (i_1 : Nat), Nat.succ i_1 ≤ rN (O i') → rA (O i') i_1 = ySel (yNlt i_1 (yNadd (rN (O i)) 1)) (goalOpRI_14 i_1 O i cs ct cf s nv) (valC cs ct cf s (yInt (yNsub nv i))) ∧ rB (O i') i_1 = ySel (yNlt i_1 (yNadd (rN (O i)) 1)) (ySel (yNlt i_1 (rN (O i))) (rB (O i) i_1) key) (w (goalOpRI_2 nv i)) ∧ True) ∧ true = true)) ∧ (goalOpRI_6 O i)) ∧ (goalOpRI_7 O i)) ∧ (goalOpRI_15 cs ct cf cl cp s nv i)) ∧ (goalOpRI_10 O i)))) ∧ (goalOpRI_0 nv i cs ct cf cl cp s O j w))))) ∧ (yEq (yWrap IntKind.i64 (ySub (yInt (yNsub nv i)) 1)) (0 : Int) = false → mst (yIn (goalOpRI_8 nv i) nk) (mst (yNlt (yNadd 0 (yNat (goalOpRI_8 nv i))) nk) (mst (yIn (yWrap IntKind.i64 (ySub (yInt (yNsub nv i)) 1)) nv) (mst (yNlt (goalOpRI_2 nv i) nv) ((yNot true = true → (yAnd (goalOpRI_1 cs ct cf cl cp s) (goalOpRI_3 nv i cf) = true → mst (yNeq (rN (O i)) (rN (O i))) ((yGrow (yNadd (rN (O i)) 1) (nat_lit 16) = true → (yAnd (goalOpRI_1 cs ct cf cl cp s) (goalOpRI_3 nv i cf) = true → (yNeq (yNadd (rN (O i)) 1) (yNadd (rN (O i)) 1) = true → (yGrow (yNadd (yNadd (rN (O i)) 1) 1) (nat_lit 16) = true → (yEq (yInt (yNsub nv i)) (yInt nv) = true → (yAnd (rightC cs ct cf cl cp) (yAnd (yLe 0 s) (yLe s cs)) = true → mst (true) ((yNeq (yNadd (yNadd (rN (O i)) 1) 1) (yNadd (yNadd (rN (O i)) 1) 1) = true → mst (yGrow (goalOpRI_4 O i) 16) (true = true ∧ ∃ (i' : Nat), prOp j nv i' ∧ Nat.succ (msFit (Nat.succ nv) i') ≤ msFit (Nat.succ nv) i ∧ true = true ∧ rE (O i') = yAnd (goalOpRI_13 O i) (yNeq 1 0) ∧ nat_lit 0 = nat_lit 0 ∧ rN (O i') = yNadd (yNadd (yNadd (rN (O i)) 1) 1) 1 ∧ yInt (yNsub nv i') = yWrap IntKind.i64 (ySub (yInt (yNsub nv i)) 1) ∧ rN (O i') = yNadd (yNadd (yNadd (rN (O i)) 1) 1) 1 ∧ (∀ (i_1 : Nat), Nat.succ i_1 ≤ rN (O i') → rA (O i') i_1 = ySel (goalOpRI_11 i_1 O i) (ySel (yNlt i_1 (yNadd (rN (O i)) 1)) (ySel (yNlt i_1 (rN (O i))) (rA (O i) i_1) (keyC cs ct cf s (yInt (yNsub nv i)))) (valC cs ct cf s (yInt (yNsub nv i)))) (shapeC cs ct cf s) ∧ rB (O i') i_1 = ySel (goalOpRI_11 i_1 O i) (ySel (yNlt i_1 (yNadd (rN (O i)) 1)) (ySel (yNlt i_1 (rN (O i))) (rB (O i) i_1) (k (yNadd 0 (yNat (goalOpRI_8 nv i))))) (w (goalOpRI_2 nv i))) (packC true (yWrap IntKind.i64 (yAdd (yInt nv) 1))) ∧ True) ∧ true = true)) ∧ (goalOpRI_9 O i))) ∧ (goalOpRI_12 cs ct cf cl cp s)) ∧ (yEq (yInt (yNsub nv i)) (yInt nv) = false → true = true ∧ ∃ (i' : Nat), prOp j nv i' ∧ Nat.succ (msFit (Nat.succ nv) i') ≤ msFit (Nat.succ nv) i ∧ true = true ∧ rE (O i') = yAnd (yAnd (rE (O i)) (yNeq 1 0)) (yNeq 1 0) ∧ nat_lit 0 = nat_lit 0 ∧ rN (O i') = yNadd (yNadd (rN (O i)) 1) 1 ∧ yInt (yNsub nv i') = yWrap IntKind.i64 (ySub (yInt (yNsub nv i)) 1) ∧ rN (O i') = yNadd (yNadd (rN (O i)) 1) 1 ∧ (∀ (i_1 : Nat), Nat.succ i_1 ≤ rN (O i') → rA (O i') i_1 = ySel (yNlt i_1 (yNadd (rN (O i)) 1)) (ySel (yNlt i_1 (rN (O i))) (rA (O i) i_1) (keyC cs ct cf s (yInt (yNsub nv i)))) (valC cs ct cf s (yInt (yNsub nv i))) ∧ rB (O i') i_1 = ySel (yNlt i_1 (yNadd (rN (O i)) 1)) (ySel (yNlt i_1 (rN (O i))) (rB (O i) i_1) (k (yNadd 0 (yNat (goalOpRI_8 nv i))))) (w (goalOpRI_2 nv i)) ∧ True) ∧ true = true)) ∧ (goalOpRI_6 O i)) ∧ (goalOpRI_7 O i)) ∧ (goalOpRI_15 cs ct cf cl cp s nv i)) ∧ (goalOpRI_10 O i))) ∧ (goalOpRI_15 cs ct cf cl cp s nv i)) ∧ (yNot true = false → (yLt 0 (yInt (yNsub nv i)) = true → mst (yAnd (goalOpRI_1 cs ct cf cl cp s) (goalOpRI_5 nv i cf)) (mst (yNeq (rN (O i)) (rN (O i))) ((yGrow (yNadd (rN (O i)) 1) (nat_lit 16) = true → (yAnd (goalOpRI_1 cs ct cf cl cp s) (goalOpRI_3 nv i cf) = true → (yNeq (yNadd (rN (O i)) 1) (yNadd (rN (O i)) 1) = true → (yGrow (yNadd (yNadd (rN (O i)) 1) 1) (nat_lit 16) = true → (yEq (yInt (yNsub nv i)) (yInt nv) = true → (yAnd (rightC cs ct cf cl cp) (yAnd (yLe 0 s) (yLe s cs)) = true → mst (true) ((yNeq (yNadd (yNadd (rN (O i)) 1) 1) (yNadd (yNadd (rN (O i)) 1) 1) = true → mst (yGrow (goalOpRI_4 O i) 16) (true = true ∧ ∃ (i' : Nat), prOp j nv i' ∧ Nat.succ (msFit (Nat.succ nv) i') ≤ msFit (Nat.succ nv) i ∧ true = true ∧ rE (O i') = yAnd (goalOpRI_13 O i) (yNeq 1 0) ∧ nat_lit 0 = nat_lit 0 ∧ rN (O i') = yNadd (yNadd (yNadd (rN (O i)) 1) 1) 1 ∧ yInt (yNsub nv i') = yWrap IntKind.i64 (ySub (yInt (yNsub nv i)) 1) ∧ rN (O i') = yNadd (yNadd (yNadd (rN (O i)) 1) 1) 1 ∧ (∀ (i_1 : Nat), Nat.succ i_1 ≤ rN (O i') → rA (O i') i_1 = ySel (goalOpRI_11 i_1 O i) (ySel (yNlt i_1 (yNadd (rN (O i)) 1)) (goalOpRI_14 i_1 O i cs ct cf s nv) (valC cs ct cf s (yInt (yNsub nv i)))) (shapeC cs ct cf s) ∧ rB (O i') i_1 = ySel (goalOpRI_11 i_1 O i) (ySel (yNlt i_1 (yNadd (rN (O i)) 1)) (ySel (yNlt i_1 (rN (O i))) (rB (O i) i_1) (k (yNadd 0 (yNat (goalOpRI_8 nv i))))) (w (goalOpRI_2 nv i))) (packC true (yWrap IntKind.i64 (yAdd (yInt nv) 1))) ∧ True) ∧ true = true)) ∧ (goalOpRI_9 O i))) ∧ (goalOpRI_12 cs ct cf cl cp s)) ∧ (yEq (yInt (yNsub nv i)) (yInt nv) = false → true = true ∧ ∃ (i' : Nat), prOp j nv i' ∧ Nat.succ (msFit (Nat.succ nv) i') ≤ msFit (Nat.succ nv) i ∧ true = true ∧ rE (O i') = yAnd (yAnd (rE (O i)) (yNeq 1 0)) (yNeq 1 0) ∧ nat_lit 0 = nat_lit 0 ∧ rN (O i') = yNadd (yNadd (rN (O i)) 1) 1 ∧ yInt (yNsub nv i') = yWrap IntKind.i64 (ySub (yInt (yNsub nv i)) 1) ∧ rN (O i') = yNadd (yNadd (rN (O i)) 1) 1 ∧ (∀ (i_1 : Nat), Nat.succ i_1 ≤ rN (O i') → rA (O i') i_1 = ySel (yNlt i_1 (yNadd (rN (O i)) 1)) (goalOpRI_14 i_1 O i cs ct cf s nv) (valC cs ct cf s (yInt (yNsub nv i))) ∧ rB (O i') i_1 = ySel (yNlt i_1 (yNadd (rN (O i)) 1)) (ySel (yNlt i_1 (rN (O i))) (rB (O i) i_1) (k (yNadd 0 (yNat (goalOpRI_8 nv i))))) (w (goalOpRI_2 nv i)) ∧ True) ∧ true = true)) ∧ (goalOpRI_6 O i)) ∧ (goalOpRI_7 O i)) ∧ (goalOpRI_15 cs ct cf cl cp s nv i)) ∧ (goalOpRI_10 O i)))) ∧ (goalOpRI_0 nv i cs ct cf cl cp s O j w))))))))) ∧ (yLt (yInt j) (yInt (yNsub nv i)) = false → (yNot true = true → mst (yAnd (goalOpRI_1 cs ct cf cl cp s) (yAnd (yLe 0 (yInt j)) (yLt (yInt j) cf))) (mst (yNeq (rN (O i)) (rN (O i))) ((yGrow (yNadd (rN (O i)) 1) (nat_lit 16) = true → mst (yAnd (goalOpRI_1 cs ct cf cl cp s) (yAnd (yLe 0 (yInt j)) (yLt (yInt j) cf))) ((yNeq (yNadd (rN (O i)) 1) (yNadd (rN (O i)) 1) = true → (yGrow (yNadd (yNadd (rN (O i)) 1) 1) (nat_lit 16) = true → rE L = yAnd (yAnd (rE (O i)) (yNeq 1 0)) (yNeq 1 0) ∧ nat_lit 0 = nat_lit 0 ∧ rN L = yNadd (yNadd (rN (O i)) 1) 1 ∧ rN L = yNadd (yNadd (rN (O i)) 1) 1 ∧ (∀ (i_1 : Nat), Nat.succ i_1 ≤ rN L → rA L i_1 = ySel (yNlt i_1 (yNadd (rN (O i)) 1)) (ySel (yNlt i_1 (rN (O i))) (rA (O i) i_1) (keyC cs ct cf s (yInt j))) (valC cs ct cf s (yInt j)) ∧ rB L i_1 = ySel (yNlt i_1 (yNadd (rN (O i)) 1)) (ySel (yNlt i_1 (rN (O i))) (rB (O i) i_1) key) val ∧ True) ∧ true = true) ∧ (goalOpRI_6 O i)) ∧ (goalOpRI_7 O i))) ∧ (goalOpRI_10 O i)))) ∧ (yNot true = false → (yLt 0 (yInt j) = true → mst (yAnd (goalOpRI_1 cs ct cf cl cp s) (yAnd (yLe 0 (yWrap IntKind.i64 (ySub (yInt j) 1))) (yLt (yWrap IntKind.i64 (ySub (yInt j) 1)) cf))) (mst (yNeq (rN (O i)) (rN (O i))) ((yGrow (yNadd (rN (O i)) 1) (nat_lit 16) = true → mst (yAnd (goalOpRI_1 cs ct cf cl cp s) (yAnd (yLe 0 (yInt j)) (yLt (yInt j) cf))) ((yNeq (yNadd (rN (O i)) 1) (yNadd (rN (O i)) 1) = true → (yGrow (yNadd (yNadd (rN (O i)) 1) 1) (nat_lit 16) = true → rE L = yAnd (yAnd (rE (O i)) (yNeq 1 0)) (yNeq 1 0) ∧ nat_lit 0 = nat_lit 0 ∧ rN L = yNadd (yNadd (rN (O i)) 1) 1 ∧ rN L = yNadd (yNadd (rN (O i)) 1) 1 ∧ (∀ (i_1 : Nat), Nat.succ i_1 ≤ rN L → rA L i_1 = ySel (yNlt i_1 (yNadd (rN (O i)) 1)) (ySel (yNlt i_1 (rN (O i))) (rA (O i) i_1) (keyC cs ct cf s (yWrap IntKind.i64 (ySub (yInt j) 1)))) (valC cs ct cf s (yInt j)) ∧ rB L i_1 = ySel (yNlt i_1 (yNadd (rN (O i)) 1)) (ySel (yNlt i_1 (rN (O i))) (rB (O i) i_1) key) val ∧ True) ∧ true = true) ∧ (goalOpRI_6 O i)) ∧ (goalOpRI_7 O i))) ∧ (goalOpRI_10 O i)))) ∧ (yLt 0 (yInt j) = false → mst (yAnd (goalOpRI_1 cs ct cf cl cp s) (yAnd (yLe 0 (yInt j)) (yLt (yInt j) cf))) (mst (yNeq (rN (O i)) (rN (O i))) ((yGrow (yNadd (rN (O i)) 1) (nat_lit 16) = true → rE L = yAnd (rE (O i)) (yNeq 1 0) ∧ nat_lit 0 = nat_lit 0 ∧ rN L = yNadd (rN (O i)) 1 ∧ rN L = yNadd (rN (O i)) 1 ∧ (∀ (i_1 : Nat), Nat.succ i_1 ≤ rN L → rA L i_1 = ySel (yNlt i_1 (rN (O i))) (rA (O i) i_1) (valC cs ct cf s (yInt j)) ∧ rB L i_1 = ySel (yNlt i_1 (rN (O i))) (rB (O i) i_1) val ∧ True) ∧ true = true) ∧ (goalOpRI_10 O i))))))))
theorem goalOpRI_eq : goalOpRI = goalOpRIV := by kernel_rfl
set_option maxHeartbeats 8000000 in
theorem goalOpRI_vc : goalOpRIV := by
 unfold goalOpRIV goalOpRI_14 goalOpRI_13 goalOpRI_11 goalOpRI_9 goalOpRI_8 goalOpRI_5 goalOpRI_4 goalOpRI_0 goalOpRI_7 goalOpRI_6 goalOpRI_2 goalOpRI_15 goalOpRI_3 goalOpRI_12 goalOpRI_10 goalOpRI_1
 intro cs ct cf cl cp s v kn nk k vn nv w l nil0 n0 a0 b0 j key val L O hr hnv hn0 hj h0 hnk hs hf hL hO
 simp only [yNle_t, yNlt_t, yIff_t, yNeq_t, yNadd_e, yAnd_t, yLe_t, yLt_t, yInt_e] at hnv hn0 hj h0 hnk hs hf
 subst hO
 obtain ⟨z1, z2, z3⟩ := opIR_zero (cs := cs) (ct := ct) (cf := cf) (s := s) (k0 := key) (k := k) (w := w) (n0 := n0) (a0 := a0) (b0 := b0) (n := nv) h0
 have hlen := fun d => opIR_len (cs := cs) (ct := ct) (cf := cf) (s := s) (k0 := key) (k := k) (w := w) (n0 := n0) (a0 := a0) (b0 := b0) (n := nv) d
 have e0 : yWrap .i64 ((nv : Int) + 1) = (nv : Int) + 1 := wrap64 (by omega) (by omega)
 have e9 : yWrap .i64 ((nv : Int) - 1) = (nv : Int) - 1 := wrap64 (by omega) (by omega)
 simp only [vS, forall_const, hr, msFit, prOp, e0, e9, false_or, or_false]
 refine ⟨fun hjn => ?_, fun hjn => ⟨⟨0, by omega, z1, z2, rfl, z2, z3⟩, fun _ i hi => ?_⟩⟩
 · have hj2 : j = nv := by omega
   have hL2 : L = opIR cs ct cf s key k w n0 a0 b0 nv 0 ++ [(keyC cs ct cf s ((nv : Int) - 1), key)] ++ [(valC cs ct cf s nv, val)] ++ [(shapeC cs ct cf s, packC true ((nv : Int) + 1))] := by
     rw [hL]; unfold opIL; rw [if_pos hj2, layI_pos (by omega)]; simp [opIR]
   clear hL
   subst hL2
   clear hlen
   generalize opIR cs ct cf s key k w n0 a0 b0 nv 0 = B at z1 z2 z3 ⊢
   repeat' (first | apply And.intro | intro _)
   all_goals first
     | omega
     | (exfalso; omega)
     | (rw [rE_snoc, yAnd10]; done)
     | (rw [rN_snoc, rN_snoc, rN_snoc, z2]; done)
     | (rename_i q hq
        rw [rN_snoc, rN_snoc, rN_snoc] at hq
        first
          | (rw [rA_snoc3 _ _ _ _ hq, z2]
             rw [sel_old (a := a0 q) (b := rA B q) (fun h => ((z3 q (by omega)).1).symm)]; done)
          | (rw [rB_snoc3 _ _ _ _ hq, z2]
             rw [sel_old (a := b0 q) (b := rB B q) (fun h => ((z3 q (by omega)).2).symm)]; done))
 · have hln := hlen i
   have e1 : yWrap .i64 (((nv - i : Nat) : Int) - 1) = ((nv - i : Nat) : Int) - 1 := wrap64 (by omega) (by omega)
   have e2 : yWrap .i64 (((nv - i : Nat) : Int) - 1 - 1) = ((nv - i : Nat) : Int) - 1 - 1 := wrap64 (by omega) (by omega)
   simp only [e1, e2]
   by_cases hlt : j < nv - i
   · have hk1 : yNat (((nv - i : Nat) : Int) - 1) = nv - i - 1 := by unfold yNat; omega
     have hk2 : yNat (((nv - i : Nat) : Int) - 1 - 1) = nv - i - 1 - 1 := by unfold yNat; omega
     simp only [hk1, hk2]
     by_cases hi0 : i = 0
     · subst hi0
       have hst := opIR_one (cs := cs) (ct := ct) (cf := cf) (s := s) (k0 := key) (k := k) (w := w) (n0 := n0) (a0 := a0) (b0 := b0) (n := nv) (by omega)
       repeat' (first | apply And.intro | intro _)
       all_goals first
         | omega
         | (exfalso; omega)
         | (refine ⟨1, by omega, by omega, ?_⟩
            rw [hst]
            first | rw [keyI_zero (by omega)] | rw [keyI_pos (by omega)]
            refine ⟨by rw [rE_snoc, yAnd10], by rw [rN_snoc, rN_snoc, rN_snoc], by omega, by rw [rN_snoc, rN_snoc, rN_snoc], fun q hq => ?_⟩
            rw [rN_snoc, rN_snoc, rN_snoc] at hq
            exact ⟨rA_snoc3 _ _ _ _ hq, rB_snoc3 _ _ _ _ hq⟩)
     · have hst := opIR_step (cs := cs) (ct := ct) (cf := cf) (s := s) (k0 := key) (k := k) (w := w) (n0 := n0) (a0 := a0) (b0 := b0) (n := nv) (d := i) (by omega) (by omega)
       repeat' (first | apply And.intro | intro _)
       all_goals first
         | omega
         | (exfalso; omega)
         | (refine ⟨i + 1, by omega, by omega, ?_⟩
            rw [hst]
            first | rw [keyI_zero (by omega)] | rw [keyI_pos (by omega)]
            refine ⟨by rw [rE_snoc, yAnd10], by rw [rN_snoc, rN_snoc], by omega, by rw [rN_snoc, rN_snoc], fun q hq => ?_⟩
            rw [rN_snoc, rN_snoc] at hq
            exact ⟨rA_snoc2 _ _ _ hq, rB_snoc2 _ _ _ hq⟩)
   · have hi1 : i = nv - j := by omega
     have hL2 : L = opIR cs ct cf s key k w n0 a0 b0 nv i ++ layI cs ct cf s (j : Int) key val := by
       rw [hL]; unfold opIL; rw [if_neg (by omega)]
       obtain ⟨e, he⟩ : ∃ e, i = e + 1 := ⟨i - 1, by omega⟩
       rw [he, show nv - 1 - j = e by omega]
       simp [opIR]
     clear hL
     have e5 : yWrap .i64 ((j : Int) - 1) = (j : Int) - 1 := wrap64 (by omega) (by omega)
     simp only [e5]
     by_cases hj0 : j = 0
     · subst hj0
       rw [layI_zero] at hL2
       subst hL2
       repeat' (first | apply And.intro | intro _)
       all_goals first
         | omega
         | (exfalso; omega)
         | (rw [rE_snoc, yAnd10]; done)
         | (rw [rN_snoc]; done)
         | (rename_i hq; rw [rN_snoc] at hq; first | exact rA_snoc _ _ hq | exact rB_snoc _ _ hq)
     · rw [layI_pos (by omega), ← List.append_assoc] at hL2
       subst hL2
       repeat' (first | apply And.intro | intro _)
       all_goals first
         | omega
         | (exfalso; omega)
         | (rw [rE_snoc, yAnd10]; done)
         | (rw [rN_snoc, rN_snoc]; done)
         | (rename_i hq; rw [rN_snoc, rN_snoc] at hq; first | exact rA_snoc2 _ _ _ hq | exact rB_snoc2 _ _ _ hq)
theorem goalOpRI_tt : (goalOpRI) = True := goalOpRI_eq.trans (eq_true goalOpRI_vc)
theorem goalOpRI_ok : goalOpRI := @ft' goalOpRI goalOpRI_tt
def goalOpnI_10 (O : Nat → List (Int × Int)) (i : Nat) := yGrow (yNadd (rN (O i)) 1) (nat_lit 16) = false → False
def goalOpnI_3 (nv : Nat) (i : Nat) := yWrap IntKind.i64 (ySub (yInt (yNsub nv (Nat.succ i))) 1)
def goalOpnI_4 (nv : Nat) (i : Nat) (cs : Int) (ct : Int) (cf : Int) (cl : Int) (cp : Int) (O : Nat → List (Int × Int)) (j : Nat) (s : Int) (w : Nat → Int) := yLt 0 (yInt (yNsub nv (Nat.succ i))) = false → mst (rightC cs ct cf cl cp) (mst (yNeq (rN (O i)) (rN (O i))) ((yGrow (yNadd (rN (O i)) 1) (nat_lit 16) = true → true = true ∧ ∃ (i' : Nat), prOp j nv (Nat.succ i') ∧ Nat.succ (msFit nv i') ≤ msFit nv i ∧ true = true ∧ yInt (yNsub nv (Nat.succ i')) = yWrap IntKind.i64 (ySub (yInt (yNsub nv (Nat.succ i))) 1) ∧ cs = cs ∧ ct = ct ∧ cf = cf ∧ cl = cl ∧ cp = cp ∧ rE (O i') = yAnd (rE (O i)) (yNeq 1 0) ∧ nat_lit 0 = nat_lit 0 ∧ rN (O i') = yNadd (rN (O i)) 1 ∧ rN (O i') = yNadd (rN (O i)) 1 ∧ (∀ (i_1 : Nat), Nat.succ i_1 ≤ rN (O i') → rA (O i') i_1 = ySel (yNlt i_1 (rN (O i))) (rA (O i) i_1) (valC cs ct cf s (yInt (yNsub nv (Nat.succ i)))) ∧ rB (O i') i_1 = ySel (yNlt i_1 (rN (O i))) (rB (O i) i_1) (w (yNadd 0 (yNat (goalOpnI_3 nv i)))) ∧ True) ∧ true = true) ∧ (goalOpnI_10 O i)))
def goalOpnI_0 (j : Nat) (nv : Nat) (i : Nat) (cs : Int) (ct : Int) (cf : Int) (cl : Int) (cp : Int) (O : Nat → List (Int × Int)) (s : Int) (key : Int) (w : Nat → Int) (nk : Nat) (k : Nat → Int) := yLt (yInt j) (yInt (yNsub nv (Nat.succ i))) = true → (yEq (goalOpnI_3 nv i) (0 : Int) = true → mst (yIn (goalOpnI_3 nv i) nv) (mst (yNlt (yNadd 0 (yNat (goalOpnI_3 nv i))) nv) ((yLt 0 (yInt (yNsub nv (Nat.succ i))) = true → mst (rightC cs ct cf cl cp) (mst (yNeq (rN (O i)) (rN (O i))) ((yGrow (yNadd (rN (O i)) 1) (nat_lit 16) = true → mst (rightC cs ct cf cl cp) (mst (yNeq (yNadd (rN (O i)) 1) (yNadd (rN (O i)) 1)) (mst (yGrow (yNadd (yNadd (rN (O i)) 1) 1) 16) (true = true ∧ ∃ (i' : Nat), prOp j nv (Nat.succ i') ∧ Nat.succ (msFit nv i') ≤ msFit nv i ∧ true = true ∧ yInt (yNsub nv (Nat.succ i')) = yWrap IntKind.i64 (ySub (yInt (yNsub nv (Nat.succ i))) 1) ∧ cs = cs ∧ ct = ct ∧ cf = cf ∧ cl = cl ∧ cp = cp ∧ rE (O i') = yAnd (yAnd (rE (O i)) (yNeq 1 0)) (yNeq 1 0) ∧ nat_lit 0 = nat_lit 0 ∧ rN (O i') = yNadd (yNadd (rN (O i)) 1) 1 ∧ rN (O i') = yNadd (yNadd (rN (O i)) 1) 1 ∧ (∀ (i_1 : Nat), Nat.succ i_1 ≤ rN (O i') → rA (O i') i_1 = ySel (yNlt i_1 (yNadd (rN (O i)) 1)) (ySel (yNlt i_1 (rN (O i))) (rA (O i) i_1) (keyC cs ct cf s (goalOpnI_3 nv i))) (valC cs ct cf s (yInt (yNsub nv (Nat.succ i)))) ∧ rB (O i') i_1 = ySel (yNlt i_1 (yNadd (rN (O i)) 1)) (ySel (yNlt i_1 (rN (O i))) (rB (O i) i_1) key) (w (yNadd 0 (yNat (goalOpnI_3 nv i)))) ∧ True) ∧ true = true)))) ∧ (goalOpnI_10 O i)))) ∧ (goalOpnI_4 nv i cs ct cf cl cp O j s w)))) ∧ (yEq (goalOpnI_3 nv i) (0 : Int) = false → mst (yIn (yWrap IntKind.i64 (ySub (goalOpnI_3 nv i) 1)) nk) (mst (yNlt (yNadd 0 (yNat (yWrap IntKind.i64 (ySub (goalOpnI_3 nv i) 1)))) nk) (mst (yIn (goalOpnI_3 nv i) nv) (mst (yNlt (yNadd 0 (yNat (goalOpnI_3 nv i))) nv) ((yLt 0 (yInt (yNsub nv (Nat.succ i))) = true → mst (rightC cs ct cf cl cp) (mst (yNeq (rN (O i)) (rN (O i))) ((yGrow (yNadd (rN (O i)) 1) (nat_lit 16) = true → mst (rightC cs ct cf cl cp) (mst (yNeq (yNadd (rN (O i)) 1) (yNadd (rN (O i)) 1)) (mst (yGrow (yNadd (yNadd (rN (O i)) 1) 1) 16) (true = true ∧ ∃ (i' : Nat), prOp j nv (Nat.succ i') ∧ Nat.succ (msFit nv i') ≤ msFit nv i ∧ true = true ∧ yInt (yNsub nv (Nat.succ i')) = yWrap IntKind.i64 (ySub (yInt (yNsub nv (Nat.succ i))) 1) ∧ cs = cs ∧ ct = ct ∧ cf = cf ∧ cl = cl ∧ cp = cp ∧ rE (O i') = yAnd (yAnd (rE (O i)) (yNeq 1 0)) (yNeq 1 0) ∧ nat_lit 0 = nat_lit 0 ∧ rN (O i') = yNadd (yNadd (rN (O i)) 1) 1 ∧ rN (O i') = yNadd (yNadd (rN (O i)) 1) 1 ∧ (∀ (i_1 : Nat), Nat.succ i_1 ≤ rN (O i') → rA (O i') i_1 = ySel (yNlt i_1 (yNadd (rN (O i)) 1)) (ySel (yNlt i_1 (rN (O i))) (rA (O i) i_1) (keyC cs ct cf s (goalOpnI_3 nv i))) (valC cs ct cf s (yInt (yNsub nv (Nat.succ i)))) ∧ rB (O i') i_1 = ySel (yNlt i_1 (yNadd (rN (O i)) 1)) (ySel (yNlt i_1 (rN (O i))) (rB (O i) i_1) (k (yNadd 0 (yNat (yWrap IntKind.i64 (ySub (goalOpnI_3 nv i) 1)))))) (w (yNadd 0 (yNat (goalOpnI_3 nv i)))) ∧ True) ∧ true = true)))) ∧ (goalOpnI_10 O i)))) ∧ (goalOpnI_4 nv i cs ct cf cl cp O j s w))))))
def goalOpnI_1 (j : Nat) (nv : Nat) (i : Nat) (cs : Int) (ct : Int) (cf : Int) (cl : Int) (cp : Int) (O : Nat → List (Int × Int)) (L : List (Int × Int)) (s : Int) (key : Int) (val : Int) := yLt (yInt j) (yInt (yNsub nv (Nat.succ i))) = false → (yLt 0 (yInt j) = true → mst (rightC cs ct cf cl cp) (mst (yNeq (rN (O i)) (rN (O i))) ((yGrow (yNadd (rN (O i)) 1) (nat_lit 16) = true → mst (rightC cs ct cf cl cp) (mst (yNeq (yNadd (rN (O i)) 1) (yNadd (rN (O i)) 1)) (mst (yGrow (yNadd (yNadd (rN (O i)) 1) 1) 16) (cs = cs ∧ ct = ct ∧ cf = cf ∧ cl = cl ∧ cp = cp ∧ rE L = yAnd (yAnd (rE (O i)) (yNeq 1 0)) (yNeq 1 0) ∧ nat_lit 0 = nat_lit 0 ∧ rN L = yNadd (yNadd (rN (O i)) 1) 1 ∧ rN L = yNadd (yNadd (rN (O i)) 1) 1 ∧ (∀ (i_1 : Nat), Nat.succ i_1 ≤ rN L → rA L i_1 = ySel (yNlt i_1 (yNadd (rN (O i)) 1)) (ySel (yNlt i_1 (rN (O i))) (rA (O i) i_1) (keyC cs ct cf s (yWrap IntKind.i64 (ySub (yInt j) 1)))) (valC cs ct cf s (yInt j)) ∧ rB L i_1 = ySel (yNlt i_1 (yNadd (rN (O i)) 1)) (ySel (yNlt i_1 (rN (O i))) (rB (O i) i_1) key) val ∧ True) ∧ true = true)))) ∧ (goalOpnI_10 O i)))) ∧ (yLt 0 (yInt j) = false → mst (rightC cs ct cf cl cp) (mst (yNeq (rN (O i)) (rN (O i))) ((yGrow (yNadd (rN (O i)) 1) (nat_lit 16) = true → cs = cs ∧ ct = ct ∧ cf = cf ∧ cl = cl ∧ cp = cp ∧ rE L = yAnd (rE (O i)) (yNeq 1 0) ∧ nat_lit 0 = nat_lit 0 ∧ rN L = yNadd (rN (O i)) 1 ∧ rN L = yNadd (rN (O i)) 1 ∧ (∀ (i_1 : Nat), Nat.succ i_1 ≤ rN L → rA L i_1 = ySel (yNlt i_1 (rN (O i))) (rA (O i) i_1) (valC cs ct cf s (yInt j)) ∧ rB L i_1 = ySel (yNlt i_1 (rN (O i))) (rB (O i) i_1) val ∧ True) ∧ true = true) ∧ (goalOpnI_10 O i))))
def goalOpnI_5 (nv : Nat) := yNadd 0 (yNat (yWrap IntKind.i64 (ySub (yInt nv) 1)))
def goalOpnI_7 (n0 : Nat) := yGrow (yNadd (yNadd n0 1) 1) (nat_lit 16) = false → False
def goalOpnI_9 (n0 : Nat) := yNeq (yNadd n0 1) (yNadd n0 1) = false → False
def goalOpnI_2 (nv : Nat) (cs : Int) (ct : Int) (cf : Int) (cl : Int) (cp : Int) (n0 : Nat) (j : Nat) (O : Nat → List (Int × Int)) (nil0 : Bool) (a0 : Nat → Int) (s : Int) (b0 : Nat → Int) (w : Nat → Int) (key : Int) (nk : Nat) (k : Nat → Int) (L : List (Int × Int)) (val : Int) := yLt 0 (yInt nv) = false → mst (rightC cs ct cf cl cp) (mst (yNeq n0 n0) (mst (yGrow (yNadd n0 1) 16) (mst (rightC cs ct cf cl cp) (mst (true) ((yNeq (yNadd n0 1) (yNadd n0 1) = true → (yGrow (yNadd (yNadd n0 1) 1) (nat_lit 16) = true → true = true ∧ (∃ (i0 : Nat), prOp j nv (Nat.succ i0) ∧ true = true ∧ yInt (yNsub nv (Nat.succ i0)) = yWrap IntKind.i64 (ySub (yInt nv) 1) ∧ cs = cs ∧ ct = ct ∧ cf = cf ∧ cl = cl ∧ cp = cp ∧ rE (O i0) = yAnd (yAnd nil0 (yNeq 1 0)) (yNeq 1 0) ∧ nat_lit 0 = nat_lit 0 ∧ rN (O i0) = yNadd (yNadd n0 1) 1 ∧ rN (O i0) = yNadd (yNadd n0 1) 1 ∧ (∀ (i : Nat), Nat.succ i ≤ rN (O i0) → rA (O i0) i = ySel (yNlt i (yNadd n0 1)) (ySel (yNlt i n0) (a0 i) (valC cs ct cf s (yInt nv))) (shapeC cs ct cf s) ∧ rB (O i0) i = ySel (yNlt i (yNadd n0 1)) (ySel (yNlt i n0) (b0 i) (w (goalOpnI_5 nv))) (packC true (yWrap IntKind.i64 (yAdd (yInt nv) 1))) ∧ True) ∧ true = true) ∧ ∀ (g : Nat → AV) (i : Nat), prOp j nv (Nat.succ i) → (goalOpnI_0 j nv i cs ct cf cl cp O s key w nk k) ∧ (goalOpnI_1 j nv i cs ct cf cl cp O L s key val)) ∧ (goalOpnI_7 n0)) ∧ (goalOpnI_9 n0))))))
def goalOpnI_6 (nv : Nat) := yWrap IntKind.i64 (ySub (yWrap IntKind.i64 (ySub (yInt nv) 1)) 1)
def goalOpnI_8 (n0 : Nat) := yNadd (yNadd (yNadd n0 1) 1) 1
def goalOpnI_11 (n0 : Nat) := yNeq (yNadd (yNadd n0 1) 1) (yNadd (yNadd n0 1) 1) = false → False
def goalOpnIV : Prop := (∀ (cs ct cf cl cp s v : Int) (kn : Bool) (nk : Nat) (k : Nat → Int) (vn : Bool) (nv : Nat) (w : Nat → Int) (l : Int) (nil0 : Bool) (n0 : Nat) (a0 b0 : Nat → Int) (j : Nat) (key val : Int) (L : List (Int × Int)) (O : Nat → List (Int × Int)), rightC cs ct cf cl cp = true → yNle nv (nat_lit 80) = true → yNle n0 (nat_lit 1000) = true → yNle j nv = true → yIff nil0 (yNeq n0 0) = true → yNeq (yNadd nk 1) nv = true → L = opIL cs ct cf s k w n0 a0 b0 nv j key val → O = opIO cs ct cf s key k w n0 a0 b0 nv → (yEq (yInt j) (yInt nv) = true → (yLt 0 (yInt nv) = true → mst (rightC cs ct cf cl cp) (mst (yNeq n0 n0) (mst (yGrow (yNadd n0 1) 16) (mst (rightC cs ct cf cl cp) ((yNeq (yNadd n0 1) (yNadd n0 1) = true → (yGrow (yNadd (yNadd n0 1) 1) (nat_lit 16) = true → mst (rightC cs ct cf cl cp) (mst (true) ((yNeq (yNadd (yNadd n0 1) 1) (yNadd (yNadd n0 1) 1) = true → mst (yGrow (goalOpnI_8 n0) 16) (cs = cs ∧ ct = ct ∧ cf = cf ∧ cl = cl ∧ cp = cp ∧ rE L = yAnd (yAnd (yAnd nil0 (yNeq 1 0)) (yNeq 1 0)) (yNeq 1 0) ∧ nat_lit 0 = nat_lit 0 ∧ rN L = yNadd (yNadd (yNadd n0 1) 1) 1 ∧ rN L = yNadd (yNadd (yNadd n0 1) 1) 1 ∧ (∀ (i : Nat), Nat.succ i ≤ rN L → rA L i = ySel (yNlt i (yNadd (yNadd n0 1) 1)) (ySel (yNlt i (yNadd n0 1)) (ySel (yNlt i n0) (a0 i) (keyC cs ct cf s (yWrap IntKind.i64 (ySub (yInt nv) 1)))) (valC cs ct cf s (yInt nv))) (shapeC cs ct cf s) ∧ rB L i = ySel (yNlt i (yNadd (yNadd n0 1) 1)) (ySel (yNlt i (yNadd n0 1)) (ySel (yNlt i n0) (b0 i) key) val) (packC true (yWrap IntKind.i64 (yAdd (yInt nv) 1))) ∧ True) ∧ true = true)) ∧ (goalOpnI_11 n0)))) ∧ (goalOpnI_7 n0)) ∧ (goalOpnI_9 n0)))))) ∧ (yLt 0 (yInt nv) = false → mst (rightC cs ct cf cl cp) (mst (yNeq n0 n0) (mst (yGrow (yNadd n0 1) 16) (mst (rightC cs ct cf cl cp) (mst (true) ((yNeq (yNadd n0 1) (yNadd n0 1) = true → (yGrow (yNadd (yNadd n0 1) 1) (nat_lit 16) = true → cs = cs ∧ ct = ct ∧ cf = cf ∧ cl = cl ∧ cp = cp ∧ rE L = yAnd (yAnd nil0 (yNeq 1 0)) (yNeq 1 0) ∧ nat_lit 0 = nat_lit 0 ∧ rN L = yNadd (yNadd n0 1) 1 ∧ rN L = yNadd (yNadd n0 1) 1 ∧ (∀ (i : Nat), Nat.succ i ≤ rN L → rA L i = ySel (yNlt i (yNadd n0 1)) (ySel (yNlt i n0) (a0 i) (valC cs ct cf s (yInt nv))) (shapeC cs ct cf s) ∧ rB L i = ySel (yNlt i (yNadd n0 1)) (ySel (yNlt i n0) (b0 i) val) (packC true (yWrap IntKind.i64 (yAdd (yInt nv) 1))) ∧ True) ∧ true = true) ∧ (goalOpnI_7 n0)) ∧ (goalOpnI_9 n0)))))))) ∧ (yEq (yInt j) (yInt nv) = false → (yEq (yWrap IntKind.i64 (ySub (yInt nv) 1)) (0 : Int) = true → mst (yIn (yWrap IntKind.i64 (ySub (yInt nv) 1)) nv) (mst (yNlt (goalOpnI_5 nv) nv) ((yLt 0 (yInt nv) = true → mst (rightC cs ct cf cl cp) (mst (yNeq n0 n0) (mst (yGrow (yNadd n0 1) 16) (mst (rightC cs ct cf cl cp) ((yNeq (yNadd n0 1) (yNadd n0 1) = true → (yGrow (yNadd (yNadd n0 1) 1) (nat_lit 16) = true → mst (rightC cs ct cf cl cp) (mst (true) ((yNeq (yNadd (yNadd n0 1) 1) (yNadd (yNadd n0 1) 1) = true → mst (yGrow (goalOpnI_8 n0) 16) (true = true ∧ (∃ (i0 : Nat), prOp j nv (Nat.succ i0) ∧ true = true ∧ yInt (yNsub nv (Nat.succ i0)) = yWrap IntKind.i64 (ySub (yInt nv) 1) ∧ cs = cs ∧ ct = ct ∧ cf = cf ∧ cl = cl ∧ cp = cp ∧ rE (O i0) = yAnd (yAnd (yAnd nil0 (yNeq 1 0)) (yNeq 1 0)) (yNeq 1 0) ∧ nat_lit 0 = nat_lit 0 ∧ rN (O i0) = yNadd (yNadd (yNadd n0 1) 1) 1 ∧ rN (O i0) = yNadd (yNadd (yNadd n0 1) 1) 1 ∧ (∀ (i : Nat), Nat.succ i ≤ rN (O i0) → rA (O i0) i = ySel (yNlt i (yNadd (yNadd n0 1) 1)) (ySel (yNlt i (yNadd n0 1)) (ySel (yNlt i n0) (a0 i) (keyC cs ct cf s (yWrap IntKind.i64 (ySub (yInt nv) 1)))) (valC cs ct cf s (yInt nv))) (shapeC cs ct cf s) ∧ rB (O i0) i = ySel (yNlt i (yNadd (yNadd n0 1) 1)) (ySel (yNlt i (yNadd n0 1)) (ySel (yNlt i n0) (b0 i) key) (w (goalOpnI_5 nv))) (packC true (yWrap IntKind.i64 (yAdd (yInt nv) 1))) ∧ True) ∧ true = true) ∧ ∀ (g : Nat → AV) (i : Nat), prOp j nv (Nat.succ i) → (goalOpnI_0 j nv i cs ct cf cl cp O s key w nk k) ∧ (goalOpnI_1 j nv i cs ct cf cl cp O L s key val))) ∧ (goalOpnI_11 n0)))) ∧ (goalOpnI_7 n0)) ∧ (goalOpnI_9 n0)))))) ∧ (goalOpnI_2 nv cs ct cf cl cp n0 j O nil0 a0 s b0 w key nk k L val)))) ∧ (yEq (yWrap IntKind.i64 (ySub (yInt nv) 1)) (0 : Int) = false → mst (yIn (goalOpnI_6 nv) nk) (mst (yNlt (yNadd 0 (yNat (goalOpnI_6 nv))) nk) (mst (yIn (yWrap IntKind.i64 (ySub (yInt nv) 1)) nv) (mst (yNlt (goalOpnI_5 nv) nv) ((yLt 0 (yInt nv) = true → mst (rightC cs ct cf cl cp) (mst (yNeq n0 n0) (mst (yGrow (yNadd n0 1) 16) (mst (rightC cs ct cf cl cp) ((yNeq (yNadd n0 1) (yNadd n0 1) = true → (yGrow (yNadd (yNadd n0 1) 1) (nat_lit 16) = true → mst (rightC cs ct cf cl cp) (mst (true) ((yNeq (yNadd (yNadd n0 1) 1) (yNadd (yNadd n0 1) 1) = true → mst (yGrow (goalOpnI_8 n0) 16) (true = true ∧ (∃ (i0 : Nat), prOp j nv (Nat.succ i0) ∧ true = true ∧ yInt (yNsub nv (Nat.succ i0)) = yWrap IntKind.i64 (ySub (yInt nv) 1) ∧ cs = cs ∧ ct = ct ∧ cf = cf ∧ cl = cl ∧ cp = cp ∧ rE (O i0) = yAnd (yAnd (yAnd nil0 (yNeq 1 0)) (yNeq 1 0)) (yNeq 1 0) ∧ nat_lit 0 = nat_lit 0 ∧ rN (O i0) = yNadd (yNadd (yNadd n0 1) 1) 1 ∧ rN (O i0) = yNadd (yNadd (yNadd n0 1) 1) 1 ∧ (∀ (i : Nat), Nat.succ i ≤ rN (O i0) → rA (O i0) i = ySel (yNlt i (yNadd (yNadd n0 1) 1)) (ySel (yNlt i (yNadd n0 1)) (ySel (yNlt i n0) (a0 i) (keyC cs ct cf s (yWrap IntKind.i64 (ySub (yInt nv) 1)))) (valC cs ct cf s (yInt nv))) (shapeC cs ct cf s) ∧ rB (O i0) i = ySel (yNlt i (yNadd (yNadd n0 1) 1)) (ySel (yNlt i (yNadd n0 1)) (ySel (yNlt i n0) (b0 i) (k (yNadd 0 (yNat (goalOpnI_6 nv))))) (w (goalOpnI_5 nv))) (packC true (yWrap IntKind.i64 (yAdd (yInt nv) 1))) ∧ True) ∧ true = true) ∧ ∀ (g : Nat → AV) (i : Nat), prOp j nv (Nat.succ i) → (goalOpnI_0 j nv i cs ct cf cl cp O s key w nk k) ∧ (goalOpnI_1 j nv i cs ct cf cl cp O L s key val))) ∧ (goalOpnI_11 n0)))) ∧ (goalOpnI_7 n0)) ∧ (goalOpnI_9 n0)))))) ∧ (goalOpnI_2 nv cs ct cf cl cp n0 j O nil0 a0 s b0 w key nk k L val))))))))
theorem goalOpnI_eq : goalOpnI = goalOpnIV := by kernel_rfl
set_option maxHeartbeats 8000000 in
theorem goalOpnI_vc : goalOpnIV := by
 unfold goalOpnIV goalOpnI_11 goalOpnI_8 goalOpnI_6 goalOpnI_2 goalOpnI_9 goalOpnI_7 goalOpnI_5 goalOpnI_1 goalOpnI_0 goalOpnI_4 goalOpnI_3 goalOpnI_10
 intro cs ct cf cl cp s v kn nk k vn nv w l nil0 n0 a0 b0 j key val L O hr hnv hn0 hj h0 hnk hL hO
 simp only [yNle_t, yNlt_t, yIff_t, yAnd_t, yLe_t, yLt_t, yInt_e, yNeq_t, yNadd_e] at hnv hn0 hj h0 hnk
 have e0 : yWrap .i64 ((nv : Int) + 1) = (nv : Int) + 1 := wrap64 (by omega) (by omega)
 have e1 : yWrap .i64 ((nv : Int) - 1) = (nv : Int) - 1 := wrap64 (by omega) (by omega)
 have e2 : yWrap .i64 ((nv : Int) - 1 - 1) = (nv : Int) - 1 - 1 := wrap64 (by omega) (by omega)
 have e3 : yWrap .i64 ((j : Int) - 1) = (j : Int) - 1 := wrap64 (by omega) (by omega)
 simp only [vS, forall_const, hr, msFit, prOp, e0, e1, e2, e3, false_or, or_false]
 obtain ⟨z1, z2, z3⟩ := opIR_zero (cs := cs) (ct := ct) (cf := cf) (s := s) (k0 := key) (k := k) (w := w) (n0 := n0) (a0 := a0) (b0 := b0) (n := nv) h0
 have hOR : ∀ d, O d = opIR cs ct cf s key k w n0 a0 b0 nv (d + 1) := fun d => by rw [hO]; rfl
 have hlen : ∀ d, rN (O d) ≤ n0 + 2 * d + 3 := fun d => by
   have := opIR_len (cs := cs) (ct := ct) (cf := cf) (s := s) (k0 := key) (k := k) (w := w) (n0 := n0) (a0 := a0) (b0 := b0) (n := nv) (d + 1)
   rw [hOR]; omega
 refine ⟨fun hjn => ?_, fun hjn => ?_⟩
 · have hj2 : j = nv := by omega
   have hL2 : L = opIR cs ct cf s key k w n0 a0 b0 nv 0 ++ [(keyC cs ct cf s ((nv : Int) - 1), key)] ++ [(valC cs ct cf s nv, val)] ++ [(shapeC cs ct cf s, packC true ((nv : Int) + 1))] := by
     rw [hL]; unfold opIL; rw [if_pos hj2, layI_pos (by omega)]; simp [opIR]
   clear hL hlen hOR
   subst hL2
   generalize opIR cs ct cf s key k w n0 a0 b0 nv 0 = B at z1 z2 z3 ⊢
   repeat' (first | apply And.intro | intro _)
   all_goals first
     | omega
     | (exfalso; omega)
     | (rw [rE_snoc, yAnd10]; done)
     | (rw [rN_snoc, rN_snoc, rN_snoc, z2]; done)
     | (rename_i q hq
        rw [rN_snoc, rN_snoc, rN_snoc] at hq
        first
          | (rw [rA_snoc3 _ _ _ _ hq, z2]
             rw [sel_old (a := a0 q) (b := rA B q) (fun h => ((z3 q (by omega)).1).symm)]; done)
          | (rw [rB_snoc3 _ _ _ _ hq, z2]
             rw [sel_old (a := b0 q) (b := rB B q) (fun h => ((z3 q (by omega)).2).symm)]; done))
 · have hk0 : yNat ((nv : Int) - 1) = nv - 1 := by unfold yNat; omega
   have hk9 : yNat ((nv : Int) - 1 - 1) = nv - 1 - 1 := by unfold yNat; omega
   have hO0 : O 0 = opIR cs ct cf s key k w n0 a0 b0 nv 0 ++ [(keyC cs ct cf s ((nv : Int) - 1), keyI key k (nv - 1))] ++ [(valC cs ct cf s nv, w (nv - 1))] ++ [(shapeC cs ct cf s, packC true ((nv : Int) + 1))] := by rw [hOR, opIR_one (by omega)]
   simp only [hk0, hk9]
   repeat' (first | apply And.intro | intro (_ : Nat → AV) i hi | intro _)
   all_goals (try (have hln := hlen i))
   all_goals (try (have e5 : yWrap .i64 (((nv - Nat.succ i : Nat) : Int) - 1) = ((nv - Nat.succ i : Nat) : Int) - 1 := wrap64 (by omega) (by omega); simp only [e5] at *))
   all_goals (try (have e6 : yWrap .i64 (((nv - Nat.succ i : Nat) : Int) - 1 - 1) = ((nv - Nat.succ i : Nat) : Int) - 1 - 1 := wrap64 (by omega) (by omega); simp only [e6] at *))
   all_goals (try (have hk1 : yNat (((nv - Nat.succ i : Nat) : Int) - 1) = nv - Nat.succ i - 1 := (by unfold yNat; omega); simp only [hk1] at *))
   all_goals (try (have hk2 : yNat (((nv - Nat.succ i : Nat) : Int) - 1 - 1) = nv - Nat.succ i - 1 - 1 := (by unfold yNat; omega); simp only [hk2] at *))
   all_goals first
     | omega
     | (exfalso; omega)
     | (refine ⟨0, by omega, by omega, ?_⟩
        rw [hO0]
        first | rw [keyI_zero (by omega)] | rw [keyI_pos (by omega)]
        refine ⟨by rw [rE_snoc, yAnd10], by rw [rN_snoc, rN_snoc, rN_snoc, z2], by rw [rN_snoc, rN_snoc, rN_snoc, z2], fun q hq => ?_⟩
        rw [rN_snoc, rN_snoc, rN_snoc] at hq
        refine ⟨?_, ?_⟩
        · rw [rA_snoc3 _ _ _ _ hq, z2, sel_old (a := a0 q) (b := rA _ q) (fun h => ((z3 q (by omega)).1).symm)]
        · rw [rB_snoc3 _ _ _ _ hq, z2, sel_old (a := b0 q) (b := rB _ q) (fun h => ((z3 q (by omega)).2).symm)])
     | (have hst : O (i + 1) = O i ++ [(keyC cs ct cf s (((nv - Nat.succ i : Nat) : Int) - 1), keyI key k (nv - Nat.succ i - 1))] ++ [(valC cs ct cf s ((nv - Nat.succ i : Nat) : Int), w (nv - Nat.succ i - 1))] := by rw [hOR, hOR, opIR_step (by omega) (by omega)]
        refine ⟨i + 1, by omega, by omega, by omega, ?_⟩
        rw [hst]
        first | rw [keyI_zero (by omega)] | rw [keyI_pos (by omega)]
        refine ⟨by rw [rE_snoc, yAnd10], by rw [rN_snoc, rN_snoc], by rw [rN_snoc, rN_snoc], fun q hq => ?_⟩
        rw [rN_snoc, rN_snoc] at hq
        exact ⟨rA_snoc2 _ _ _ hq, rB_snoc2 _ _ _ hq⟩)
     | (have hL2 : L = O i ++ layI cs ct cf s (j : Int) key val := by
          rw [hL]; unfold opIL; rw [if_neg (by omega), hO, show nv - 1 - j = i by omega]
        first
          | (rw [layI_pos (by omega), ← List.append_assoc] at hL2
             first
               | (rw [hL2, rE_snoc, yAnd10]; done)
               | (rw [hL2, rN_snoc, rN_snoc]; done)
               | (rename_i hq
                  rw [hL2] at hq ⊢
                  rw [rN_snoc, rN_snoc] at hq
                  first | exact rA_snoc2 _ _ _ hq | exact rB_snoc2 _ _ _ hq))
          | (have hj0 : j = 0 := by omega
             rw [hj0, layI_zero] at hL2
             first
               | (rw [hL2, rE_snoc, yAnd10]; done)
               | (rw [hL2, rN_snoc]; done)
               | (rename_i hq
                  rw [hL2] at hq ⊢
                  rw [rN_snoc] at hq
                  rw [hj0]
                  first | exact rA_snoc _ _ hq | exact rB_snoc _ _ hq)
               | (rename_i hq
                  rw [hL2] at hq ⊢
                  rw [rN_snoc] at hq
                  first | exact rA_snoc _ _ hq | exact rB_snoc _ _ hq)))
theorem goalOpnI_tt : (goalOpnI) = True := goalOpnI_eq.trans (eq_true goalOpnI_vc)
theorem goalOpnI_ok : goalOpnI := @ft' goalOpnI goalOpnI_tt
end Go.Proofs.YtjhbimdaeofdlaaGreatDoor.Ex
end
section
namespace Go.Proofs.YtjhbimdaeofdlaaGreatDoor.Ex
open Go
def layN (i : Bool) (cs ct cf s j key val : Int) : List (Int × Int) := if i then layI cs ct cf s j key val else layL cs ct cf s j key val
def kN (i : Bool) (k0 : Int) (k : Nat → Int) (j : Nat) : Int := if i then keyI k0 k j else k j
def begO (i : Bool) (cs ct cf s v : Int) (k w : Nat → Int) (n0 : Nat) (a0 b0 : Nat → Int) (d : Nat) : List (Int × Int) :=
 prw n0 a0 b0 ++ [(verC cs ct cf s, renewC v)] ++ (List.range d).flatMap fun (j : Nat) => layN i cs ct cf s ((j : Nat) : Int) (kN i 0 k j) (w j)
def begL (i : Bool) (cs ct cf s v : Int) (k w : Nat → Int) (l : Int) (n0 : Nat) (a0 b0 : Nat → Int) (nv : Nat) : List (Int × Int) :=
 begO i cs ct cf s v k w n0 a0 b0 nv ++ [(linkC cs ct cf s, l)] ++ [(shapeC cs ct cf s, packC i (nv : Int))]
abbrev plU : Sx := .pl [.int .u64]
abbrev sNodeP : Sx := .agg [.sc, plU, plU, .sc]
abbrev sPartP : Sx := .agg [.sc, .sc, .sc, plU, plU, .sc]
abbrev dNb (i kn : Bool) (nk : Nat) (k : Nat → Int) (vn : Bool) (nv : Nat) (w : Nat → Int) (l : Int) : Dx := .l [.v (.b i), .rows kn nk [.int .u64 k], .rows vn nv [.int .u64 w], .v (.y .u64 l)]
abbrev dNd (i kn : Bool) (nk : Nat) (k : Nat → Int) (vn : Bool) (nv : Nat) (w : Nat → Int) (l : Int) : Dx := .l [.v (.yb i), .rows kn nk [.int .u64 k], .rows vn nv [.int .u64 w], .v (.y .u64 l)]
def lBeg : List (Nat × Sm) := [(99, .ct (ctS gL1 (fL1 verC))), (97, .ct (ctS gL1 (fL1 linkC))), (114, .ct (ctS gW (fW renewC))),
 (58, .ct (ctS gL1 (fR1 verC))), (80, .ct (ctS gL1 (fR1 linkC))), (182, .ct (ctS gW (fW renewC)))] ++ lLay
def annBeg (cs ct cf cl cp : Int) (O : Nat → List (Int × Int)) (nv : Nat) (b : Nat) : Option (St → LoopA) :=
 match b with
 | 0 => some fun z => { ι := Nat, tms := [28], tmU := fun d => [.y .i64 (yInt d)], ids := [1, z.h.nx], hpU := fun d => [.cells [.y .i64 cs, .y .i64 ct, .y .i64 cf, .y .i64 cl, .y .i64 cp, slW z.h.nx (O d)] 137 none, arW (O d)], del := penId z.h, ex := 1, pre := fun d => d ≤ nv, ms := msFit nv }
 | _ => none
def goalBg (i : Bool) (c : Nat) : Prop := ∀ (cs ct cf cl cp s v : Int) (i0 kn0 : Bool) (nk0 : Nat) (k0 : Nat → Int) (vn0 : Bool) (nv0 : Nat) (w0 : Nat → Int) (l0 : Int) (kn : Bool) (nk : Nat) (k : Nat → Int) (vn : Bool) (nv : Nat) (w : Nat → Int) (l : Int) (nil0 : Bool) (n0 : Nat) (a0 b0 : Nat → Int) (L : List (Int × Int)) (O : Nat → List (Int × Int)),
 rightC cs ct cf cl cp = true → inU v = true → yNle nv 80 = true → yNle n0 1000 = true → yIff nil0 (yNeq n0 0) = true → yNeq (yNadd nk c) nv = true → L = begL i cs ct cf s v k w l n0 a0 b0 nv → O = begO i cs ct cf s v k w n0 a0 b0 →
 wxP Tryz.prog (smL lBeg) (annBeg cs ct cf cl cp O nv) 87 [sPen, sPart, sNodeP] [dPen cs ct cf cl cp (.rows nil0 n0 [.int .i64 a0, .int .u64 b0]), dPt s v i0 kn0 nk0 k0 vn0 nv0 w0 l0, dNb i kn nk k vn nv w l] sPartP
   (dPt s (renewC v) i kn nk k vn nv w l) [[.v (.y .i64 cs), .v (.y .i64 ct), .v (.y .i64 cf), .v (.y .i64 cl), .v (.y .i64 cp), rowsW L]]
def goalBgL : Prop := goalBg false 0
def goalBgI : Prop := goalBg true 1
def annBgR (O : Nat → List (Int × Int)) (nv : Nat) (b : Nat) : Option (St → LoopA) :=
 match b with
 | 0 => some fun z => { ι := Nat, tms := [1, 10], tmU := fun d => [slW z.h.nx (O d), .y .i64 (yInt d)], ids := [z.h.nx], hpU := fun d => [arW (O d)], del := tmpId z.tm 1, ex := 1, pre := fun d => d ≤ nv, ms := msFit nv }
 | _ => none
def goalBR (i : Bool) (c : Nat) : Prop := ∀ (cs ct cf cl cp s v : Int) (i0 kn0 : Bool) (nk0 : Nat) (k0 : Nat → Int) (vn0 : Bool) (nv0 : Nat) (w0 : Nat → Int) (l0 : Int) (kn : Bool) (nk : Nat) (k : Nat → Int) (vn : Bool) (nv : Nat) (w : Nat → Int) (l : Int) (nil0 : Bool) (n0 : Nat) (a0 b0 : Nat → Int) (L : List (Int × Int)) (O : Nat → List (Int × Int)),
 rightC cs ct cf cl cp = true → inU v = true → yNle nv 80 = true → yNle n0 1000 = true → yIff nil0 (yNeq n0 0) = true → yNeq (yNadd nk c) nv = true → yAnd (yLe 0 s) (yLe s cs) = true → yLe (yInt nv) cf = true → L = begL i cs ct cf s v k w l n0 a0 b0 nv → O = begO i cs ct cf s v k w n0 a0 b0 →
 wxP Tryz.prog (smL lBeg) (annBgR O nv) 79 [sConf, ownW, sPart, sNodeP] [dCf cs ct cf cl cp, .rows nil0 n0 [.int .i64 a0, .int .u64 b0], dPt s v i0 kn0 nk0 k0 vn0 nv0 w0 l0, dNb i kn nk k vn nv w l] ownW (rowsW L) []
def goalBRL : Prop := goalBR false 0
def goalBRI : Prop := goalBR true 1
theorem begO_zero {i : Bool} {cs ct cf s v : Int} {k w : Nat → Int} {n0 : Nat} {a0 b0 : Nat → Int} : begO i cs ct cf s v k w n0 a0 b0 0 = prw n0 a0 b0 ++ [(verC cs ct cf s, renewC v)] := by simp [begO]
theorem begO_step {i : Bool} {cs ct cf s v : Int} {k w : Nat → Int} {n0 : Nat} {a0 b0 : Nat → Int} {d : Nat} : begO i cs ct cf s v k w n0 a0 b0 (d + 1) = begO i cs ct cf s v k w n0 a0 b0 d ++ layN i cs ct cf s (d : Int) (kN i 0 k d) (w d) := by
 simp [begO, List.range_succ]
theorem layN_len {i : Bool} {cs ct cf s : Int} {j : Nat} {key val : Int} : (layN i cs ct cf s (j : Int) key val).length ≤ 2 := by
 cases i
 · simp [layN, layL]
 · exact layI_len
theorem begO_len {i : Bool} {cs ct cf s v : Int} {k w : Nat → Int} {n0 : Nat} {a0 b0 : Nat → Int} : ∀ d, rN (begO i cs ct cf s v k w n0 a0 b0 d) ≤ n0 + 1 + 2 * d
 | 0 => by rw [begO_zero]; simp [rN, prw_len]
 | d + 1 => by
   have := begO_len (i := i) (cs := cs) (ct := ct) (cf := cf) (s := s) (v := v) (k := k) (w := w) (n0 := n0) (a0 := a0) (b0 := b0) d
   have h2 := layN_len (i := i) (cs := cs) (ct := ct) (cf := cf) (s := s) (j := d) (key := kN i 0 k d) (val := w d)
   rw [begO_step]
   simp only [rN, List.length_append] at this ⊢; omega
theorem prw_snocA {n0 : Nat} {a0 b0 : Nat → Int} {x : Int × Int} {j : Nat} (h : j < n0 + 1) : rA (prw n0 a0 b0 ++ [x]) j = ySel (yNlt j n0) (a0 j) x.1 ∧ rB (prw n0 a0 b0 ++ [x]) j = ySel (yNlt j n0) (b0 j) x.2 := by
 have hn : rN (prw n0 a0 b0) = n0 := by simp [rN, prw_len]
 rw [rA_snoc _ _ (by omega), rB_snoc _ _ (by omega), hn]
 exact ⟨sel_old fun h => (prw_A h).1.symm, sel_old fun h => (prw_A h).2.symm⟩
theorem layNI_pos {cs ct cf s : Int} {j : Nat} {key val : Int} (h : 0 < j) : layN true cs ct cf s (j : Int) key val = [(keyC cs ct cf s ((j : Int) - 1), key)] ++ [(valC cs ct cf s j, val)] := layI_pos h
theorem layNI_zero {cs ct cf s key val : Int} : layN true cs ct cf s ((0 : Nat) : Int) key val = [(valC cs ct cf s ((0 : Nat) : Int), val)] := layI_zero
theorem layNL {cs ct cf s : Int} {j : Nat} {key val : Int} : layN false cs ct cf s (j : Int) key val = [(keyC cs ct cf s (j : Int), key)] ++ [(valC cs ct cf s j, val)] := rfl
theorem kNI_pos {k0 : Int} {k : Nat → Int} {j : Nat} (h : 0 < j) : kN true k0 k j = k (j - 1) := keyI_pos h
theorem kNI_zero {k0 : Int} {k : Nat → Int} {j : Nat} (h : j = 0) : kN true k0 k j = k0 := keyI_zero h
theorem kNL {k0 : Int} {k : Nat → Int} {j : Nat} : kN false k0 k j = k j := rfl
def goalBgLV : Prop := (∀ (cs ct cf cl cp s v : Int) (i0 kn0 : Bool) (nk0 : Nat) (k0 : Nat → Int) (vn0 : Bool) (nv0 : Nat) (w0 : Nat → Int) (l0 : Int) (kn : Bool) (nk : Nat) (k : Nat → Int) (vn : Bool) (nv : Nat) (w : Nat → Int) (l : Int) (nil0 : Bool) (n0 : Nat) (a0 b0 : Nat → Int) (L : List (Int × Int)) (O : Nat → List (Int × Int)), rightC cs ct cf cl cp = true → yAnd (yLe 0 v) (yLt v 18446744073709551616) = true → yNle nv (nat_lit 80) = true → yNle n0 (nat_lit 1000) = true → yIff nil0 (yNeq n0 0) = true → yNeq (yNadd nk 0) nv = true → L = begL false cs ct cf s v k w l n0 a0 b0 nv → O = begO false cs ct cf s v k w n0 a0 b0 → mst (yAnd (yLe 0 v) (yLt v 18446744073709551616)) (mst (rightC cs ct cf cl cp) (mst (yNeq n0 n0) (mst (yGrow (yNadd n0 1) 16) (true = true ∧ (∃ (i0_1 : Nat), i0_1 ≤ nv ∧ true = true ∧ yInt i0_1 = (0 : Int) ∧ cs = cs ∧ ct = ct ∧ cf = cf ∧ cl = cl ∧ cp = cp ∧ rE (O i0_1) = yAnd nil0 (yNeq 1 0) ∧ nat_lit 0 = nat_lit 0 ∧ rN (O i0_1) = yNadd n0 1 ∧ rN (O i0_1) = yNadd n0 1 ∧ (∀ (i : Nat), Nat.succ i ≤ rN (O i0_1) → rA (O i0_1) i = ySel (yNlt i n0) (a0 i) (verC cs ct cf s) ∧ rB (O i0_1) i = ySel (yNlt i n0) (b0 i) (renewC v) ∧ True) ∧ true = true) ∧ ∀ (g : Nat → AV) (i : Nat), i ≤ nv → (yLt (yInt i) (yInt nv) = true → mst (yIn (yInt i) nk) (mst (yIn (yInt i) nv) (mst (rightC cs ct cf cl cp) (mst (yNeq (rN (O i)) (rN (O i))) (mst (yGrow (yNadd (rN (O i)) 1) 16) (mst (rightC cs ct cf cl cp) (mst (yNeq (yNadd (rN (O i)) 1) (yNadd (rN (O i)) 1)) (mst (yGrow (yNadd (yNadd (rN (O i)) 1) 1) 16) (true = true ∧ ∃ (i' : Nat), i' ≤ nv ∧ Nat.succ (msFit nv i') ≤ msFit nv i ∧ true = true ∧ yInt i' = yWrap IntKind.i64 (yAdd (yInt i) 1) ∧ cs = cs ∧ ct = ct ∧ cf = cf ∧ cl = cl ∧ cp = cp ∧ rE (O i') = yAnd (yAnd (rE (O i)) (yNeq 1 0)) (yNeq 1 0) ∧ nat_lit 0 = nat_lit 0 ∧ rN (O i') = yNadd (yNadd (rN (O i)) 1) 1 ∧ rN (O i') = yNadd (yNadd (rN (O i)) 1) 1 ∧ (∀ (i_1 : Nat), Nat.succ i_1 ≤ rN (O i') → rA (O i') i_1 = ySel (yNlt i_1 (yNadd (rN (O i)) 1)) (ySel (yNlt i_1 (rN (O i))) (rA (O i) i_1) (keyC cs ct cf s (yInt i))) (valC cs ct cf s (yInt i)) ∧ rB (O i') i_1 = ySel (yNlt i_1 (yNadd (rN (O i)) 1)) (ySel (yNlt i_1 (rN (O i))) (rB (O i) i_1) (k (yNat (yInt i)))) (w (yNat (yInt i))) ∧ True) ∧ true = true))))))))) ∧ (yLt (yInt i) (yInt nv) = false → mst (rightC cs ct cf cl cp) (mst (yNeq (rN (O i)) (rN (O i))) (mst (yGrow (yNadd (rN (O i)) 1) 16) (mst (rightC cs ct cf cl cp) (mst (true) (mst (yNeq (yNadd (rN (O i)) 1) (yNadd (rN (O i)) 1)) (mst (yGrow (yNadd (yNadd (rN (O i)) 1) 1) 16) (s = s ∧ renewC v = renewC v ∧ false = false ∧ (kn = kn ∧ nk = nk ∧ ∀ (i : Nat), Nat.succ i ≤ nk → k i = k i ∧ True) ∧ (vn = vn ∧ nv = nv ∧ ∀ (i : Nat), Nat.succ i ≤ nv → w i = w i ∧ True) ∧ l = l ∧ cs = cs ∧ ct = ct ∧ cf = cf ∧ cl = cl ∧ cp = cp ∧ rE L = yAnd (yAnd (rE (O i)) (yNeq 1 0)) (yNeq 1 0) ∧ nat_lit 0 = nat_lit 0 ∧ rN L = yNadd (yNadd (rN (O i)) 1) 1 ∧ rN L = yNadd (yNadd (rN (O i)) 1) 1 ∧ (∀ (i_1 : Nat), Nat.succ i_1 ≤ rN L → rA L i_1 = ySel (yNlt i_1 (yNadd (rN (O i)) 1)) (ySel (yNlt i_1 (rN (O i))) (rA (O i) i_1) (linkC cs ct cf s)) (shapeC cs ct cf s) ∧ rB L i_1 = ySel (yNlt i_1 (yNadd (rN (O i)) 1)) (ySel (yNlt i_1 (rN (O i))) (rB (O i) i_1) l) (packC false (yInt nv)) ∧ True) ∧ true = true)))))))))))))
theorem goalBgL_eq : goalBgL = goalBgLV := by kernel_rfl
set_option maxHeartbeats 8000000 in
theorem goalBgL_vc : goalBgLV := by
 unfold goalBgLV
 intro cs ct cf cl cp s v i0 kn0 nk0 k0 vn0 nv0 w0 l0 kn nk k vn nv w l nil0 n0 a0 b0 L O hr hv hnv hn0 h0 hnk hL hO
 have hv2 := hv
 simp only [yNle_t, yNlt_t, yIff_t, yNeq_t, yNadd_e, yAnd_t, yLe_t, yLt_t, yInt_e] at hnv hn0 h0 hnk hv 
 have hO0 : O 0 = prw n0 a0 b0 ++ [(verC cs ct cf s, renewC v)] := by rw [hO, begO_zero]
 have hst : ∀ d, O (d + 1) = O d ++ layN false cs ct cf s (d : Int) (kN false 0 k d) (w d) := fun d => by rw [hO, begO_step]
 have hlen : ∀ d, rN (O d) ≤ n0 + 1 + 2 * d := fun d => by rw [hO]; exact begO_len d
 have hL2 : L = O nv ++ [(linkC cs ct cf s, l)] ++ [(shapeC cs ct cf s, packC false (nv : Int))] := by rw [hL, hO]; rfl
 clear hL hO
 have hp : rN (prw n0 a0 b0) = n0 := by simp [rN, prw_len]
 simp only [vS, forall_const, hr, msFit, false_or, or_false]
 repeat' (first | apply And.intro | intro (_ : Nat → AV) i hi | intro _)
 all_goals (try (have hln := hlen i))
 all_goals (try (have e1 : yWrap .i64 ((i : Int) - 1) = (i : Int) - 1 := wrap64 (by omega) (by omega); simp only [e1] at *))
 all_goals (try (have e2 : yWrap .i64 ((i : Int) + 1) = ((i + 1 : Nat) : Int) := (by rw [wrap64 (by omega) (by omega)]; rfl); simp only [e2] at *))
 all_goals (try (have hk1 : yNat ((i : Int) - 1) = i - 1 := (by unfold yNat; omega); simp only [hk1] at *))
 all_goals first
   | omega
   | (exfalso; omega)
   | assumption
   | (refine ⟨0, by omega, rfl, ?_⟩
      rw [hO0]
      refine ⟨by rw [rE_snoc, yAnd10], by rw [rN_snoc, hp], by rw [rN_snoc, hp], fun q hq => ?_⟩
      rw [rN_snoc, hp] at hq
      exact ⟨(prw_snocA hq).1, (prw_snocA hq).2⟩)
   | (refine ⟨i + 1, by omega, by omega, rfl, ?_⟩
      rw [hst, layNL, kNL, ← List.append_assoc]
      refine ⟨by rw [rE_snoc, yAnd10], by rw [rN_snoc, rN_snoc], by rw [rN_snoc, rN_snoc], fun q hq => ?_⟩
      rw [rN_snoc, rN_snoc] at hq
      exact ⟨rA_snoc2 _ _ _ hq, rB_snoc2 _ _ _ hq⟩)
   | (have hi2 : nv = i := by omega
      rw [hi2] at hL2
      first
        | (rw [hL2, rE_snoc, yAnd10]; done)
        | (rw [hL2, rN_snoc, rN_snoc]; done)
        | (rename_i hq
           rw [hL2] at hq ⊢
           rw [rN_snoc, rN_snoc] at hq
           first
             | exact rA_snoc2 _ _ _ hq
             | exact rB_snoc2 _ _ _ hq
             | (rw [hi2]; exact rB_snoc2 _ _ _ hq)))
theorem goalBgL_tt : (goalBgL) = True := goalBgL_eq.trans (eq_true goalBgL_vc)
theorem goalBgL_ok : goalBgL := @ft' goalBgL goalBgL_tt
def goalBgI_0 (i : Nat) (cs : Int) (ct : Int) (cf : Int) (cl : Int) (cp : Int) (O : Nat → List (Int × Int)) (nv : Nat) (s : Int) (w : Nat → Int) := yLt 0 (yInt i) = false → mst (rightC cs ct cf cl cp) (mst (yNeq (rN (O i)) (rN (O i))) (mst (yGrow (yNadd (rN (O i)) 1) 16) (true = true ∧ ∃ (i' : Nat), i' ≤ nv ∧ Nat.succ (msFit nv i') ≤ msFit nv i ∧ true = true ∧ yInt i' = yWrap IntKind.i64 (yAdd (yInt i) 1) ∧ cs = cs ∧ ct = ct ∧ cf = cf ∧ cl = cl ∧ cp = cp ∧ rE (O i') = yAnd (rE (O i)) (yNeq 1 0) ∧ nat_lit 0 = nat_lit 0 ∧ rN (O i') = yNadd (rN (O i)) 1 ∧ rN (O i') = yNadd (rN (O i)) 1 ∧ (∀ (i_1 : Nat), Nat.succ i_1 ≤ rN (O i') → rA (O i') i_1 = ySel (yNlt i_1 (rN (O i))) (rA (O i) i_1) (valC cs ct cf s (yInt i)) ∧ rB (O i') i_1 = ySel (yNlt i_1 (rN (O i))) (rB (O i) i_1) (w (yNat (yInt i))) ∧ True) ∧ true = true)))
def goalBgIV : Prop := (∀ (cs ct cf cl cp s v : Int) (i0 kn0 : Bool) (nk0 : Nat) (k0 : Nat → Int) (vn0 : Bool) (nv0 : Nat) (w0 : Nat → Int) (l0 : Int) (kn : Bool) (nk : Nat) (k : Nat → Int) (vn : Bool) (nv : Nat) (w : Nat → Int) (l : Int) (nil0 : Bool) (n0 : Nat) (a0 b0 : Nat → Int) (L : List (Int × Int)) (O : Nat → List (Int × Int)), rightC cs ct cf cl cp = true → yAnd (yLe 0 v) (yLt v 18446744073709551616) = true → yNle nv (nat_lit 80) = true → yNle n0 (nat_lit 1000) = true → yIff nil0 (yNeq n0 0) = true → yNeq (yNadd nk 1) nv = true → L = begL true cs ct cf s v k w l n0 a0 b0 nv → O = begO true cs ct cf s v k w n0 a0 b0 → mst (yAnd (yLe 0 v) (yLt v 18446744073709551616)) (mst (rightC cs ct cf cl cp) (mst (yNeq n0 n0) (mst (yGrow (yNadd n0 1) 16) (true = true ∧ (∃ (i0_1 : Nat), i0_1 ≤ nv ∧ true = true ∧ yInt i0_1 = (0 : Int) ∧ cs = cs ∧ ct = ct ∧ cf = cf ∧ cl = cl ∧ cp = cp ∧ rE (O i0_1) = yAnd nil0 (yNeq 1 0) ∧ nat_lit 0 = nat_lit 0 ∧ rN (O i0_1) = yNadd n0 1 ∧ rN (O i0_1) = yNadd n0 1 ∧ (∀ (i : Nat), Nat.succ i ≤ rN (O i0_1) → rA (O i0_1) i = ySel (yNlt i n0) (a0 i) (verC cs ct cf s) ∧ rB (O i0_1) i = ySel (yNlt i n0) (b0 i) (renewC v) ∧ True) ∧ true = true) ∧ ∀ (g : Nat → AV) (i : Nat), i ≤ nv → (yLt (yInt i) (yInt nv) = true → (yEq (yInt i) (0 : Int) = true → mst (yIn (yInt i) nv) ((yLt 0 (yInt i) = true → mst (rightC cs ct cf cl cp) (mst (yNeq (rN (O i)) (rN (O i))) (mst (yGrow (yNadd (rN (O i)) 1) 16) (mst (rightC cs ct cf cl cp) (mst (yNeq (yNadd (rN (O i)) 1) (yNadd (rN (O i)) 1)) (mst (yGrow (yNadd (yNadd (rN (O i)) 1) 1) 16) (true = true ∧ ∃ (i' : Nat), i' ≤ nv ∧ Nat.succ (msFit nv i') ≤ msFit nv i ∧ true = true ∧ yInt i' = yWrap IntKind.i64 (yAdd (yInt i) 1) ∧ cs = cs ∧ ct = ct ∧ cf = cf ∧ cl = cl ∧ cp = cp ∧ rE (O i') = yAnd (yAnd (rE (O i)) (yNeq 1 0)) (yNeq 1 0) ∧ nat_lit 0 = nat_lit 0 ∧ rN (O i') = yNadd (yNadd (rN (O i)) 1) 1 ∧ rN (O i') = yNadd (yNadd (rN (O i)) 1) 1 ∧ (∀ (i_1 : Nat), Nat.succ i_1 ≤ rN (O i') → rA (O i') i_1 = ySel (yNlt i_1 (yNadd (rN (O i)) 1)) (ySel (yNlt i_1 (rN (O i))) (rA (O i) i_1) (keyC cs ct cf s (yWrap IntKind.i64 (ySub (yInt i) 1)))) (valC cs ct cf s (yInt i)) ∧ rB (O i') i_1 = ySel (yNlt i_1 (yNadd (rN (O i)) 1)) (ySel (yNlt i_1 (rN (O i))) (rB (O i) i_1) 0) (w (yNat (yInt i))) ∧ True) ∧ true = true))))))) ∧ (goalBgI_0 i cs ct cf cl cp O nv s w))) ∧ (yEq (yInt i) (0 : Int) = false → mst (yIn (yWrap IntKind.i64 (ySub (yInt i) 1)) nk) (mst (yIn (yInt i) nv) ((yLt 0 (yInt i) = true → mst (rightC cs ct cf cl cp) (mst (yNeq (rN (O i)) (rN (O i))) (mst (yGrow (yNadd (rN (O i)) 1) 16) (mst (rightC cs ct cf cl cp) (mst (yNeq (yNadd (rN (O i)) 1) (yNadd (rN (O i)) 1)) (mst (yGrow (yNadd (yNadd (rN (O i)) 1) 1) 16) (true = true ∧ ∃ (i' : Nat), i' ≤ nv ∧ Nat.succ (msFit nv i') ≤ msFit nv i ∧ true = true ∧ yInt i' = yWrap IntKind.i64 (yAdd (yInt i) 1) ∧ cs = cs ∧ ct = ct ∧ cf = cf ∧ cl = cl ∧ cp = cp ∧ rE (O i') = yAnd (yAnd (rE (O i)) (yNeq 1 0)) (yNeq 1 0) ∧ nat_lit 0 = nat_lit 0 ∧ rN (O i') = yNadd (yNadd (rN (O i)) 1) 1 ∧ rN (O i') = yNadd (yNadd (rN (O i)) 1) 1 ∧ (∀ (i_1 : Nat), Nat.succ i_1 ≤ rN (O i') → rA (O i') i_1 = ySel (yNlt i_1 (yNadd (rN (O i)) 1)) (ySel (yNlt i_1 (rN (O i))) (rA (O i) i_1) (keyC cs ct cf s (yWrap IntKind.i64 (ySub (yInt i) 1)))) (valC cs ct cf s (yInt i)) ∧ rB (O i') i_1 = ySel (yNlt i_1 (yNadd (rN (O i)) 1)) (ySel (yNlt i_1 (rN (O i))) (rB (O i) i_1) (k (yNat (yWrap IntKind.i64 (ySub (yInt i) 1))))) (w (yNat (yInt i))) ∧ True) ∧ true = true))))))) ∧ (goalBgI_0 i cs ct cf cl cp O nv s w))))) ∧ (yLt (yInt i) (yInt nv) = false → mst (rightC cs ct cf cl cp) (mst (yNeq (rN (O i)) (rN (O i))) (mst (yGrow (yNadd (rN (O i)) 1) 16) (mst (rightC cs ct cf cl cp) (mst (true) (mst (yNeq (yNadd (rN (O i)) 1) (yNadd (rN (O i)) 1)) (mst (yGrow (yNadd (yNadd (rN (O i)) 1) 1) 16) (s = s ∧ renewC v = renewC v ∧ true = true ∧ (kn = kn ∧ nk = nk ∧ ∀ (i : Nat), Nat.succ i ≤ nk → k i = k i ∧ True) ∧ (vn = vn ∧ nv = nv ∧ ∀ (i : Nat), Nat.succ i ≤ nv → w i = w i ∧ True) ∧ l = l ∧ cs = cs ∧ ct = ct ∧ cf = cf ∧ cl = cl ∧ cp = cp ∧ rE L = yAnd (yAnd (rE (O i)) (yNeq 1 0)) (yNeq 1 0) ∧ nat_lit 0 = nat_lit 0 ∧ rN L = yNadd (yNadd (rN (O i)) 1) 1 ∧ rN L = yNadd (yNadd (rN (O i)) 1) 1 ∧ (∀ (i_1 : Nat), Nat.succ i_1 ≤ rN L → rA L i_1 = ySel (yNlt i_1 (yNadd (rN (O i)) 1)) (ySel (yNlt i_1 (rN (O i))) (rA (O i) i_1) (linkC cs ct cf s)) (shapeC cs ct cf s) ∧ rB L i_1 = ySel (yNlt i_1 (yNadd (rN (O i)) 1)) (ySel (yNlt i_1 (rN (O i))) (rB (O i) i_1) l) (packC true (yInt nv)) ∧ True) ∧ true = true)))))))))))))
theorem goalBgI_eq : goalBgI = goalBgIV := by kernel_rfl
set_option maxHeartbeats 8000000 in
theorem goalBgI_vc : goalBgIV := by
 unfold goalBgIV goalBgI_0
 intro cs ct cf cl cp s v i0 kn0 nk0 k0 vn0 nv0 w0 l0 kn nk k vn nv w l nil0 n0 a0 b0 L O hr hv hnv hn0 h0 hnk hL hO
 have hv2 := hv
 simp only [yNle_t, yNlt_t, yIff_t, yNeq_t, yNadd_e, yAnd_t, yLe_t, yLt_t, yInt_e] at hnv hn0 h0 hnk hv 
 have hO0 : O 0 = prw n0 a0 b0 ++ [(verC cs ct cf s, renewC v)] := by rw [hO, begO_zero]
 have hst : ∀ d, O (d + 1) = O d ++ layN true cs ct cf s (d : Int) (kN true 0 k d) (w d) := fun d => by rw [hO, begO_step]
 have hlen : ∀ d, rN (O d) ≤ n0 + 1 + 2 * d := fun d => by rw [hO]; exact begO_len d
 have hL2 : L = O nv ++ [(linkC cs ct cf s, l)] ++ [(shapeC cs ct cf s, packC true (nv : Int))] := by rw [hL, hO]; rfl
 clear hL hO
 have hp : rN (prw n0 a0 b0) = n0 := by simp [rN, prw_len]
 simp only [vS, forall_const, hr, msFit, false_or, or_false]
 repeat' (first | apply And.intro | intro (_ : Nat → AV) i hi | intro _)
 all_goals (try (have hln := hlen i))
 all_goals (try (have e1 : yWrap .i64 ((i : Int) - 1) = (i : Int) - 1 := wrap64 (by omega) (by omega); simp only [e1] at *))
 all_goals (try (have e2 : yWrap .i64 ((i : Int) + 1) = ((i + 1 : Nat) : Int) := (by rw [wrap64 (by omega) (by omega)]; rfl); simp only [e2] at *))
 all_goals (try (have hk1 : yNat ((i : Int) - 1) = i - 1 := (by unfold yNat; omega); simp only [hk1] at *))
 all_goals first
   | omega
   | (exfalso; omega)
   | assumption
   | (refine ⟨0, by omega, rfl, ?_⟩
      rw [hO0]
      refine ⟨by rw [rE_snoc, yAnd10], by rw [rN_snoc, hp], by rw [rN_snoc, hp], fun q hq => ?_⟩
      rw [rN_snoc, hp] at hq
      exact ⟨(prw_snocA hq).1, (prw_snocA hq).2⟩)
   | (refine ⟨i + 1, by omega, by omega, rfl, ?_⟩
      rw [hst, layNI_pos (by omega), kNI_pos (by omega), ← List.append_assoc]
      refine ⟨by rw [rE_snoc, yAnd10], by rw [rN_snoc, rN_snoc], by rw [rN_snoc, rN_snoc], fun q hq => ?_⟩
      rw [rN_snoc, rN_snoc] at hq
      exact ⟨rA_snoc2 _ _ _ hq, rB_snoc2 _ _ _ hq⟩)
   | (obtain rfl : i = 0 := by omega
      refine ⟨0 + 1, by omega, by omega, rfl, ?_⟩
      rw [hst, layNI_zero]
      refine ⟨by rw [rE_snoc, yAnd10], by rw [rN_snoc], by rw [rN_snoc], fun q hq => ?_⟩
      rw [rN_snoc] at hq
      exact ⟨rA_snoc _ _ hq, rB_snoc _ _ hq⟩)
   | (have hi2 : nv = i := by omega
      rw [hi2] at hL2
      first
        | (rw [hL2, rE_snoc, yAnd10]; done)
        | (rw [hL2, rN_snoc, rN_snoc]; done)
        | (rename_i hq
           rw [hL2] at hq ⊢
           rw [rN_snoc, rN_snoc] at hq
           first
             | exact rA_snoc2 _ _ _ hq
             | exact rB_snoc2 _ _ _ hq
             | (rw [hi2]; exact rB_snoc2 _ _ _ hq)))
theorem goalBgI_tt : (goalBgI) = True := goalBgI_eq.trans (eq_true goalBgI_vc)
theorem goalBgI_ok : goalBgI := @ft' goalBgI goalBgI_tt
def goalBRLV : Prop := (∀ (cs ct cf cl cp s v : Int) (i0 kn0 : Bool) (nk0 : Nat) (k0 : Nat → Int) (vn0 : Bool) (nv0 : Nat) (w0 : Nat → Int) (l0 : Int) (kn : Bool) (nk : Nat) (k : Nat → Int) (vn : Bool) (nv : Nat) (w : Nat → Int) (l : Int) (nil0 : Bool) (n0 : Nat) (a0 b0 : Nat → Int) (L : List (Int × Int)) (O : Nat → List (Int × Int)), rightC cs ct cf cl cp = true → yAnd (yLe 0 v) (yLt v 18446744073709551616) = true → yNle nv (nat_lit 80) = true → yNle n0 (nat_lit 1000) = true → yIff nil0 (yNeq n0 0) = true → yNeq (yNadd nk 0) nv = true → yAnd (yLe 0 s) (yLe s cs) = true → yLe (yInt nv) cf = true → L = begL false cs ct cf s v k w l n0 a0 b0 nv → O = begO false cs ct cf s v k w n0 a0 b0 → mst (yAnd (rightC cs ct cf cl cp) (yAnd (yLe 0 s) (yLe s cs))) (mst (yAnd (yLe 0 v) (yLt v 18446744073709551616)) (mst (yNeq n0 n0) (mst (yGrow (yNadd n0 1) 16) (true = true ∧ (∃ (i0_1 : Nat), i0_1 ≤ nv ∧ true = true ∧ rE (O i0_1) = yAnd nil0 (yNeq 1 0) ∧ nat_lit 0 = nat_lit 0 ∧ rN (O i0_1) = yNadd n0 1 ∧ yInt i0_1 = (0 : Int) ∧ rN (O i0_1) = yNadd n0 1 ∧ (∀ (i : Nat), Nat.succ i ≤ rN (O i0_1) → rA (O i0_1) i = ySel (yNlt i n0) (a0 i) (verC cs ct cf s) ∧ rB (O i0_1) i = ySel (yNlt i n0) (b0 i) (renewC v) ∧ True) ∧ true = true) ∧ ∀ (g : Nat → AV) (i : Nat), i ≤ nv → (yLt (yInt i) (yInt nv) = true → mst (yIn (yInt i) nk) (mst (yIn (yInt i) nv) (mst (yAnd (yAnd (rightC cs ct cf cl cp) (yAnd (yLe 0 s) (yLe s cs))) (yAnd (yLe 0 (yInt i)) (yLt (yInt i) cf))) (mst (yNeq (rN (O i)) (rN (O i))) (mst (yGrow (yNadd (rN (O i)) 1) 16) (mst (yAnd (yAnd (rightC cs ct cf cl cp) (yAnd (yLe 0 s) (yLe s cs))) (yAnd (yLe 0 (yInt i)) (yLt (yInt i) cf))) (mst (yNeq (yNadd (rN (O i)) 1) (yNadd (rN (O i)) 1)) (mst (yGrow (yNadd (yNadd (rN (O i)) 1) 1) 16) (true = true ∧ ∃ (i' : Nat), i' ≤ nv ∧ Nat.succ (msFit nv i') ≤ msFit nv i ∧ true = true ∧ rE (O i') = yAnd (yAnd (rE (O i)) (yNeq 1 0)) (yNeq 1 0) ∧ nat_lit 0 = nat_lit 0 ∧ rN (O i') = yNadd (yNadd (rN (O i)) 1) 1 ∧ yInt i' = yWrap IntKind.i64 (yAdd (yInt i) 1) ∧ rN (O i') = yNadd (yNadd (rN (O i)) 1) 1 ∧ (∀ (i_1 : Nat), Nat.succ i_1 ≤ rN (O i') → rA (O i') i_1 = ySel (yNlt i_1 (yNadd (rN (O i)) 1)) (ySel (yNlt i_1 (rN (O i))) (rA (O i) i_1) (keyC cs ct cf s (yInt i))) (valC cs ct cf s (yInt i)) ∧ rB (O i') i_1 = ySel (yNlt i_1 (yNadd (rN (O i)) 1)) (ySel (yNlt i_1 (rN (O i))) (rB (O i) i_1) (k (yNat (yInt i)))) (w (yNat (yInt i))) ∧ True) ∧ true = true))))))))) ∧ (yLt (yInt i) (yInt nv) = false → mst (yAnd (rightC cs ct cf cl cp) (yAnd (yLe 0 s) (yLe s cs))) (mst (yNeq (rN (O i)) (rN (O i))) (mst (yGrow (yNadd (rN (O i)) 1) 16) (mst (yAnd (rightC cs ct cf cl cp) (yAnd (yLe 0 s) (yLe s cs))) (mst (true) (mst (yNeq (yNadd (rN (O i)) 1) (yNadd (rN (O i)) 1)) (mst (yGrow (yNadd (yNadd (rN (O i)) 1) 1) 16) (rE L = yAnd (yAnd (rE (O i)) (yNeq 1 0)) (yNeq 1 0) ∧ nat_lit 0 = nat_lit 0 ∧ rN L = yNadd (yNadd (rN (O i)) 1) 1 ∧ rN L = yNadd (yNadd (rN (O i)) 1) 1 ∧ (∀ (i_1 : Nat), Nat.succ i_1 ≤ rN L → rA L i_1 = ySel (yNlt i_1 (yNadd (rN (O i)) 1)) (ySel (yNlt i_1 (rN (O i))) (rA (O i) i_1) (linkC cs ct cf s)) (shapeC cs ct cf s) ∧ rB L i_1 = ySel (yNlt i_1 (yNadd (rN (O i)) 1)) (ySel (yNlt i_1 (rN (O i))) (rB (O i) i_1) l) (packC false (yInt nv)) ∧ True) ∧ true = true)))))))))))))
theorem goalBRL_eq : goalBRL = goalBRLV := by kernel_rfl
set_option maxHeartbeats 8000000 in
theorem goalBRL_vc : goalBRLV := by
 unfold goalBRLV
 intro cs ct cf cl cp s v i0 kn0 nk0 k0 vn0 nv0 w0 l0 kn nk k vn nv w l nil0 n0 a0 b0 L O hr hv hnv hn0 h0 hnk hs hf hL hO
 have hv2 := hv
 simp only [yNle_t, yNlt_t, yIff_t, yNeq_t, yNadd_e, yAnd_t, yLe_t, yLt_t, yInt_e] at hnv hn0 h0 hnk hv hs hf 
 have hO0 : O 0 = prw n0 a0 b0 ++ [(verC cs ct cf s, renewC v)] := by rw [hO, begO_zero]
 have hst : ∀ d, O (d + 1) = O d ++ layN false cs ct cf s (d : Int) (kN false 0 k d) (w d) := fun d => by rw [hO, begO_step]
 have hlen : ∀ d, rN (O d) ≤ n0 + 1 + 2 * d := fun d => by rw [hO]; exact begO_len d
 have hL2 : L = O nv ++ [(linkC cs ct cf s, l)] ++ [(shapeC cs ct cf s, packC false (nv : Int))] := by rw [hL, hO]; rfl
 clear hL hO
 have hp : rN (prw n0 a0 b0) = n0 := by simp [rN, prw_len]
 simp only [vS, forall_const, hr, msFit, false_or, or_false]
 repeat' (first | apply And.intro | intro (_ : Nat → AV) i hi | intro _)
 all_goals (try (have hln := hlen i))
 all_goals (try (have e1 : yWrap .i64 ((i : Int) - 1) = (i : Int) - 1 := wrap64 (by omega) (by omega); simp only [e1] at *))
 all_goals (try (have e2 : yWrap .i64 ((i : Int) + 1) = ((i + 1 : Nat) : Int) := (by rw [wrap64 (by omega) (by omega)]; rfl); simp only [e2] at *))
 all_goals (try (have hk1 : yNat ((i : Int) - 1) = i - 1 := (by unfold yNat; omega); simp only [hk1] at *))
 all_goals first
   | omega
   | (exfalso; omega)
   | assumption
   | (refine ⟨0, by omega, ?_⟩
      rw [hO0]
      refine ⟨by rw [rE_snoc, yAnd10], by rw [rN_snoc, hp], by first | rfl | omega, by rw [rN_snoc, hp], fun q hq => ?_⟩
      rw [rN_snoc, hp] at hq
      exact ⟨(prw_snocA hq).1, (prw_snocA hq).2⟩)
   | (refine ⟨i + 1, by omega, by omega, ?_⟩
      rw [hst, layNL, kNL, ← List.append_assoc]
      refine ⟨by rw [rE_snoc, yAnd10], by rw [rN_snoc, rN_snoc], by first | rfl | omega, by rw [rN_snoc, rN_snoc], fun q hq => ?_⟩
      rw [rN_snoc, rN_snoc] at hq
      exact ⟨rA_snoc2 _ _ _ hq, rB_snoc2 _ _ _ hq⟩)
   | (have hi2 : nv = i := by omega
      rw [hi2] at hL2
      first
        | (rw [hL2, rE_snoc, yAnd10]; done)
        | (rw [hL2, rN_snoc, rN_snoc]; done)
        | (rename_i hq
           rw [hL2] at hq ⊢
           rw [rN_snoc, rN_snoc] at hq
           first
             | exact rA_snoc2 _ _ _ hq
             | exact rB_snoc2 _ _ _ hq
             | (rw [hi2]; exact rB_snoc2 _ _ _ hq)))
theorem goalBRL_tt : (goalBRL) = True := goalBRL_eq.trans (eq_true goalBRL_vc)
theorem goalBRL_ok : goalBRL := @ft' goalBRL goalBRL_tt
def goalBRI_2 (cs : Int) (ct : Int) (cf : Int) (cl : Int) (cp : Int) (s : Int) := yAnd (rightC cs ct cf cl cp) (yAnd (yLe 0 s) (yLe s cs))
def goalBRI_0 (i : Nat) (cs : Int) (ct : Int) (cf : Int) (cl : Int) (cp : Int) (s : Int) (O : Nat → List (Int × Int)) (nv : Nat) (w : Nat → Int) := yLt 0 (yInt i) = false → mst (yAnd (goalBRI_2 cs ct cf cl cp s) (yAnd (yLe 0 (yInt i)) (yLt (yInt i) cf))) (mst (yNeq (rN (O i)) (rN (O i))) (mst (yGrow (yNadd (rN (O i)) 1) 16) (true = true ∧ ∃ (i' : Nat), i' ≤ nv ∧ Nat.succ (msFit nv i') ≤ msFit nv i ∧ true = true ∧ rE (O i') = yAnd (rE (O i)) (yNeq 1 0) ∧ nat_lit 0 = nat_lit 0 ∧ rN (O i') = yNadd (rN (O i)) 1 ∧ yInt i' = yWrap IntKind.i64 (yAdd (yInt i) 1) ∧ rN (O i') = yNadd (rN (O i)) 1 ∧ (∀ (i_1 : Nat), Nat.succ i_1 ≤ rN (O i') → rA (O i') i_1 = ySel (yNlt i_1 (rN (O i))) (rA (O i) i_1) (valC cs ct cf s (yInt i)) ∧ rB (O i') i_1 = ySel (yNlt i_1 (rN (O i))) (rB (O i) i_1) (w (yNat (yInt i))) ∧ True) ∧ true = true)))
def goalBRI_1 (i : Nat) (cf : Int) := yAnd (yLe 0 (yWrap IntKind.i64 (ySub (yInt i) 1))) (yLt (yWrap IntKind.i64 (ySub (yInt i) 1)) cf)
def goalBRIV : Prop := (∀ (cs ct cf cl cp s v : Int) (i0 kn0 : Bool) (nk0 : Nat) (k0 : Nat → Int) (vn0 : Bool) (nv0 : Nat) (w0 : Nat → Int) (l0 : Int) (kn : Bool) (nk : Nat) (k : Nat → Int) (vn : Bool) (nv : Nat) (w : Nat → Int) (l : Int) (nil0 : Bool) (n0 : Nat) (a0 b0 : Nat → Int) (L : List (Int × Int)) (O : Nat → List (Int × Int)), rightC cs ct cf cl cp = true → yAnd (yLe 0 v) (yLt v 18446744073709551616) = true → yNle nv (nat_lit 80) = true → yNle n0 (nat_lit 1000) = true → yIff nil0 (yNeq n0 0) = true → yNeq (yNadd nk 1) nv = true → yAnd (yLe 0 s) (yLe s cs) = true → yLe (yInt nv) cf = true → L = begL true cs ct cf s v k w l n0 a0 b0 nv → O = begO true cs ct cf s v k w n0 a0 b0 → mst (yAnd (rightC cs ct cf cl cp) (yAnd (yLe 0 s) (yLe s cs))) (mst (yAnd (yLe 0 v) (yLt v 18446744073709551616)) (mst (yNeq n0 n0) (mst (yGrow (yNadd n0 1) 16) (true = true ∧ (∃ (i0_1 : Nat), i0_1 ≤ nv ∧ true = true ∧ rE (O i0_1) = yAnd nil0 (yNeq 1 0) ∧ nat_lit 0 = nat_lit 0 ∧ rN (O i0_1) = yNadd n0 1 ∧ yInt i0_1 = (0 : Int) ∧ rN (O i0_1) = yNadd n0 1 ∧ (∀ (i : Nat), Nat.succ i ≤ rN (O i0_1) → rA (O i0_1) i = ySel (yNlt i n0) (a0 i) (verC cs ct cf s) ∧ rB (O i0_1) i = ySel (yNlt i n0) (b0 i) (renewC v) ∧ True) ∧ true = true) ∧ ∀ (g : Nat → AV) (i : Nat), i ≤ nv → (yLt (yInt i) (yInt nv) = true → (yEq (yInt i) (0 : Int) = true → mst (yIn (yInt i) nv) ((yLt 0 (yInt i) = true → mst (yAnd (goalBRI_2 cs ct cf cl cp s) (goalBRI_1 i cf)) (mst (yNeq (rN (O i)) (rN (O i))) (mst (yGrow (yNadd (rN (O i)) 1) 16) (mst (yAnd (goalBRI_2 cs ct cf cl cp s) (yAnd (yLe 0 (yInt i)) (yLt (yInt i) cf))) (mst (yNeq (yNadd (rN (O i)) 1) (yNadd (rN (O i)) 1)) (mst (yGrow (yNadd (yNadd (rN (O i)) 1) 1) 16) (true = true ∧ ∃ (i' : Nat), i' ≤ nv ∧ Nat.succ (msFit nv i') ≤ msFit nv i ∧ true = true ∧ rE (O i') = yAnd (yAnd (rE (O i)) (yNeq 1 0)) (yNeq 1 0) ∧ nat_lit 0 = nat_lit 0 ∧ rN (O i') = yNadd (yNadd (rN (O i)) 1) 1 ∧ yInt i' = yWrap IntKind.i64 (yAdd (yInt i) 1) ∧ rN (O i') = yNadd (yNadd (rN (O i)) 1) 1 ∧ (∀ (i_1 : Nat), Nat.succ i_1 ≤ rN (O i') → rA (O i') i_1 = ySel (yNlt i_1 (yNadd (rN (O i)) 1)) (ySel (yNlt i_1 (rN (O i))) (rA (O i) i_1) (keyC cs ct cf s (yWrap IntKind.i64 (ySub (yInt i) 1)))) (valC cs ct cf s (yInt i)) ∧ rB (O i') i_1 = ySel (yNlt i_1 (yNadd (rN (O i)) 1)) (ySel (yNlt i_1 (rN (O i))) (rB (O i) i_1) 0) (w (yNat (yInt i))) ∧ True) ∧ true = true))))))) ∧ (goalBRI_0 i cs ct cf cl cp s O nv w))) ∧ (yEq (yInt i) (0 : Int) = false → mst (yIn (yWrap IntKind.i64 (ySub (yInt i) 1)) nk) (mst (yIn (yInt i) nv) ((yLt 0 (yInt i) = true → mst (yAnd (goalBRI_2 cs ct cf cl cp s) (goalBRI_1 i cf)) (mst (yNeq (rN (O i)) (rN (O i))) (mst (yGrow (yNadd (rN (O i)) 1) 16) (mst (yAnd (goalBRI_2 cs ct cf cl cp s) (yAnd (yLe 0 (yInt i)) (yLt (yInt i) cf))) (mst (yNeq (yNadd (rN (O i)) 1) (yNadd (rN (O i)) 1)) (mst (yGrow (yNadd (yNadd (rN (O i)) 1) 1) 16) (true = true ∧ ∃ (i' : Nat), i' ≤ nv ∧ Nat.succ (msFit nv i') ≤ msFit nv i ∧ true = true ∧ rE (O i') = yAnd (yAnd (rE (O i)) (yNeq 1 0)) (yNeq 1 0) ∧ nat_lit 0 = nat_lit 0 ∧ rN (O i') = yNadd (yNadd (rN (O i)) 1) 1 ∧ yInt i' = yWrap IntKind.i64 (yAdd (yInt i) 1) ∧ rN (O i') = yNadd (yNadd (rN (O i)) 1) 1 ∧ (∀ (i_1 : Nat), Nat.succ i_1 ≤ rN (O i') → rA (O i') i_1 = ySel (yNlt i_1 (yNadd (rN (O i)) 1)) (ySel (yNlt i_1 (rN (O i))) (rA (O i) i_1) (keyC cs ct cf s (yWrap IntKind.i64 (ySub (yInt i) 1)))) (valC cs ct cf s (yInt i)) ∧ rB (O i') i_1 = ySel (yNlt i_1 (yNadd (rN (O i)) 1)) (ySel (yNlt i_1 (rN (O i))) (rB (O i) i_1) (k (yNat (yWrap IntKind.i64 (ySub (yInt i) 1))))) (w (yNat (yInt i))) ∧ True) ∧ true = true))))))) ∧ (goalBRI_0 i cs ct cf cl cp s O nv w))))) ∧ (yLt (yInt i) (yInt nv) = false → mst (yAnd (rightC cs ct cf cl cp) (yAnd (yLe 0 s) (yLe s cs))) (mst (yNeq (rN (O i)) (rN (O i))) (mst (yGrow (yNadd (rN (O i)) 1) 16) (mst (yAnd (rightC cs ct cf cl cp) (yAnd (yLe 0 s) (yLe s cs))) (mst (true) (mst (yNeq (yNadd (rN (O i)) 1) (yNadd (rN (O i)) 1)) (mst (yGrow (yNadd (yNadd (rN (O i)) 1) 1) 16) (rE L = yAnd (yAnd (rE (O i)) (yNeq 1 0)) (yNeq 1 0) ∧ nat_lit 0 = nat_lit 0 ∧ rN L = yNadd (yNadd (rN (O i)) 1) 1 ∧ rN L = yNadd (yNadd (rN (O i)) 1) 1 ∧ (∀ (i_1 : Nat), Nat.succ i_1 ≤ rN L → rA L i_1 = ySel (yNlt i_1 (yNadd (rN (O i)) 1)) (ySel (yNlt i_1 (rN (O i))) (rA (O i) i_1) (linkC cs ct cf s)) (shapeC cs ct cf s) ∧ rB L i_1 = ySel (yNlt i_1 (yNadd (rN (O i)) 1)) (ySel (yNlt i_1 (rN (O i))) (rB (O i) i_1) l) (packC true (yInt nv)) ∧ True) ∧ true = true)))))))))))))
theorem goalBRI_eq : goalBRI = goalBRIV := by kernel_rfl
set_option maxHeartbeats 8000000 in
theorem goalBRI_vc : goalBRIV := by
 unfold goalBRIV goalBRI_1 goalBRI_0 goalBRI_2
 intro cs ct cf cl cp s v i0 kn0 nk0 k0 vn0 nv0 w0 l0 kn nk k vn nv w l nil0 n0 a0 b0 L O hr hv hnv hn0 h0 hnk hs hf hL hO
 have hv2 := hv
 simp only [yNle_t, yNlt_t, yIff_t, yNeq_t, yNadd_e, yAnd_t, yLe_t, yLt_t, yInt_e] at hnv hn0 h0 hnk hv hs hf 
 have hO0 : O 0 = prw n0 a0 b0 ++ [(verC cs ct cf s, renewC v)] := by rw [hO, begO_zero]
 have hst : ∀ d, O (d + 1) = O d ++ layN true cs ct cf s (d : Int) (kN true 0 k d) (w d) := fun d => by rw [hO, begO_step]
 have hlen : ∀ d, rN (O d) ≤ n0 + 1 + 2 * d := fun d => by rw [hO]; exact begO_len d
 have hL2 : L = O nv ++ [(linkC cs ct cf s, l)] ++ [(shapeC cs ct cf s, packC true (nv : Int))] := by rw [hL, hO]; rfl
 clear hL hO
 have hp : rN (prw n0 a0 b0) = n0 := by simp [rN, prw_len]
 simp only [vS, forall_const, hr, msFit, false_or, or_false]
 repeat' (first | apply And.intro | intro (_ : Nat → AV) i hi | intro _)
 all_goals (try (have hln := hlen i))
 all_goals (try (have e1 : yWrap .i64 ((i : Int) - 1) = (i : Int) - 1 := wrap64 (by omega) (by omega); simp only [e1] at *))
 all_goals (try (have e2 : yWrap .i64 ((i : Int) + 1) = ((i + 1 : Nat) : Int) := (by rw [wrap64 (by omega) (by omega)]; rfl); simp only [e2] at *))
 all_goals (try (have hk1 : yNat ((i : Int) - 1) = i - 1 := (by unfold yNat; omega); simp only [hk1] at *))
 all_goals first
   | omega
   | (exfalso; omega)
   | assumption
   | (refine ⟨0, by omega, ?_⟩
      rw [hO0]
      refine ⟨by rw [rE_snoc, yAnd10], by rw [rN_snoc, hp], by first | rfl | omega, by rw [rN_snoc, hp], fun q hq => ?_⟩
      rw [rN_snoc, hp] at hq
      exact ⟨(prw_snocA hq).1, (prw_snocA hq).2⟩)
   | (refine ⟨i + 1, by omega, by omega, ?_⟩
      rw [hst, layNI_pos (by omega), kNI_pos (by omega), ← List.append_assoc]
      refine ⟨by rw [rE_snoc, yAnd10], by rw [rN_snoc, rN_snoc], by first | rfl | omega, by rw [rN_snoc, rN_snoc], fun q hq => ?_⟩
      rw [rN_snoc, rN_snoc] at hq
      exact ⟨rA_snoc2 _ _ _ hq, rB_snoc2 _ _ _ hq⟩)
   | (obtain rfl : i = 0 := by omega
      refine ⟨0 + 1, by omega, by omega, ?_⟩
      rw [hst, layNI_zero]
      refine ⟨by rw [rE_snoc, yAnd10], by rw [rN_snoc], by first | rfl | omega, by rw [rN_snoc], fun q hq => ?_⟩
      rw [rN_snoc] at hq
      exact ⟨rA_snoc _ _ hq, rB_snoc _ _ hq⟩)
   | (have hi2 : nv = i := by omega
      rw [hi2] at hL2
      first
        | (rw [hL2, rE_snoc, yAnd10]; done)
        | (rw [hL2, rN_snoc, rN_snoc]; done)
        | (rename_i hq
           rw [hL2] at hq ⊢
           rw [rN_snoc, rN_snoc] at hq
           first
             | exact rA_snoc2 _ _ _ hq
             | exact rB_snoc2 _ _ _ hq
             | (rw [hi2]; exact rB_snoc2 _ _ _ hq)))
theorem goalBRI_tt : (goalBRI) = True := goalBRI_eq.trans (eq_true goalBRI_vc)
theorem goalBRI_ok : goalBRI := @ft' goalBRI goalBRI_tt
end Go.Proofs.YtjhbimdaeofdlaaGreatDoor.Ex
end
