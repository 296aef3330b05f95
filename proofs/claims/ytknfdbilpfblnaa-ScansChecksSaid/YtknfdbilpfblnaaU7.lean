/- The texts CDu, CCk, CKp, CDe, COn, CRl, CDf, CSn, CSc, RunSc, CScS, Psa, Psb, Psc, Psd, CSr: Contracts: scans.during, lacking. Contracts: scans.checked looks at a Scan. Contracts: scans.Check and First. Contracts: gleaningref21.At, gleaningref32.was, always and During. Contract: .. -/
import Derived.Test.YtknfdbilpfblnaaProg
import Derived.Test.YtknfdbilpfblnaaU6
set_option linter.all false
set_option maxRecDepth 100000
section
noncomputable section
namespace Go.Proofs.Ytknfdbilpfblnaa.Ex
open Go
def duF (T : TtS) (N : Nat) (a : Int) : Nat := ((List.range N).filter λ q => decide (zFr T q <= a)).getLastD 0
def prDu (N i : Nat) : Prop := i <= N
def mDu (N i : Nat) : Nat := N - i
def annDu (T : TtS) (N : Nat) (a : Int) (b : Nat) : Option (St -> LoopA) :=
 match b with
 | 0 => some λ _ => { ι := Nat, tms := [5, 10], tmU := λ i => [.y .i64 (yInt (duF T i a)), .y .i64 (yInt i)], ids := [], hpU := λ _ => [], del := [], ex := 0, pre := prDu N, ms := mDu N }
 | _ => none
def lDu : List (Nat × Sm) := [(76, .ct (ctX sCu rSt fCu))]
def goalDu : Prop := ∀ (nl : Bool) (N : Nat) (T : TtS) (id th ok key val hi most fr to : Int) (ov : Bool) (rk rv : Int) (nlc : Bool) (n : Nat) (pk pv : Nat -> Int), preZ T N = true -> yNlt 0 N = true →
 wxH Try.prog (smL lDu) (annDu T N fr) 54 [rSt, sCaP] [.rows nl N (colsT T), .l (dCal id th ok key val hi most fr to ov rk rv nlc n pk pv)] rSt (.rows nl (yNsub (cuT T N (duF T N fr) to) (duF T N fr)) (colsTs T (duF T N fr))) []
def hiL (hi most : Int) (n : Nat) (pk : Nat -> Int) : Int := if most <= n then pk (n - 1) else hi
def inK (n : Nat) (k : Nat -> Int) (a : Int) : Bool := yLe 0 (fxI n (keB k a))
def laB (key hi : Int) (n : Nat) (pk : Nat -> Int) (T : TtS) (N : Nat) (p : Nat) : Bool := decide (key <= zK T 0 p /\ zK T 0 p <= hi /\ inK n pk (zK T 0 p) = false /\ ∀ q, q < N -> 0 < q -> inK (zN T q) (zK T q) (zK T 0 p) = true)
def prLa (key hi : Int) (n : Nat) (pk : Nat -> Int) (T : TtS) (N p : Nat) : Prop := p <= zN T 0 /\ ∀ j, j < p -> laB key hi n pk T N j = false
def mLa (T : TtS) (p : Nat) : Nat := zN T 0 - p
def prLi (key hi : Int) (n : Nat) (pk : Nat -> Int) (T : TtS) (N : Nat) (p : Nat) (q : Nat) : Prop := p < zN T 0 /\ key <= zK T 0 p /\ zK T 0 p <= hi /\ inK n pk (zK T 0 p) = false /\ q + 1 <= N /\ ∀ j, j < q + 1 -> 0 < j -> inK (zN T j) (zK T j) (zK T 0 p) = true
def mLi (N q : Nat) : Nat := N - (q + 1)
def laI (key hi : Int) (n : Nat) (pk : Nat -> Int) (T : TtS) (N : Nat) : Option Nat := (List.range (zN T 0)).find? (laB key hi n pk T N)
def laK (key hi : Int) (n : Nat) (pk : Nat -> Int) (T : TtS) (N : Nat) : Int := match laI key hi n pk T N with | some p => zK T 0 p | none => 0
def laS (key hi : Int) (n : Nat) (pk : Nat -> Int) (T : TtS) (N : Nat) : Bool := (laI key hi n pk T N).isSome
def annLa (key hi : Int) (n : Nat) (pk : Nat -> Int) (T : TtS) (N : Nat) (b : Nat) : Option (St -> LoopA) :=
 match b with
 | 0 => some λ _ => { ι := Nat, tms := [43], tmU := λ p => [.y .i64 (yInt p)], ids := [], hpU := λ _ => [], del := [], ex := 0, pre := prLa key hi n pk T N, ms := mLa T }
 | 1 => some λ z => { ι := Nat, tms := [68], tmU := λ q => [.y .i64 (yInt q)], ids := [ptI z 10], hpU := λ _ => [.cells [.y .u64 (zK T 0 (yNat (yAt z 43))), .y .u64 (zV T 0 (yNat (yAt z 43)))] 113 none], del := [], ex := 0, pre := prLi key hi n pk T N (yNat (yAt z 43)), ms := mLi N }
 | _ => none
def lLa : List (Nat × Sm) := [(113, .ct (ctX sIk .sc fIk))]
def goalLa : Prop := ∀ (nl : Bool) (N : Nat) (T : TtS) (id th ok key val hi most fr to : Int) (ov : Bool) (rk rv : Int) (nlc : Bool) (n : Nat) (pk pv : Nat -> Int), preZ T N = true -> yNlt 0 N = true -> yNle n 1000000 = true -> yLe 1 most = true →
 wxH Try.prog (smL lLa) (annLa key (hiL hi most n pk) n pk T N) 58 [sCaP, rSt] [.l (dCal id th ok key val hi most fr to ov rk rv nlc n pk pv), .rows nl N (colsT T)] (.tup [.sc, .sc]) (.l [.v (.y .u64 (laK key (hiL hi most n pk) n pk T N)), .v (.yb (laS key (hiL hi most n pk) n pk T N))]) []
theorem duF_step (T : TtS) (i : Nat) (a : Int) : duF T (i + 1) a = if zFr T i <= a then i else duF T i a := by
 unfold duF
 rw [List.range_succ, List.filter_append]
 by_cases h : zFr T i <= a
 . rw [if_pos h]
   simp [h]
 . rw [if_neg h]
   simp [h]
theorem duF_lt (T : TtS) (a : Int) : ∀ N, 0 < N -> duF T N a < N
 | 0, h => absurd h (Nat.lt_irrefl _)
 | N + 1, _ => by
   rw [duF_step]
   split
   . omega
   . by_cases h : 0 < N
     . have := duF_lt T a N h; omega
     . obtain rfl : N = 0 := by omega
       show duF T 0 a < 1
       show (0 : Nat) < 1
       omega
def goalDuV : Prop := (∀ (nl : Bool) (N : Nat) (T : TtS) (id th ok key val hi most fr to : Int) (ov : Bool) (rk rv : Int) (nlc : Bool) (n : Nat) (pk pv : Nat -> Int), preZ T N = true -> yNlt 0 N = true -> true = true /\ (∃ (i0 : Nat), prDu N i0 /\ true = true /\ yInt (duF T i0 fr) = (0 : Int) /\ yInt i0 = (0 : Int) /\ true = true) /\ ∀ (g : Nat -> AV) (i : Nat), prDu N i -> (yLt (yInt i) (yInt N) = true -> mst (yIn (yInt i) N) ((yLe (zFr T (yNat (yInt i))) fr = true -> true = true /\ ∃ (i' : Nat), prDu N i' /\ Nat.succ (mDu N i') <= mDu N i /\ true = true /\ yInt (duF T i' fr) = yInt i /\ yInt i' = yWrap .i64 (yAdd (yInt i) 1) /\ true = true) /\ (yLe (zFr T (yNat (yInt i))) fr = false -> true = true /\ ∃ (i' : Nat), prDu N i' /\ Nat.succ (mDu N i') <= mDu N i /\ true = true /\ yInt (duF T i' fr) = yInt (duF T i fr) /\ yInt i' = yWrap .i64 (yAdd (yInt i) 1) /\ true = true))) /\ (yLt (yInt i) (yInt N) = false -> mst (yCol (CK.int .i64) N λ (i : Nat) => AV.y .i64 (zFr T i)) (mst (yCol (CK.ls [K1.int .u64, K1.int .u64]) N λ (i : Nat) => AV.lst false (zNl T i) 2 (zN T i) (cl2F [Cl2.int .u64 (zK T), Cl2.int .u64 (zV T)] i)) (mst (yCol (CK.int .u64) n λ (i : Nat) => AV.y .u64 (pk i)) (mst (yCol (CK.int .u64) n λ (i : Nat) => AV.y .u64 (pv i)) (mst (yAnd (preZ T N) (yIn (yInt (duF T i fr)) N)) ((nl = nl /\ yNsub (cuT T N (duF T N fr) to) (duF T N fr) = yNsub (cuT T N (yNat (yInt (duF T i fr))) to) (yNat (yInt (duF T i fr))) /\ ∀ (i_1 : Nat), Nat.succ i_1 <= yNsub (cuT T N (duF T N fr) to) (duF T N fr) -> zFr T (yNadd (duF T N fr) i_1) = zFr T (yNadd (yNat (yInt (duF T i fr))) i_1) /\ (zNl T (yNadd (duF T N fr) i_1) = zNl T (yNadd (yNat (yInt (duF T i fr))) i_1) /\ zN T (yNadd (duF T N fr) i_1) = zN T (yNadd (yNat (yInt (duF T i fr))) i_1) /\ ∀ (i_2 : Nat), Nat.succ i_2 <= zN T (yNadd (duF T N fr) i_1) -> zK T (yNadd (duF T N fr) i_1) i_2 = zK T (yNadd (yNat (yInt (duF T i fr))) i_1) i_2 /\ zV T (yNadd (duF T N fr) i_1) i_2 = zV T (yNadd (yNat (yInt (duF T i fr))) i_1) i_2 /\ True) /\ True) /\ true = true)))))))
theorem goalDu_eq : goalDu = goalDuV := by kernel_rfl
set_option maxHeartbeats 8000000 in
theorem goalDu_vc : goalDuV := by
 unfold goalDuV
 intro nl N T id th ok key val hi most fr to ov rk rv nlc n pk pv hT h0
 obtain ⟨hN, hz⟩ := of_decide_eq_true hT
 have h0 : 0 < N := of_decide_eq_true h0
 refine ⟨rfl, ⟨0, Nat.zero_le _, rfl, rfl, rfl, rfl⟩, λ g i hi => ⟨λ h => ?_, λ h => ?_⟩⟩
 . have hlt := yLtN h
   have b1 : prDu N (i + 1) := hlt
   have b2 : Nat.succ (mDu N (i + 1)) <= mDu N i := by unfold mDu; omega
   have b3 : yInt (i + 1) = yWrap .i64 (yAdd (yInt i) 1) := by
    show ((i + 1 : Nat) : Int) = yWrap .i64 ((i : Int) + 1)
    rw [wrap64 (by omega) (by omega)]; omega
   refine mstI (yInN hlt) ⟨λ e => ⟨rfl, i + 1, b1, b2, rfl, ?_, b3, rfl⟩, λ e => ⟨rfl, i + 1, b1, b2, rfl, ?_, b3, rfl⟩⟩
   . rw [duF_step, if_pos (show zFr T i <= fr from of_decide_eq_true e)]
   . rw [duF_step, if_neg (show ¬ zFr T i <= fr from of_decide_eq_false e)]
 . have hge := yLtF h
   have hi : i <= N := hi
   obtain rfl : i = N := by omega
   refine mstI yCol_int (mstI (yCol_ok.2 λ i _ => List.all_eq_true.2 λ p _ => rfl) (mstI yCol_int (mstI yCol_int (mstI ?_ ?_))))
   . rw [hT, yInN (duF_lt T fr i h0)]; rfl
   . repeat' (first | exact trivial | with_reducible rfl | apply And.intro | intro _ | rfl)
theorem goalDu_tt : (goalDu) = True := goalDu_eq.trans (eq_true goalDu_vc)
theorem goalDu_ok : goalDu := @ft' goalDu goalDu_tt
theorem laB_t {key hi : Int} {n : Nat} {pk : Nat -> Int} {T : TtS} {N p : Nat} : laB key hi n pk T N p = true ↔ (key <= zK T 0 p /\ zK T 0 p <= hi /\ inK n pk (zK T 0 p) = false /\ ∀ q, q < N -> 0 < q -> inK (zN T q) (zK T q) (zK T 0 p) = true) := decide_eq_true_iff
theorem la_next {key hi : Int} {n : Nat} {pk : Nat -> Int} {T : TtS} {N p : Nat} (hz : zN T 0 <= 1000000) (h : prLa key hi n pk T N p) (hl : p < zN T 0) (hb : laB key hi n pk T N p = false) :
 true = true /\ ∃ i' : Nat, prLa key hi n pk T N i' /\ Nat.succ (mLa T i') <= mLa T p /\ true = true /\ yInt i' = yWrap .i64 (yAdd (yInt p) 1) /\ true = true :=
 ⟨rfl, p + 1, ⟨hl, λ j hj => by
  rcases Nat.lt_succ_iff_lt_or_eq.1 hj with h1 | rfl
  . exact h.2 j h1
  . exact hb⟩, by unfold mLa; omega, rfl, by
  show ((p + 1 : Nat) : Int) = yWrap .i64 ((p : Int) + 1)
  rw [wrap64 (by omega) (by omega)]; omega, rfl⟩
theorem laB_f {key hi : Int} {n : Nat} {pk : Nat -> Int} {T : TtS} {N p : Nat} (h : ¬ (key <= zK T 0 p /\ zK T 0 p <= hi /\ inK n pk (zK T 0 p) = false /\ ∀ q, q < N -> 0 < q -> inK (zN T q) (zK T q) (zK T 0 p) = true)) : laB key hi n pk T N p = false := decide_eq_false h
def goalLa_0 (n : Nat) (pv : Nat -> Int) (pk : Nat -> Int) (T : TtS) (i : Nat) (key : Int) (hi : Int) (most : Int) (N : Nat) := mst (yCol (CK.int .u64) n λ (i : Nat) => AV.y .u64 (pv i)) (mst (yNle n 1000000) ((yLe 0 (fxI n (keB (λ (i : Nat) => pk i) (zK T 0 (yNat (yInt i))))) = true -> true = true /\ ∃ (i' : Nat), prLa key (hiL hi most n pk) n pk T N i' /\ Nat.succ (mLa T i') <= mLa T i /\ true = true /\ yInt i' = yWrap .i64 (yAdd (yInt i) 1) /\ true = true) /\ (yLe 0 (fxI n (keB (λ (i : Nat) => pk i) (zK T 0 (yNat (yInt i))))) = false -> mst (yIn 1 (Nat.succ N)) (true = true /\ (∃ (i0 : Nat), prLi key (hiL hi most n pk) n pk T N (yNat (yInt i)) i0 /\ true = true /\ yInt i0 = (0 : Int) /\ zK T 0 (yNat (yInt i)) = zK T 0 (yNat (yInt i)) /\ zV T 0 (yNat (yInt i)) = zV T 0 (yNat (yInt i)) /\ true = true) /\ ∀ (g : Nat -> AV) (i_1 : Nat), prLi key (hiL hi most n pk) n pk T N (yNat (yInt i)) i_1 -> (yLt (yInt i_1) (yInt (yNsub N 1)) = true -> mst (yIn (yInt i_1) (yNsub N 1)) (mst (yCol (CK.int .u64) (zN T (yNadd 1 (yNat (yInt i_1)))) λ (i : Nat) => AV.y .u64 (zK T (yNadd 1 (yNat (yInt i_1))) i)) (mst (yCol (CK.int .u64) (zN T (yNadd 1 (yNat (yInt i_1)))) λ (i : Nat) => AV.y .u64 (zV T (yNadd 1 (yNat (yInt i_1))) i)) (mst (yNle (zN T (yNadd 1 (yNat (yInt i_1)))) 1000000) ((yNot (yLe 0 (fxI (zN T (yNadd 1 (yNat (yInt i_1)))) (keB (λ (i : Nat) => zK T (yNadd 1 (yNat (yInt i_1))) i) (zK T 0 (yNat (yInt i)))))) = true -> true = true /\ ∃ (i' : Nat), prLa key (hiL hi most n pk) n pk T N i' /\ Nat.succ (mLa T i') <= mLa T i /\ true = true /\ yInt i' = yWrap .i64 (yAdd (yInt i) 1) /\ true = true) /\ (yNot (yLe 0 (fxI (zN T (yNadd 1 (yNat (yInt i_1)))) (keB (λ (i : Nat) => zK T (yNadd 1 (yNat (yInt i_1))) i) (zK T 0 (yNat (yInt i)))))) = false -> true = true /\ ∃ (i' : Nat), prLi key (hiL hi most n pk) n pk T N (yNat (yInt i)) i' /\ Nat.succ (mLi N i') <= mLi N i_1 /\ true = true /\ yInt i' = yWrap .i64 (yAdd (yInt i_1) 1) /\ zK T 0 (yNat (yInt i)) = zK T 0 (yNat (yInt i)) /\ zV T 0 (yNat (yInt i)) = zV T 0 (yNat (yInt i)) /\ true = true)))))) /\ (yLt (yInt i_1) (yInt (yNsub N 1)) = false -> laK key (hiL hi most n pk) n pk T N = zK T 0 (yNat (yInt i)) /\ laS key (hiL hi most n pk) n pk T N = true /\ true = true)))))
def goalLaV : Prop := (∀ (nl : Bool) (N : Nat) (T : TtS) (id th ok key val hi most fr to : Int) (ov : Bool) (rk rv : Int) (nlc : Bool) (n : Nat) (pk pv : Nat -> Int), preZ T N = true -> yNlt 0 N = true -> yNle n (nat_lit 1000000) = true -> yLe 1 most = true -> (yLe most (yInt n) = true -> mst (yIn (yWrap .i64 (ySub (yInt n) 1)) n) (mst (yIn 0 N) (true = true /\ (∃ (i0 : Nat), prLa key (hiL hi most n pk) n pk T N i0 /\ true = true /\ yInt i0 = (0 : Int) /\ true = true) /\ ∀ (g : Nat -> AV) (i : Nat), prLa key (hiL hi most n pk) n pk T N i -> (yLt (yInt i) (yInt (zN T 0)) = true -> mst (yIn (yInt i) (zN T 0)) ((yLt (zK T 0 (yNat (yInt i))) key = true -> true = true /\ ∃ (i' : Nat), prLa key (hiL hi most n pk) n pk T N i' /\ Nat.succ (mLa T i') <= mLa T i /\ true = true /\ yInt i' = yWrap .i64 (yAdd (yInt i) 1) /\ true = true) /\ (yLt (zK T 0 (yNat (yInt i))) key = false -> (yLt (pk (yNat (yWrap .i64 (ySub (yInt n) 1)))) (zK T 0 (yNat (yInt i))) = true -> true = true /\ ∃ (i' : Nat), prLa key (hiL hi most n pk) n pk T N i' /\ Nat.succ (mLa T i') <= mLa T i /\ true = true /\ yInt i' = yWrap .i64 (yAdd (yInt i) 1) /\ true = true) /\ (yLt (pk (yNat (yWrap .i64 (ySub (yInt n) 1)))) (zK T 0 (yNat (yInt i))) = false -> mst (yCol (CK.int .u64) n λ (i : Nat) => AV.y .u64 (pk i)) (goalLa_0 n pv pk T i key hi most N))))) /\ (yLt (yInt i) (yInt (zN T 0)) = false -> laK key (hiL hi most n pk) n pk T N = (0 : Int) /\ laS key (hiL hi most n pk) n pk T N = false /\ true = true)))) /\ (yLe most (yInt n) = false -> mst (yIn 0 N) (true = true /\ (∃ (i0 : Nat), prLa key (hiL hi most n pk) n pk T N i0 /\ true = true /\ yInt i0 = (0 : Int) /\ true = true) /\ ∀ (g : Nat -> AV) (i : Nat), prLa key (hiL hi most n pk) n pk T N i -> (yLt (yInt i) (yInt (zN T 0)) = true -> mst (yIn (yInt i) (zN T 0)) ((yLt (zK T 0 (yNat (yInt i))) key = true -> true = true /\ ∃ (i' : Nat), prLa key (hiL hi most n pk) n pk T N i' /\ Nat.succ (mLa T i') <= mLa T i /\ true = true /\ yInt i' = yWrap .i64 (yAdd (yInt i) 1) /\ true = true) /\ (yLt (zK T 0 (yNat (yInt i))) key = false -> (yLt hi (zK T 0 (yNat (yInt i))) = true -> true = true /\ ∃ (i' : Nat), prLa key (hiL hi most n pk) n pk T N i' /\ Nat.succ (mLa T i') <= mLa T i /\ true = true /\ yInt i' = yWrap .i64 (yAdd (yInt i) 1) /\ true = true) /\ (yLt hi (zK T 0 (yNat (yInt i))) = false -> mst (yCol (CK.int .u64) n λ (i : Nat) => AV.y .u64 (pk i)) (goalLa_0 n pv pk T i key hi most N))))) /\ (yLt (yInt i) (yInt (zN T 0)) = false -> laK key (hiL hi most n pk) n pk T N = (0 : Int) /\ laS key (hiL hi most n pk) n pk T N = false /\ true = true))))
theorem goalLa_eq : goalLa = goalLaV := by kernel_rfl
set_option maxHeartbeats 8000000 in
theorem goalLa_vc : goalLaV := by
 unfold goalLaV goalLa_0
 intro nl N T id th ok key val hi most fr to ov rk rv nlc n pk pv hT h0 hn hm1
 obtain ⟨hN, hz⟩ := of_decide_eq_true hT
 have h0 : 0 < N := of_decide_eq_true h0
 have hz0 := hz 0 h0
 have hm1 : 1 <= most := of_decide_eq_true hm1
 have hn' : n <= 1000000 := of_decide_eq_true hn
 have i0 : yIn (0 : Int) N = true := yIn_t.mpr ⟨Int.le_refl _, by omega⟩
 have i1 : yIn (1 : Int) (Nat.succ N) = true := yIn_t.mpr ⟨by omega, by omega⟩
 have u1 : ∀ q : Nat, yNadd 1 (yNat (yInt q)) = q + 1 := λ q => Nat.add_comm 1 q
 have uN : yNsub N 1 = N - 1 := rfl
 obtain ⟨H, hH⟩ : ∃ H, H = hiL hi most n pk := ⟨_, rfl⟩
 rw [<- hH]
 refine ⟨λ c => ?a, λ c => ?b⟩
 case' a =>
  have c : most <= (n : Int) := of_decide_eq_true c
  have w : yWrap .i64 (ySub (yInt n) 1) = ((n - 1 : Nat) : Int) := by
   show yWrap .i64 ((n : Int) - 1) = _
   rw [wrap64 (by omega) (by omega)]; omega
  have e : pk (yNat (yWrap .i64 (ySub (yInt n) 1))) = H := by
   rw [hH, w]; unfold hiL; rw [if_pos c]; rfl
  rw [e, w]
  refine mstI (yInN (show n - 1 < n by omega)) ?_
 case' b =>
  have c : ¬ most <= (n : Int) := of_decide_eq_false c
  have e : hi = H := by rw [hH]; unfold hiL; rw [if_neg c]
  rw [e]
 all_goals
  clear e
  refine mstI i0 ⟨rfl, ⟨0, ⟨Nat.zero_le _, λ j hj => absurd hj (Nat.not_lt_zero _)⟩, rfl, rfl, rfl⟩, λ g i hi => ⟨λ h => ?_, λ h => ?_⟩⟩
  . have hlt := yLtN h
    refine mstI (yInN hlt) ⟨λ e1 => ?_, λ e1 => ⟨λ e2 => ?_, λ e2 => ?_⟩⟩
    . have e1 : zK T 0 i < key := of_decide_eq_true e1
      exact la_next hz0 hi hlt (laB_f λ ⟨a, _⟩ => by omega)
    . have e2 : H < zK T 0 i := of_decide_eq_true e2
      exact la_next hz0 hi hlt (laB_f λ ⟨_, a, _⟩ => by omega)
    . have e1 : ¬ zK T 0 i < key := of_decide_eq_false e1
      have e2 : ¬ H < zK T 0 i := of_decide_eq_false e2
      refine mstI yCol_int (mstI yCol_int (mstI hn ⟨λ e3 => ?_, λ e3 => ?_⟩))
      . have e3 : inK n pk (zK T 0 i) = true := e3
        exact la_next hz0 hi hlt (laB_f λ ⟨_, _, a, _⟩ => by rw [e3] at a; cases a)
      . have e3 : inK n pk (zK T 0 i) = false := e3
        refine mstI i1 ⟨rfl, ⟨0, ⟨hlt, by show key <= zK T 0 i; omega, by show zK T 0 i <= H; omega, e3, by omega, λ j h1 h2 => by omega⟩, rfl, rfl, rfl, rfl, rfl⟩, λ g q hq => ⟨λ h4 => ?_, λ h4 => ?_⟩⟩
        . have h4 := yLtN h4
          have h4' : q < N - 1 := h4
          rw [u1]
          refine mstI (yInN h4) (mstI yCol_int (mstI yCol_int (mstI (decide_eq_true (hz (q + 1) (by omega))) ⟨λ e4 => ?_, λ e4 => ?_⟩)))
          . have e4 : inK (zN T (q + 1)) (zK T (q + 1)) (zK T 0 i) = false := by
             show yLe 0 (fxI (zN T (q + 1)) (keB (zK T (q + 1)) (zK T 0 i))) = false
             revert e4
             show yNot (yLe 0 (fxI (zN T (q + 1)) (keB (zK T (q + 1)) (zK T 0 i)))) = true -> _
             cases yLe 0 (fxI (zN T (q + 1)) (keB (zK T (q + 1)) (zK T 0 i)))
             . intro _; rfl
             . intro e; cases e
            exact la_next hz0 hi hlt (laB_f λ ⟨_, _, _, a⟩ => by have := a (q + 1) (by omega) (by omega); rw [e4] at this; cases this)
          . have e4 : inK (zN T (q + 1)) (zK T (q + 1)) (zK T 0 i) = true := by
             show yLe 0 (fxI (zN T (q + 1)) (keB (zK T (q + 1)) (zK T 0 i))) = true
             revert e4
             show yNot (yLe 0 (fxI (zN T (q + 1)) (keB (zK T (q + 1)) (zK T 0 i)))) = false -> _
             cases yLe 0 (fxI (zN T (q + 1)) (keB (zK T (q + 1)) (zK T 0 i)))
             . intro e; cases e
             . intro _; rfl
            refine ⟨rfl, q + 1, ⟨hq.1, hq.2.1, hq.2.2.1, hq.2.2.2.1, by omega, λ j h5 h6 => ?_⟩, by unfold mLi; omega, rfl, ?_, rfl, rfl, rfl⟩
            . rcases Nat.lt_succ_iff_lt_or_eq.1 h5 with h7 | rfl
              . exact hq.2.2.2.2.2 j h7 h6
              . exact e4
            . show ((q + 1 : Nat) : Int) = yWrap .i64 ((q : Int) + 1)
              rw [wrap64 (by omega) (by omega)]; omega
        . have h4 : N - 1 <= q := yLtF h4
          have hb : laB key H n pk T N i = true := laB_t.2 ⟨hq.2.1, hq.2.2.1, hq.2.2.2.1, λ j h5 h6 => hq.2.2.2.2.2 j (by omega) h6⟩
          have hf : laI key H n pk T N = some i := find_range hi.2 hb _ hlt
          have k1 : laK key H n pk T N = zK T 0 i := by unfold laK; rw [hf]
          have k2 : laS key H n pk T N = true := by unfold laS; rw [hf]; rfl
          exact ⟨k1, k2, rfl⟩
  . have hge := yLtF h
    have hf : laI key H n pk T N = none := find_none (λ j hj => hi.2 j (Nat.lt_of_lt_of_le hj hge))
    have k1 : laK key H n pk T N = 0 := by unfold laK; rw [hf]
    have k2 : laS key H n pk T N = false := by unfold laS; rw [hf]; rfl
    exact ⟨k1, k2, rfl⟩
theorem goalLa_tt : (goalLa) = True := goalLa_eq.trans (eq_true goalLa_vc)
theorem goalLa_ok : goalLa := @ft' goalLa goalLa_tt
def fDu (ds : List Dx) : Option (Bool × Dx × List (List Dx)) :=
 match ds with
 | [.rows nil N [.int .i64 fr, .ls nl n [.int .u64 k, .int .u64 v]], .l [.v (.y .i64 _), .v (.y .i64 _), .v (.y .i64 _), .v (.y .u64 _), .v (.y .u64 _), .v (.y .u64 _), .v (.y .i64 _), .v (.y .i64 frm), .v (.y .i64 to), .v (.yb _), .v (.y .i64 _), .v (.y .u64 _), .rows _ _ [.int .u64 _, .int .u64 _]]] =>
   some (yAnd (preZ ⟨fr, nl, n, k, v⟩ N) (yNlt 0 N), .rows nil (yNsub (cuT ⟨fr, nl, n, k, v⟩ N (duF ⟨fr, nl, n, k, v⟩ N frm) to) (duF ⟨fr, nl, n, k, v⟩ N frm)) (colsTs ⟨fr, nl, n, k, v⟩ (duF ⟨fr, nl, n, k, v⟩ N frm)), [])
 | _ => none
theorem smDu (hm : Try.prog.follows .mixedOrders = true) (hs : SmOK Try.prog (smL lDu)) : SmCall Try.prog 54 (λ args h => (ctX [rSt, sCaP] rSt fDu args h).sel) :=
 ctX_ok hm hs (λ ds r post h => by
  unfold fDu at h
  split at h
  . rename_i nil N fr nl n k v id th ok key val hi most frm to ov rk rv nlc q pk pv
    simp only [sI, Prod.mk.injEq] at h
    obtain ⟨h1, rfl, rfl⟩ := h
    obtain ⟨k1, k3⟩ := yAnd_t.mp h1
    clear h1
    have h2 := @goalDu_ok
    unfold goalDu at h2
    refine ⟨annDu ⟨fr, nl, n, k, v⟩ N frm, 1000, ?_⟩
    revert k1 k3
    exact @h2 nil N ⟨fr, nl, n, k, v⟩ id th ok key val hi most frm to ov rk rv nlc q pk pv
  . cases h)
def fLa (ds : List Dx) : Option (Bool × Dx × List (List Dx)) :=
 match ds with
 | [.l [.v (.y .i64 _), .v (.y .i64 _), .v (.y .i64 _), .v (.y .u64 key), .v (.y .u64 _), .v (.y .u64 hi), .v (.y .i64 most), .v (.y .i64 _), .v (.y .i64 _), .v (.yb _), .v (.y .i64 _), .v (.y .u64 _), .rows _ q [.int .u64 pk, .int .u64 _]], .rows _ N [.int .i64 fr, .ls nl n [.int .u64 k, .int .u64 v]]] =>
   some (yAnd (preZ ⟨fr, nl, n, k, v⟩ N) (yAnd (yNlt 0 N) (yAnd (yNle q 1000000) (yLe 1 most))), .l [.v (.y .u64 (laK key (hiL hi most q pk) q pk ⟨fr, nl, n, k, v⟩ N)), .v (.yb (laS key (hiL hi most q pk) q pk ⟨fr, nl, n, k, v⟩ N))], [])
 | _ => none
theorem smLa (hm : Try.prog.follows .mixedOrders = true) (hs : SmOK Try.prog (smL lLa)) : SmCall Try.prog 58 (λ args h => (ctX [sCaP, rSt] (.tup [.sc, .sc]) fLa args h).sel) :=
 ctX_ok hm hs (λ ds r post h => by
  unfold fLa at h
  split at h
  . rename_i id th ok key val hi most frm to ov rk rv nlc q pk pv nil N fr nl n k v
    simp only [sI, Prod.mk.injEq] at h
    obtain ⟨h1, rfl, rfl⟩ := h
    obtain ⟨k1, k3⟩ := yAnd_t.mp h1
    obtain ⟨k3, k4⟩ := yAnd_t.mp k3
    obtain ⟨k4, k5⟩ := yAnd_t.mp k4
    clear h1
    have h2 := @goalLa_ok
    unfold goalLa at h2
    refine ⟨annLa key (hiL hi most q pk) q pk ⟨fr, nl, n, k, v⟩ N, 1000, ?_⟩
    revert k1 k3 k4 k5
    exact @h2 nil N ⟨fr, nl, n, k, v⟩ id th ok key val hi most frm to ov rk rv nlc q pk pv
  . cases h)
def shT (T : TtS) (f : Nat) : TtS := ⟨λ i => zFr T (yNadd f i), λ i => zNl T (yNadd f i), λ i => zN T (yNadd f i), λ i p => zK T (yNadd f i) p, λ i p => zV T (yNadd f i) p⟩
def stI (T : TtS) (N : Nat) (pk pv : Nat -> Int) (p : Nat) : Bool := yNot (yLe 0 (fxI N (stB T (pk p) (pv p))))
def ckK (key hi most : Int) (n : Nat) (pk pv : Nat -> Int) (T : TtS) (N : Nat) : Int :=
 match (List.range n).find? (stI T N pk pv) with
 | some p => pk p
 | none => if laS key (hiL hi most n pk) n pk T N = true then laK key (hiL hi most n pk) n pk T N else 0
def ckE (key hi most : Int) (n : Nat) (pk pv : Nat -> Int) (T : TtS) (N : Nat) : Int :=
 match (List.range n).find? (stI T N pk pv) with
 | some _ => 10
 | none => if laS key (hiL hi most n pk) n pk T N = true then 2 else 0
def chK (key hi most : Int) (n : Nat) (pk pv : Nat -> Int) (T : TtS) (N : Nat) (fr to : Int) : Int := if fmE key hi most n pk = 0 then ckK key hi most n pk pv (shT T (duF T N fr)) (yNsub (cuT T N (duF T N fr) to) (duF T N fr)) else fmK key hi most n pk
def chE (key hi most : Int) (n : Nat) (pk pv : Nat -> Int) (T : TtS) (N : Nat) (fr to : Int) : Int := if fmE key hi most n pk = 0 then ckE key hi most n pk pv (shT T (duF T N fr)) (yNsub (cuT T N (duF T N fr) to) (duF T N fr)) else fmE key hi most n pk
def prCk (T : TtS) (N n : Nat) (pk pv : Nat -> Int) (p : Nat) : Prop := p <= n /\ ∀ j, j < p -> stI T N pk pv j = false
def mCk (n p : Nat) : Nat := n - p
def annCk (T : TtS) (N n : Nat) (pk pv : Nat -> Int) (b : Nat) : Option (St -> LoopA) :=
 match b with
 | 0 => some λ _ => { ι := Nat, tms := [29], tmU := λ p => [.y .i64 (yInt p)], ids := [], hpU := λ _ => [], del := [], ex := 0, pre := prCk T N n pk pv, ms := mCk n }
 | _ => none
def lCk : List (Nat × Sm) := [(53, .ct (ctX [sCal] (.tup [.sc, .sc]) fFm)), (54, .ct (ctX [rSt, sCaP] rSt fDu)), (78, .ct (ctX sIs .sc fIs)), (58, .ct (ctX [sCaP, rSt] (.tup [.sc, .sc]) fLa))]
def goalCk : Prop := ∀ (nl : Bool) (N : Nat) (T : TtS) (id th ok key val hi most fr to : Int) (ov : Bool) (rk rv : Int) (nlc : Bool) (n : Nat) (pk pv : Nat -> Int), preZ T N = true -> yNlt 0 N = true -> yNle n 1000000 = true -> yLe 1 most = true →
 wxH Try.prog (smL lCk) (annCk (shT T (duF T N fr)) (yNsub (cuT T N (duF T N fr) to) (duF T N fr)) n pk pv) 30 [sCaP, rSt] [.l (dCal id th ok key val hi most fr to ov rk rv nlc n pk pv), .rows nl N (colsT T)] (.tup [.sc, .sc]) (.l [.v (.y .u64 (chK key hi most n pk pv T N fr to)), .v (.y .i64 (chE key hi most n pk pv T N fr to))]) []
theorem cuT_lt (T : TtS) {N f : Nat} (to : Int) (h : f < N) : f < cuT T N f to /\ cuT T N f to <= N := by
 unfold cuT
 cases hF : (List.range N).find? (cuB T f to) with
 | none => exact ⟨h, Nat.le_refl _⟩
 | some q =>
   have h1 := List.mem_range.1 (List.mem_of_find?_eq_some hF)
   have h2 : cuB T f to q = true := List.find?_some hF
   exact ⟨(of_decide_eq_true h2).1, Nat.le_of_lt h1⟩
def goalCk_0 (T : TtS) (N : Nat) (fr : Int) (to : Int) := yCol (CK.ls [K1.int .u64, K1.int .u64]) (yNsub (cuT T N (duF T N fr) to) (duF T N fr)) λ (i : Nat) => AV.lst false (zNl T (yNadd (duF T N fr) i)) 2 (zN T (yNadd (duF T N fr) i)) (cl2F [Cl2.int .u64 λ (i p : Nat) => zK T (yNadd (duF T N fr) i) p, Cl2.int .u64 λ (i p : Nat) => zV T (yNadd (duF T N fr) i) p] i)
def goalCkV : Prop := (∀ (nl : Bool) (N : Nat) (T : TtS) (id th ok key val hi most fr to : Int) (ov : Bool) (rk rv : Int) (nlc : Bool) (n : Nat) (pk pv : Nat -> Int), preZ T N = true -> yNlt 0 N = true -> yNle n (nat_lit 1000000) = true -> yLe 1 most = true -> mst (yCol (CK.int .u64) n λ (i : Nat) => AV.y .u64 (pk i)) (mst (yCol (CK.int .u64) n λ (i : Nat) => AV.y .u64 (pv i)) (mst (yNle n 1000000) ((yNot (yEq (fmE key hi most n λ (i : Nat) => pk i) 0) = true -> (chK key hi most n pk pv T N fr to = fmK key hi most n λ (i : Nat) => pk i) /\ (chE key hi most n pk pv T N fr to = fmE key hi most n λ (i : Nat) => pk i) /\ true = true) /\ (yNot (yEq (fmE key hi most n λ (i : Nat) => pk i) 0) = false -> mst (yCol (CK.int .i64) N λ (i : Nat) => AV.y .i64 (zFr T i)) (mst (yCol (CK.ls [K1.int .u64, K1.int .u64]) N λ (i : Nat) => AV.lst false (zNl T i) 2 (zN T i) (cl2F [Cl2.int .u64 (zK T), Cl2.int .u64 (zV T)] i)) (mst (yCol (CK.int .u64) n λ (i : Nat) => AV.y .u64 (pk i)) (mst (yCol (CK.int .u64) n λ (i : Nat) => AV.y .u64 (pv i)) (mst (yAnd (preZ T N) (yNlt 0 N)) (true = true /\ (∃ (i0 : Nat), prCk (shT T (duF T N fr)) (yNsub (cuT T N (duF T N fr) to) (duF T N fr)) n pk pv i0 /\ true = true /\ yInt i0 = (0 : Int) /\ true = true) /\ ∀ (g : Nat -> AV) (i : Nat), prCk (shT T (duF T N fr)) (yNsub (cuT T N (duF T N fr) to) (duF T N fr)) n pk pv i -> (yLt (yInt i) (yInt n) = true -> mst (yIn (yInt i) n) (mst (yCol (CK.int .i64) (yNsub (cuT T N (duF T N fr) to) (duF T N fr)) λ (i : Nat) => AV.y .i64 (zFr T (yNadd (duF T N fr) i))) (mst (goalCk_0 T N fr to) (mst (preZ (shT T (duF T N fr)) (yNsub (cuT T N (duF T N fr) to) (duF T N fr))) ((yNot (yLe 0 (fxI (yNsub (cuT T N (duF T N fr) to) (duF T N fr)) (stB (shT T (duF T N fr)) (pk (yNat (yInt i))) (pv (yNat (yInt i)))))) = true -> chK key hi most n pk pv T N fr to = pk (yNat (yInt i)) /\ chE key hi most n pk pv T N fr to = (10 : Int) /\ true = true) /\ (yNot (yLe 0 (fxI (yNsub (cuT T N (duF T N fr) to) (duF T N fr)) (stB (shT T (duF T N fr)) (pk (yNat (yInt i))) (pv (yNat (yInt i)))))) = false -> true = true /\ ∃ (i' : Nat), prCk (shT T (duF T N fr)) (yNsub (cuT T N (duF T N fr) to) (duF T N fr)) n pk pv i' /\ Nat.succ (mCk n i') <= mCk n i /\ true = true /\ yInt i' = yWrap .i64 (yAdd (yInt i) 1) /\ true = true)))))) /\ (yLt (yInt i) (yInt n) = false -> mst (yCol (CK.int .u64) n λ (i : Nat) => AV.y .u64 (pk i)) (mst (yCol (CK.int .u64) n λ (i : Nat) => AV.y .u64 (pv i)) (mst (yCol (CK.int .i64) (yNsub (cuT T N (duF T N fr) to) (duF T N fr)) λ (i : Nat) => AV.y .i64 (zFr T (yNadd (duF T N fr) i))) (mst (goalCk_0 T N fr to) (mst (yAnd (preZ (shT T (duF T N fr)) (yNsub (cuT T N (duF T N fr) to) (duF T N fr))) (yAnd (yNlt 0 (yNsub (cuT T N (duF T N fr) to) (duF T N fr))) (yAnd (yNle n 1000000) (yLe 1 most)))) ((laS key (hiL hi most n λ (i : Nat) => pk i) n (λ (i : Nat) => pk i) (shT T (duF T N fr)) (yNsub (cuT T N (duF T N fr) to) (duF T N fr)) = true -> chK key hi most n pk pv T N fr to = laK key (hiL hi most n λ (i : Nat) => pk i) n (λ (i : Nat) => pk i) (shT T (duF T N fr)) (yNsub (cuT T N (duF T N fr) to) (duF T N fr)) /\ chE key hi most n pk pv T N fr to = (2 : Int) /\ true = true) /\ (laS key (hiL hi most n λ (i : Nat) => pk i) n (λ (i : Nat) => pk i) (shT T (duF T N fr)) (yNsub (cuT T N (duF T N fr) to) (duF T N fr)) = false -> chK key hi most n pk pv T N fr to = (0 : Int) /\ chE key hi most n pk pv T N fr to = (0 : Int) /\ true = true)))))))))))))))))
theorem goalCk_eq : goalCk = goalCkV := by kernel_rfl
set_option maxHeartbeats 8000000 in
theorem goalCk_vc : goalCkV := by
 unfold goalCkV goalCk_0
 intro nl N T id th ok key val hi most fr to ov rk rv nlc n pk pv hT h0 hn hm
 have hn' : n <= 1000000 := of_decide_eq_true hn
 have h0' : 0 < N := of_decide_eq_true h0
 obtain ⟨hN, hz⟩ := of_decide_eq_true hT
 obtain ⟨D, hD⟩ : ∃ D, D = duF T N fr := ⟨_, rfl⟩
 have hDN : D < N := by rw [hD]; exact duF_lt T fr N h0'
 rw [<- hD]
 obtain ⟨M, hM⟩ : ∃ M, M = yNsub (cuT T N D to) D := ⟨_, rfl⟩
 obtain ⟨c1, c2⟩ := cuT_lt T to hDN
 have hM0 : 0 < M := by rw [hM]; show 0 < cuT T N D to - D; omega
 have hMN : D + M <= N := by rw [hM]; show D + (cuT T N D to - D) <= N; omega
 rw [<- hM]
 have hTs : preZ (shT T D) M = true := decide_eq_true ⟨by omega, λ i hi => hz (D + i) (by omega)⟩
 refine mstI yCol_int (mstI yCol_int (mstI hn ⟨λ e => ?_, λ e => ?_⟩))
 . have e : fmE key hi most n pk ≠ 0 := λ h => by
    have h : fmE key hi most n (λ (i : Nat) => pk i) = 0 := h
    rw [h] at e; cases e
   exact ⟨if_neg e, if_neg e, rfl⟩
 have e : fmE key hi most n pk = 0 := by
  revert e
  show yNot (yEq (fmE key hi most n pk) 0) = false -> _
  intro e
  by_cases h : fmE key hi most n pk = 0
  . exact h
  . rw [show yEq (fmE key hi most n pk) 0 = false from decide_eq_false h] at e; cases e
 have kK : chK key hi most n pk pv T N fr to = ckK key hi most n pk pv (shT T D) M := by unfold chK; rw [if_pos e, hM, hD]
 have kE : chE key hi most n pk pv T N fr to = ckE key hi most n pk pv (shT T D) M := by unfold chE; rw [if_pos e, hM, hD]
 rw [kK, kE]
 refine mstI yCol_int (mstI (yCol_ok.2 λ i _ => List.all_eq_true.2 λ p _ => rfl) (mstI yCol_int (mstI yCol_int (mstI (by rw [hT, h0]; rfl) ⟨rfl, ⟨0, ⟨Nat.zero_le _, λ j hj => absurd hj (Nat.not_lt_zero _)⟩, rfl, rfl, rfl⟩, λ g i hpi => ⟨λ h => ?_, λ h => ?_⟩⟩))))
 . have hlt := yLtN h
   refine mstI (yInN hlt) (mstI yCol_int (mstI (yCol_ok.2 λ i _ => List.all_eq_true.2 λ p _ => rfl) (mstI hTs ⟨λ e2 => ?_, λ e2 => ?_⟩)))
   . have e2 : stI (shT T D) M pk pv i = true := e2
     have hf := find_range hpi.2 e2 n hlt
     have k1 : ckK key hi most n pk pv (shT T D) M = pk i := by unfold ckK; rw [hf]
     have k2 : ckE key hi most n pk pv (shT T D) M = 10 := by unfold ckE; rw [hf]
     exact ⟨k1, k2, rfl⟩
   . have e2 : stI (shT T D) M pk pv i = false := e2
     refine ⟨rfl, i + 1, ⟨hlt, λ j hj => ?_⟩, by unfold mCk; omega, rfl, ?_, rfl⟩
     . rcases Nat.lt_succ_iff_lt_or_eq.1 hj with h1 | rfl
       . exact hpi.2 j h1
       . exact e2
     . show ((i + 1 : Nat) : Int) = yWrap .i64 ((i : Int) + 1)
       rw [wrap64 (by omega) (by omega)]; omega
 . have hge := yLtF h
   have hf := find_none (N := n) (λ j hj => hpi.2 j (Nat.lt_of_lt_of_le hj hge))
   have k1 : ckK key hi most n pk pv (shT T D) M = if laS key (hiL hi most n pk) n pk (shT T D) M = true then laK key (hiL hi most n pk) n pk (shT T D) M else 0 := by unfold ckK; rw [hf]
   have k2 : ckE key hi most n pk pv (shT T D) M = if laS key (hiL hi most n pk) n pk (shT T D) M = true then 2 else 0 := by unfold ckE; rw [hf]
   rw [k1, k2]
   refine mstI yCol_int (mstI yCol_int (mstI yCol_int (mstI (yCol_ok.2 λ i _ => List.all_eq_true.2 λ p _ => rfl) (mstI ?_ ⟨λ e3 => ?_, λ e3 => ?_⟩))))
   . rw [hTs, hn, hm, show yNlt 0 M = true from decide_eq_true hM0]; rfl
   . have e3 : laS key (hiL hi most n pk) n pk (shT T D) M = true := e3
     exact ⟨if_pos e3, if_pos e3, rfl⟩
   . have e3 : ¬ laS key (hiL hi most n pk) n pk (shT T D) M = true := by
      have e3 : laS key (hiL hi most n pk) n pk (shT T D) M = false := e3
      rw [e3]; simp
     exact ⟨if_neg e3, if_neg e3, rfl⟩
theorem goalCk_tt : (goalCk) = True := goalCk_eq.trans (eq_true goalCk_vc)
theorem goalCk_ok : goalCk := @ft' goalCk goalCk_tt
def fCk (ds : List Dx) : Option (Bool × Dx × List (List Dx)) :=
 match ds with
 | [.l [.v (.y .i64 _), .v (.y .i64 _), .v (.y .i64 _), .v (.y .u64 key), .v (.y .u64 _), .v (.y .u64 hi), .v (.y .i64 most), .v (.y .i64 frm), .v (.y .i64 to), .v (.yb _), .v (.y .i64 _), .v (.y .u64 _), .rows _ q [.int .u64 pk, .int .u64 pv]], .rows _ N [.int .i64 fr, .ls nl n [.int .u64 k, .int .u64 v]]] =>
   some (yAnd (preZ ⟨fr, nl, n, k, v⟩ N) (yAnd (yNlt 0 N) (yAnd (yNle q 1000000) (yLe 1 most))), .l [.v (.y .u64 (chK key hi most q pk pv ⟨fr, nl, n, k, v⟩ N frm to)), .v (.y .i64 (chE key hi most q pk pv ⟨fr, nl, n, k, v⟩ N frm to))], [])
 | _ => none
theorem smCk (hm : Try.prog.follows .mixedOrders = true) (hs : SmOK Try.prog (smL lCk)) : SmCall Try.prog 30 (λ args h => (ctX [sCaP, rSt] (.tup [.sc, .sc]) fCk args h).sel) :=
 ctX_ok hm hs (λ ds r post h => by
  unfold fCk at h
  split at h
  . rename_i id th ok key val hi most frm to ov rk rv nlc q pk pv nil N fr nl n k v
    simp only [sI, Prod.mk.injEq] at h
    obtain ⟨h1, rfl, rfl⟩ := h
    obtain ⟨k1, k3⟩ := yAnd_t.mp h1
    obtain ⟨k3, k4⟩ := yAnd_t.mp k3
    obtain ⟨k4, k5⟩ := yAnd_t.mp k4
    clear h1
    have h2 := @goalCk_ok
    unfold goalCk at h2
    refine ⟨annCk (shT ⟨fr, nl, n, k, v⟩ (duF ⟨fr, nl, n, k, v⟩ N frm)) (yNsub (cuT ⟨fr, nl, n, k, v⟩ N (duF ⟨fr, nl, n, k, v⟩ N frm) to) (duF ⟨fr, nl, n, k, v⟩ N frm)) q pk pv, 1000, ?_⟩
    revert k1 k3 k4 k5
    exact @h2 nil N ⟨fr, nl, n, k, v⟩ id th ok key val hi most frm to ov rk rv nlc q pk pv
  . cases h)
def stT (E : EvS) (n : Nat) (S : StS) (m : Nat) : TtS := ⟨tFr E n S m, tNl E n S m, tNn E n S m, tNk E n S m, tNv E n S m⟩
def scB (E : EvS) (n j : Nat) : Bool := yAnd (yEq (eOk E (gEv E n j)) 4) (cOv (gEn E n j))
def oneK (E : EvS) (n : Nat) (S : StS) (m j : Nat) : Int := chK (eKey E (gEv E n j)) (eHi E (gEv E n j)) (eMost E (gEv E n j)) (cPn E (gEn E n j)) (cPk E (gEn E n j)) (cPv E (gEn E n j)) (stT E n S m) (stN E n S m) (eAt E (gEv E n j)) (cTo E (gEn E n j))
def oneE (E : EvS) (n : Nat) (S : StS) (m j : Nat) : Int := chE (eKey E (gEv E n j)) (eHi E (gEv E n j)) (eMost E (gEv E n j)) (cPn E (gEn E n j)) (cPk E (gEn E n j)) (cPv E (gEn E n j)) (stT E n S m) (stN E n S m) (eAt E (gEv E n j)) (cTo E (gEn E n j))
def kcB (E : EvS) (n : Nat) (x : Int) (j : Nat) : Bool := yAnd (yEq (eId E (gEv E n j)) x) (scB E n j)
def kcK (E : EvS) (n : Nat) (S : StS) (m : Nat) (x : Int) : Int := if gOk E n = true then (match (List.range (resN E n)).find? (kcB E n x) with | some j => oneK E n S m j | none => 0) else 0
def kcE (E : EvS) (n : Nat) (S : StS) (m : Nat) (x : Int) : Int := if gOk E n = true then (match (List.range (resN E n)).find? (kcB E n x) with | some j => oneE E n S m j | none => 7) else 4
def kfB (E : EvS) (n : Nat) (S : StS) (m j : Nat) : Bool := yAnd (scB E n j) (yNot (yEq (oneE E n S m j) 0))
def kfI (E : EvS) (n : Nat) (S : StS) (m : Nat) : Int := if gOk E n = true then (match (List.range (resN E n)).find? (kfB E n S m) with | some j => eId E (gEv E n j) | none => 0) else 0
def kfE (E : EvS) (n : Nat) (S : StS) (m : Nat) : Int := if gOk E n = true then (match (List.range (resN E n)).find? (kfB E n S m) with | some j => oneE E n S m j | none => 0) else 4
def prKc (N : Nat) (p : Nat -> Bool) (i : Nat) : Prop := i <= N /\ ∀ j, j < i -> p j = false
def mKc (N i : Nat) : Nat := N - i
def annKc (N : Nat) (p : Nat -> Bool) (b : Nat) : Option (St -> LoopA) :=
 match b with
 | 1000 => some λ _ => { ι := Nat, tms := [7], tmU := λ i => [.y .i64 (yInt i)], ids := [], hpU := λ _ => [], del := [], ex := 0, pre := prKc N p, ms := mKc N }
 | _ => none
def lKc : List (Nat × Sm) := [(33, .ct (ctX [sEv] rGn fGn)), (36, .ct (ctX [sEv] rCl fCl)), (52, .ct (ctS gOp fRgE)), (28, .ct (ctX [sEv, sSts] rSt fSt)), (30, .ct (ctX [sCaP, rSt] (.tup [.sc, .sc]) fCk))]
def goalKc : Prop := ∀ (E : EvS) (nil : Bool) (n : Nat) (S : StS) (nilS : Bool) (m : Nat) (x : Int), preE E n = true -> wfE E n = true -> preT S m = true →
 wxH Try.prog (smL lKc) (annKc (resN E n) (kcB E n x)) 11 [sEv, sSts, .sc] [.rows nil n (colsE E), .rows nilS m (colsS S), .v (.y .i64 x)] (.tup [.sc, .sc]) (.l [.v (.y .u64 (kcK E n S m x)), .v (.y .i64 (kcE E n S m x))]) []
def goalKf : Prop := ∀ (E : EvS) (nil : Bool) (n : Nat) (S : StS) (nilS : Bool) (m : Nat), preE E n = true -> wfE E n = true -> preT S m = true →
 wxH Try.prog (smL lKc) (annKc (resN E n) (kfB E n S m)) 13 [sEv, sSts] [.rows nil n (colsE E), .rows nilS m (colsS S)] (.tup [.sc, .sc]) (.l [.v (.y .i64 (kfI E n S m)), .v (.y .i64 (kfE E n S m))]) []
theorem gInjR {E : EvS} {n : Nat} (hpre : preE E n = true) : resN E n <= 200 := by
 have h1 : gN E n <= n := (gInv E n).le
 have h2 := (of_decide_eq_true hpre).1
 unfold resN
 cases gOk E n <;> simp <;> omega
theorem preZ_stT (E : EvS) (n : Nat) {S : StS} {m : Nat} (hT : preT S m = true) : preZ (stT E n S m) (stN E n S m) = true := by
 obtain ⟨hm, _⟩ := of_decide_eq_true hT
 have hs : stN E n S m <= m + 1 := by
  unfold stN; rw [aeL_len]
  have := efL_len E n S m; omega
 refine decide_eq_true ⟨by omega, λ q hq => ?_⟩
 show tNn E n S m q <= 1000000
 cases q with
 | zero => exact Nat.zero_le _
 | succ q =>
   show frN (aN E n (tO E n S m) (q + 1)) (aK E n (tO E n S m) (q + 1)) 0 <= 1000000
   have h1 : aN E n (tO E n S m) (q + 1) <= q + 1 := (aInv E n (tO E n S m) (q + 1)).2
   unfold frN; omega
theorem kc_next {N : Nat} {p : Nat -> Bool} {i : Nat} (hN : N <= 200) (h : prKc N p i) (hl : i < N) (hp : p i = false) : true = true /\ ∃ i' : Nat, prKc N p i' /\ Nat.succ (mKc N i') <= mKc N i /\ true = true /\ yInt i' = yWrap .i64 (yAdd (yInt i) 1) /\ true = true :=
 ⟨rfl, i + 1, ⟨hl, λ j hj => by
  rcases Nat.lt_succ_iff_lt_or_eq.1 hj with h1 | rfl
  . exact h.2 j h1
  . exact hp⟩, by unfold mKc; omega, rfl, by
  show ((i + 1 : Nat) : Int) = yWrap .i64 ((i : Int) + 1)
  rw [wrap64 (by omega) (by omega)]; omega, rfl⟩
theorem sc_right {E : EvS} {n i : Nat} (hl : i < resN E n) (h4 : yEq (eOk E (gEv E n i)) 4 = true) : rightE (eOk E (gEv E n i)) (eMost E (gEv E n i)) = true /\ yLe 1 (eMost E (gEv E n i)) = true := by
 have h := gRight hl
 refine ⟨h, ?_⟩
 unfold rightE at h
 rw [h4, cond_true] at h
 exact (yAnd_t.mp h).1
def goalKc_0 (n : Nat) (E : EvS) := yCol (CK.ls [K1.int .u64, K1.int .u64]) n λ (i : Nat) => AV.lst false (eNil E i) 2 (ePn E i) (cl2F [Cl2.int .u64 (ePk E), Cl2.int .u64 (ePv E)] i)
def goalKcV : Prop := (∀ (E : EvS) (nil : Bool) (n : Nat) (S : StS) (nilS : Bool) (m : Nat) (x : Int), preE E n = true -> wfE E n = true -> preT S m = true -> mst (yCol (CK.int .i64) n λ (i : Nat) => AV.y .i64 (eKd E i)) (mst (yCol (CK.int .i64) n λ (i : Nat) => AV.y .i64 (eTh E i)) (mst (yCol (CK.int .i64) n λ (i : Nat) => AV.y .i64 (eId E i)) (mst (yCol (CK.int .i64) n λ (i : Nat) => AV.y .i64 (eAt E i)) (mst (yCol (CK.int .i64) n λ (i : Nat) => AV.y .i64 (eOk E i)) (mst (yCol (CK.int .u64) n λ (i : Nat) => AV.y .u64 (eKey E i)) (mst (yCol (CK.int .u64) n λ (i : Nat) => AV.y .u64 (eVal E i)) (mst (yCol (CK.int .u64) n λ (i : Nat) => AV.y .u64 (eHi E i)) (mst (yCol (CK.int .i64) n λ (i : Nat) => AV.y .i64 (eMost E i)) (mst (yCol (CK.int .i64) n λ (i : Nat) => AV.y .i64 (eRk E i)) (mst (yCol (CK.int .u64) n λ (i : Nat) => AV.y .u64 (eRv E i)) (mst (goalKc_0 n E) (mst (preE E n) ((gOk E n = true -> mst (yCol (CK.int .i64) n λ (i : Nat) => AV.y .i64 (eKd E i)) (mst (yCol (CK.int .i64) n λ (i : Nat) => AV.y .i64 (eTh E i)) (mst (yCol (CK.int .i64) n λ (i : Nat) => AV.y .i64 (eId E i)) (mst (yCol (CK.int .i64) n λ (i : Nat) => AV.y .i64 (eAt E i)) (mst (yCol (CK.int .i64) n λ (i : Nat) => AV.y .i64 (eOk E i)) (mst (yCol (CK.int .u64) n λ (i : Nat) => AV.y .u64 (eKey E i)) (mst (yCol (CK.int .u64) n λ (i : Nat) => AV.y .u64 (eVal E i)) (mst (yCol (CK.int .u64) n λ (i : Nat) => AV.y .u64 (eHi E i)) (mst (yCol (CK.int .i64) n λ (i : Nat) => AV.y .i64 (eMost E i)) (mst (yCol (CK.int .i64) n λ (i : Nat) => AV.y .i64 (eRk E i)) (mst (yCol (CK.int .u64) n λ (i : Nat) => AV.y .u64 (eRv E i)) (mst (goalKc_0 n E) (mst (yAnd (preE E n) (wfE E n)) (true = true /\ (∃ (i0 : Nat), prKc (resN E n) (kcB E n x) i0 /\ true = true /\ yInt i0 = (0 : Int) /\ true = true) /\ ∀ (g : Nat -> AV) (i : Nat), prKc (resN E n) (kcB E n x) i -> (yLt (yInt i) (yInt (resN E n)) = true -> mst (yIn (yInt i) (resN E n)) (mst (yNlt (yNadd 0 (yNat (yInt i))) (resN E n)) ((yEq (eId E (gEv E n (yNadd 0 (yNat (yInt i))))) x = true -> (yEq (eOk E (gEv E n (yNadd 0 (yNat (yInt i))))) (4 : Int) = true -> (cOv (gEn E n (yNadd 0 (yNat (yInt i)))) = true -> mst (true) ((rightE (eOk E (gEv E n (yNadd 0 (yNat (yInt i))))) (eMost E (gEv E n (yNadd 0 (yNat (yInt i))))) = true -> mst (yCol (CK.int .i64) n λ (i : Nat) => AV.y .i64 (eKd E i)) (mst (yCol (CK.int .i64) n λ (i : Nat) => AV.y .i64 (eTh E i)) (mst (yCol (CK.int .i64) n λ (i : Nat) => AV.y .i64 (eId E i)) (mst (yCol (CK.int .i64) n λ (i : Nat) => AV.y .i64 (eAt E i)) (mst (yCol (CK.int .i64) n λ (i : Nat) => AV.y .i64 (eOk E i)) (mst (yCol (CK.int .u64) n λ (i : Nat) => AV.y .u64 (eKey E i)) (mst (yCol (CK.int .u64) n λ (i : Nat) => AV.y .u64 (eVal E i)) (mst (yCol (CK.int .u64) n λ (i : Nat) => AV.y .u64 (eHi E i)) (mst (yCol (CK.int .i64) n λ (i : Nat) => AV.y .i64 (eMost E i)) (mst (yCol (CK.int .i64) n λ (i : Nat) => AV.y .i64 (eRk E i)) (mst (yCol (CK.int .u64) n λ (i : Nat) => AV.y .u64 (eRv E i)) (mst (goalKc_0 n E) (mst (yCol (CK.int .i64) m λ (i : Nat) => AV.y .i64 (sTh S i)) (mst (yCol (CK.int .i64) m λ (i : Nat) => AV.y .i64 (sAk S i)) (mst (yCol (CK.int .i64) m λ (i : Nat) => AV.y .i64 (sAt S i)) (mst (yCol (CK.int .u64) m λ (i : Nat) => AV.y .u64 (sOld S i)) (mst (yCol (CK.int .u64) m λ (i : Nat) => AV.y .u64 (sNew S i)) (mst (yCol (CK.int .u64) m λ (i : Nat) => AV.y .u64 (sGot S i)) (mst (yCol (CK.ls [K1.int .i64, K1.int .u64, K1.int .u64]) m λ (i : Nat) => AV.lst false (sNil S i) 3 (sMn S i) (cl2F [Cl2.int .i64 (sMk S), Cl2.int .u64 (sMa S), Cl2.int .u64 (sMb S)] i)) (mst (yAnd (preE E n) (yAnd (wfE E n) (preT S m))) (mst (yCol (CK.int .u64) (cPn E (gEn E n (yNadd 0 (yNat (yInt i))))) λ (i_1 : Nat) => AV.y .u64 (cPk E (gEn E n (yNadd 0 (yNat (yInt i)))) i_1)) (mst (yCol (CK.int .u64) (cPn E (gEn E n (yNadd 0 (yNat (yInt i))))) λ (i_1 : Nat) => AV.y .u64 (cPv E (gEn E n (yNadd 0 (yNat (yInt i)))) i_1)) (mst (yCol (CK.int .i64) (gOkS E n S m) λ (i : Nat) => AV.y .i64 (tFr E n S m i)) (mst (yCol (CK.ls [K1.int .u64, K1.int .u64]) (gOkS E n S m) λ (i : Nat) => AV.lst false (tNl E n S m i) 2 (tNn E n S m i) (cl2F [Cl2.int .u64 (tNk E n S m), Cl2.int .u64 (tNv E n S m)] i)) (mst (yAnd (preZ (stT E n S m) (gOkS E n S m)) (yAnd (yNlt 0 (gOkS E n S m)) (yAnd (yNle (cPn E (gEn E n (yNadd 0 (yNat (yInt i))))) 1000000) (yLe 1 (eMost E (gEv E n (yNadd 0 (yNat (yInt i))))))))) (kcK E n S m x = chK (eKey E (gEv E n (yNadd 0 (yNat (yInt i))))) (eHi E (gEv E n (yNadd 0 (yNat (yInt i))))) (eMost E (gEv E n (yNadd 0 (yNat (yInt i))))) (cPn E (gEn E n (yNadd 0 (yNat (yInt i))))) (λ (i_1 : Nat) => cPk E (gEn E n (yNadd 0 (yNat (yInt i)))) i_1) (λ (i_1 : Nat) => cPv E (gEn E n (yNadd 0 (yNat (yInt i)))) i_1) (stT E n S m) (gOkS E n S m) (eAt E (gEv E n (yNadd 0 (yNat (yInt i))))) (cTo E (gEn E n (yNadd 0 (yNat (yInt i))))) /\ kcE E n S m x = chE (eKey E (gEv E n (yNadd 0 (yNat (yInt i))))) (eHi E (gEv E n (yNadd 0 (yNat (yInt i))))) (eMost E (gEv E n (yNadd 0 (yNat (yInt i))))) (cPn E (gEn E n (yNadd 0 (yNat (yInt i))))) (λ (i_1 : Nat) => cPk E (gEn E n (yNadd 0 (yNat (yInt i)))) i_1) (λ (i_1 : Nat) => cPv E (gEn E n (yNadd 0 (yNat (yInt i)))) i_1) (stT E n S m) (gOkS E n S m) (eAt E (gEv E n (yNadd 0 (yNat (yInt i))))) (cTo E (gEn E n (yNadd 0 (yNat (yInt i))))) /\ true = true)))))))))))))))))))))))))) /\ (rightE (eOk E (gEv E n (yNadd 0 (yNat (yInt i))))) (eMost E (gEv E n (yNadd 0 (yNat (yInt i))))) = false -> true = true /\ ∃ (i' : Nat), prKc (resN E n) (kcB E n x) i' /\ Nat.succ (mKc (resN E n) i') <= mKc (resN E n) i /\ true = true /\ yInt i' = yWrap .i64 (yAdd (yInt i) 1) /\ true = true))) /\ (cOv (gEn E n (yNadd 0 (yNat (yInt i)))) = false -> true = true /\ ∃ (i' : Nat), prKc (resN E n) (kcB E n x) i' /\ Nat.succ (mKc (resN E n) i') <= mKc (resN E n) i /\ true = true /\ yInt i' = yWrap .i64 (yAdd (yInt i) 1) /\ true = true)) /\ (yEq (eOk E (gEv E n (yNadd 0 (yNat (yInt i))))) (4 : Int) = false -> true = true /\ ∃ (i' : Nat), prKc (resN E n) (kcB E n x) i' /\ Nat.succ (mKc (resN E n) i') <= mKc (resN E n) i /\ true = true /\ yInt i' = yWrap .i64 (yAdd (yInt i) 1) /\ true = true)) /\ (yEq (eId E (gEv E n (yNadd 0 (yNat (yInt i))))) x = false -> true = true /\ ∃ (i' : Nat), prKc (resN E n) (kcB E n x) i' /\ Nat.succ (mKc (resN E n) i') <= mKc (resN E n) i /\ true = true /\ yInt i' = yWrap .i64 (yAdd (yInt i) 1) /\ true = true)))) /\ (yLt (yInt i) (yInt (resN E n)) = false -> kcK E n S m x = (0 : Int) /\ kcE E n S m x = (7 : Int) /\ true = true))))))))))))))) /\ (gOk E n = false -> kcK E n S m x = (0 : Int) /\ kcE E n S m x = (4 : Int) /\ true = true)))))))))))))))
theorem goalKc_eq : goalKc = goalKcV := by kernel_rfl
set_option maxHeartbeats 8000000 in
theorem goalKc_vc : goalKcV := by
 unfold goalKcV goalKc_0
 intro E nil n S nilS m x hpre hwf hT
 have hcol : ∀ m, (yCol (CK.ls [K1.int .u64, K1.int .u64]) m λ (i : Nat) => AV.lst false (eNil E i) 2 (ePn E i) (cl2F [Cl2.int .u64 (ePk E), Cl2.int .u64 (ePv E)] i)) = true := λ m => yCol_ok.2 λ i _ => List.all_eq_true.2 λ p _ => rfl
 have hR := gInjR hpre
 iterate 11 refine mstI yCol_int ?_
 refine mstI (hcol _) (mstI hpre ?_)
 cases hok : gOk E n with
 | false =>
   have k1 : kcK E n S m x = 0 := if_neg (by rw [hok]; simp)
   have k2 : kcE E n S m x = 4 := if_neg (by rw [hok]; simp)
   exact fork_f rfl ⟨k1, k2, rfl⟩
 | true =>
 have hg : gOkS E n S m = stN E n S m := if_pos hok
 rw [hg]
 refine fork_t rfl ?_
 iterate 11 refine mstI yCol_int ?_
 refine mstI (hcol _) (mstI (by rw [hpre, hwf]; rfl) ⟨rfl, ⟨0, ⟨Nat.zero_le _, λ j hj => absurd hj (Nat.not_lt_zero _)⟩, rfl, rfl, rfl⟩, λ g i hi => ⟨λ h => ?_, λ h => ?_⟩⟩)
 . have hlt := yLtN h
   have e0 : yNadd 0 (yNat (yInt i)) = i := Nat.zero_add i
   rw [e0]
   refine mstI (yInN hlt) (mstI (decide_eq_true hlt) ?_)
   have hb : kcB E n x i = yAnd (yEq (eId E (gEv E n i)) x) (yAnd (yEq (eOk E (gEv E n i)) 4) (cOv (gEn E n i))) := rfl
   have nxt := λ h => kc_next hR hi hlt h
   cases h1 : yEq (eId E (gEv E n i)) x with
   | false => exact fork_f rfl (nxt (by rw [hb, h1]; rfl))
   | true =>
   refine fork_t rfl ?_
   cases h2 : yEq (eOk E (gEv E n i)) 4 with
   | false => exact fork_f rfl (nxt (by rw [hb, h1, h2]; rfl))
   | true =>
   refine fork_t rfl ?_
   cases h3 : cOv (gEn E n i) with
   | false => exact fork_f rfl (nxt (by rw [hb, h1, h2, h3]; rfl))
   | true =>
   obtain ⟨r1, r2⟩ := sc_right hlt h2
   refine fork_t rfl (mstI rfl (fork_t r1 ?_))
   iterate 11 refine mstI yCol_int ?_
   refine mstI (hcol _) ?_
   iterate 6 refine mstI yCol_int ?_
   refine mstI (yCol_ok.2 λ i _ => List.all_eq_true.2 λ p _ => rfl) (mstI (by rw [hpre, hwf, hT]; rfl) (mstI yCol_int (mstI yCol_int (mstI yCol_int (mstI (yCol_ok.2 λ i _ => List.all_eq_true.2 λ p _ => rfl) (mstI ?_ ?_))))))
   . rw [preZ_stT E n hT, r2, show yNlt 0 (stN E n S m) = true from decide_eq_true (Nat.succ_pos _), show yNle (cPn E (gEn E n i)) 1000000 = true from decide_eq_true (by have := cPn_le hpre i; omega)]; rfl
   . have hf := find_range hi.2 (show kcB E n x i = true by rw [hb, h1, h2, h3]; rfl) _ hlt
     have k1 : kcK E n S m x = oneK E n S m i := by unfold kcK; rw [if_pos hok, hf]
     have k2 : kcE E n S m x = oneE E n S m i := by unfold kcE; rw [if_pos hok, hf]
     exact ⟨k1, k2, rfl⟩
 . have hge := yLtF h
   have hf := find_none (N := resN E n) (λ j hj => hi.2 j (Nat.lt_of_lt_of_le hj hge))
   have k1 : kcK E n S m x = 0 := by unfold kcK; rw [if_pos hok, hf]
   have k2 : kcE E n S m x = 7 := by unfold kcE; rw [if_pos hok, hf]
   exact ⟨k1, k2, rfl⟩
theorem goalKc_tt : (goalKc) = True := goalKc_eq.trans (eq_true goalKc_vc)
theorem goalKc_ok : goalKc := @ft' goalKc goalKc_tt
def goalKf_0 (E : EvS) (n : Nat) (i : Nat) (S : StS) (m : Nat) := yEq (chE (eKey E (gEv E n (yNadd 0 (yNat (yInt i))))) (eHi E (gEv E n (yNadd 0 (yNat (yInt i))))) (eMost E (gEv E n (yNadd 0 (yNat (yInt i))))) (cPn E (gEn E n (yNadd 0 (yNat (yInt i))))) (λ (i_1 : Nat) => cPk E (gEn E n (yNadd 0 (yNat (yInt i)))) i_1) (λ (i_1 : Nat) => cPv E (gEn E n (yNadd 0 (yNat (yInt i)))) i_1) (stT E n S m) (gOkS E n S m) (eAt E (gEv E n (yNadd 0 (yNat (yInt i))))) (cTo E (gEn E n (yNadd 0 (yNat (yInt i)))))) 0
def goalKf_1 (n : Nat) (E : EvS) := yCol (CK.ls [K1.int .u64, K1.int .u64]) n λ (i : Nat) => AV.lst false (eNil E i) 2 (ePn E i) (cl2F [Cl2.int .u64 (ePk E), Cl2.int .u64 (ePv E)] i)
def goalKfV : Prop := (∀ (E : EvS) (nil : Bool) (n : Nat) (S : StS) (nilS : Bool) (m : Nat), preE E n = true -> wfE E n = true -> preT S m = true -> mst (yCol (CK.int .i64) n λ (i : Nat) => AV.y .i64 (eKd E i)) (mst (yCol (CK.int .i64) n λ (i : Nat) => AV.y .i64 (eTh E i)) (mst (yCol (CK.int .i64) n λ (i : Nat) => AV.y .i64 (eId E i)) (mst (yCol (CK.int .i64) n λ (i : Nat) => AV.y .i64 (eAt E i)) (mst (yCol (CK.int .i64) n λ (i : Nat) => AV.y .i64 (eOk E i)) (mst (yCol (CK.int .u64) n λ (i : Nat) => AV.y .u64 (eKey E i)) (mst (yCol (CK.int .u64) n λ (i : Nat) => AV.y .u64 (eVal E i)) (mst (yCol (CK.int .u64) n λ (i : Nat) => AV.y .u64 (eHi E i)) (mst (yCol (CK.int .i64) n λ (i : Nat) => AV.y .i64 (eMost E i)) (mst (yCol (CK.int .i64) n λ (i : Nat) => AV.y .i64 (eRk E i)) (mst (yCol (CK.int .u64) n λ (i : Nat) => AV.y .u64 (eRv E i)) (mst (goalKf_1 n E) (mst (preE E n) ((gOk E n = true -> mst (yCol (CK.int .i64) n λ (i : Nat) => AV.y .i64 (eKd E i)) (mst (yCol (CK.int .i64) n λ (i : Nat) => AV.y .i64 (eTh E i)) (mst (yCol (CK.int .i64) n λ (i : Nat) => AV.y .i64 (eId E i)) (mst (yCol (CK.int .i64) n λ (i : Nat) => AV.y .i64 (eAt E i)) (mst (yCol (CK.int .i64) n λ (i : Nat) => AV.y .i64 (eOk E i)) (mst (yCol (CK.int .u64) n λ (i : Nat) => AV.y .u64 (eKey E i)) (mst (yCol (CK.int .u64) n λ (i : Nat) => AV.y .u64 (eVal E i)) (mst (yCol (CK.int .u64) n λ (i : Nat) => AV.y .u64 (eHi E i)) (mst (yCol (CK.int .i64) n λ (i : Nat) => AV.y .i64 (eMost E i)) (mst (yCol (CK.int .i64) n λ (i : Nat) => AV.y .i64 (eRk E i)) (mst (yCol (CK.int .u64) n λ (i : Nat) => AV.y .u64 (eRv E i)) (mst (goalKf_1 n E) (mst (yCol (CK.int .i64) m λ (i : Nat) => AV.y .i64 (sTh S i)) (mst (yCol (CK.int .i64) m λ (i : Nat) => AV.y .i64 (sAk S i)) (mst (yCol (CK.int .i64) m λ (i : Nat) => AV.y .i64 (sAt S i)) (mst (yCol (CK.int .u64) m λ (i : Nat) => AV.y .u64 (sOld S i)) (mst (yCol (CK.int .u64) m λ (i : Nat) => AV.y .u64 (sNew S i)) (mst (yCol (CK.int .u64) m λ (i : Nat) => AV.y .u64 (sGot S i)) (mst (yCol (CK.ls [K1.int .i64, K1.int .u64, K1.int .u64]) m λ (i : Nat) => AV.lst false (sNil S i) 3 (sMn S i) (cl2F [Cl2.int .i64 (sMk S), Cl2.int .u64 (sMa S), Cl2.int .u64 (sMb S)] i)) (mst (yAnd (preE E n) (yAnd (wfE E n) (preT S m))) (mst (yCol (CK.int .i64) n λ (i : Nat) => AV.y .i64 (eKd E i)) (mst (yCol (CK.int .i64) n λ (i : Nat) => AV.y .i64 (eTh E i)) (mst (yCol (CK.int .i64) n λ (i : Nat) => AV.y .i64 (eId E i)) (mst (yCol (CK.int .i64) n λ (i : Nat) => AV.y .i64 (eAt E i)) (mst (yCol (CK.int .i64) n λ (i : Nat) => AV.y .i64 (eOk E i)) (mst (yCol (CK.int .u64) n λ (i : Nat) => AV.y .u64 (eKey E i)) (mst (yCol (CK.int .u64) n λ (i : Nat) => AV.y .u64 (eVal E i)) (mst (yCol (CK.int .u64) n λ (i : Nat) => AV.y .u64 (eHi E i)) (mst (yCol (CK.int .i64) n λ (i : Nat) => AV.y .i64 (eMost E i)) (mst (yCol (CK.int .i64) n λ (i : Nat) => AV.y .i64 (eRk E i)) (mst (yCol (CK.int .u64) n λ (i : Nat) => AV.y .u64 (eRv E i)) (mst (goalKf_1 n E) (mst (yAnd (preE E n) (wfE E n)) (true = true /\ (∃ (i0 : Nat), prKc (resN E n) (kfB E n S m) i0 /\ true = true /\ yInt i0 = (0 : Int) /\ true = true) /\ ∀ (g : Nat -> AV) (i : Nat), prKc (resN E n) (kfB E n S m) i -> (yLt (yInt i) (yInt (resN E n)) = true -> mst (yIn (yInt i) (resN E n)) (mst (yNlt (yNadd 0 (yNat (yInt i))) (resN E n)) ((yEq (eOk E (gEv E n (yNadd 0 (yNat (yInt i))))) (4 : Int) = true -> (cOv (gEn E n (yNadd 0 (yNat (yInt i)))) = true -> mst (true) ((yNot (rightE (eOk E (gEv E n (yNadd 0 (yNat (yInt i))))) (eMost E (gEv E n (yNadd 0 (yNat (yInt i)))))) = true -> true = true /\ ∃ (i' : Nat), prKc (resN E n) (kfB E n S m) i' /\ Nat.succ (mKc (resN E n) i') <= mKc (resN E n) i /\ true = true /\ yInt i' = yWrap .i64 (yAdd (yInt i) 1) /\ true = true) /\ (yNot (rightE (eOk E (gEv E n (yNadd 0 (yNat (yInt i))))) (eMost E (gEv E n (yNadd 0 (yNat (yInt i)))))) = false -> mst (yCol (CK.int .u64) (cPn E (gEn E n (yNadd 0 (yNat (yInt i))))) λ (i_1 : Nat) => AV.y .u64 (cPk E (gEn E n (yNadd 0 (yNat (yInt i)))) i_1)) (mst (yCol (CK.int .u64) (cPn E (gEn E n (yNadd 0 (yNat (yInt i))))) λ (i_1 : Nat) => AV.y .u64 (cPv E (gEn E n (yNadd 0 (yNat (yInt i)))) i_1)) (mst (yCol (CK.int .i64) (gOkS E n S m) λ (i : Nat) => AV.y .i64 (tFr E n S m i)) (mst (yCol (CK.ls [K1.int .u64, K1.int .u64]) (gOkS E n S m) λ (i : Nat) => AV.lst false (tNl E n S m i) 2 (tNn E n S m i) (cl2F [Cl2.int .u64 (tNk E n S m), Cl2.int .u64 (tNv E n S m)] i)) (mst (yAnd (preZ (stT E n S m) (gOkS E n S m)) (yAnd (yNlt 0 (gOkS E n S m)) (yAnd (yNle (cPn E (gEn E n (yNadd 0 (yNat (yInt i))))) 1000000) (yLe 1 (eMost E (gEv E n (yNadd 0 (yNat (yInt i))))))))) ((yNot (goalKf_0 E n i S m) = true -> kfI E n S m = eId E (gEv E n (yNadd 0 (yNat (yInt i)))) /\ kfE E n S m = chE (eKey E (gEv E n (yNadd 0 (yNat (yInt i))))) (eHi E (gEv E n (yNadd 0 (yNat (yInt i))))) (eMost E (gEv E n (yNadd 0 (yNat (yInt i))))) (cPn E (gEn E n (yNadd 0 (yNat (yInt i))))) (λ (i_1 : Nat) => cPk E (gEn E n (yNadd 0 (yNat (yInt i)))) i_1) (λ (i_1 : Nat) => cPv E (gEn E n (yNadd 0 (yNat (yInt i)))) i_1) (stT E n S m) (gOkS E n S m) (eAt E (gEv E n (yNadd 0 (yNat (yInt i))))) (cTo E (gEn E n (yNadd 0 (yNat (yInt i))))) /\ true = true) /\ (yNot (goalKf_0 E n i S m) = false -> true = true /\ ∃ (i' : Nat), prKc (resN E n) (kfB E n S m) i' /\ Nat.succ (mKc (resN E n) i') <= mKc (resN E n) i /\ true = true /\ yInt i' = yWrap .i64 (yAdd (yInt i) 1) /\ true = true))))))))) /\ (cOv (gEn E n (yNadd 0 (yNat (yInt i)))) = false -> true = true /\ ∃ (i' : Nat), prKc (resN E n) (kfB E n S m) i' /\ Nat.succ (mKc (resN E n) i') <= mKc (resN E n) i /\ true = true /\ yInt i' = yWrap .i64 (yAdd (yInt i) 1) /\ true = true)) /\ (yEq (eOk E (gEv E n (yNadd 0 (yNat (yInt i))))) (4 : Int) = false -> true = true /\ ∃ (i' : Nat), prKc (resN E n) (kfB E n S m) i' /\ Nat.succ (mKc (resN E n) i') <= mKc (resN E n) i /\ true = true /\ yInt i' = yWrap .i64 (yAdd (yInt i) 1) /\ true = true)))) /\ (yLt (yInt i) (yInt (resN E n)) = false -> kfI E n S m = (0 : Int) /\ kfE E n S m = (0 : Int) /\ true = true))))))))))))))))))))))))))))))))))) /\ (gOk E n = false -> kfI E n S m = (0 : Int) /\ kfE E n S m = (4 : Int) /\ true = true)))))))))))))))
theorem goalKf_eq : goalKf = goalKfV := by kernel_rfl
set_option maxHeartbeats 8000000 in
theorem goalKf_vc : goalKfV := by
 unfold goalKfV goalKf_1 goalKf_0
 intro E nil n S nilS m hpre hwf hT
 have hcol : ∀ m, (yCol (CK.ls [K1.int .u64, K1.int .u64]) m λ (i : Nat) => AV.lst false (eNil E i) 2 (ePn E i) (cl2F [Cl2.int .u64 (ePk E), Cl2.int .u64 (ePv E)] i)) = true := λ m => yCol_ok.2 λ i _ => List.all_eq_true.2 λ p _ => rfl
 have hR := gInjR hpre
 iterate 11 refine mstI yCol_int ?_
 refine mstI (hcol _) (mstI hpre ?_)
 cases hok : gOk E n with
 | false =>
   have k1 : kfI E n S m = 0 := if_neg (by rw [hok]; simp)
   have k2 : kfE E n S m = 4 := if_neg (by rw [hok]; simp)
   exact fork_f rfl ⟨k1, k2, rfl⟩
 | true =>
 have hg : gOkS E n S m = stN E n S m := if_pos hok
 rw [hg]
 refine fork_t rfl ?_
 iterate 11 refine mstI yCol_int ?_
 refine mstI (hcol _) ?_
 iterate 6 refine mstI yCol_int ?_
 refine mstI (yCol_ok.2 λ i _ => List.all_eq_true.2 λ p _ => rfl) (mstI (by rw [hpre, hwf, hT]; rfl) ?_)
 iterate 11 refine mstI yCol_int ?_
 refine mstI (hcol _) (mstI (by rw [hpre, hwf]; rfl) ⟨rfl, ⟨0, ⟨Nat.zero_le _, λ j hj => absurd hj (Nat.not_lt_zero _)⟩, rfl, rfl, rfl⟩, λ g i hi => ⟨λ h => ?_, λ h => ?_⟩⟩)
 . have hlt := yLtN h
   have e0 : yNadd 0 (yNat (yInt i)) = i := Nat.zero_add i
   rw [e0]
   refine mstI (yInN hlt) (mstI (decide_eq_true hlt) ?_)
   have hb : kfB E n S m i = yAnd (yAnd (yEq (eOk E (gEv E n i)) 4) (cOv (gEn E n i))) (yNot (yEq (oneE E n S m i) 0)) := rfl
   have nxt := λ h => kc_next hR hi hlt h
   cases h2 : yEq (eOk E (gEv E n i)) 4 with
   | false => exact fork_f rfl (nxt (by rw [hb, h2]; rfl))
   | true =>
   refine fork_t rfl ?_
   cases h3 : cOv (gEn E n i) with
   | false => exact fork_f rfl (nxt (by rw [hb, h2, h3]; rfl))
   | true =>
   obtain ⟨r1, r2⟩ := sc_right hlt h2
   refine fork_t rfl (mstI rfl (fork_f (by rw [r1]; rfl) (mstI yCol_int (mstI yCol_int (mstI yCol_int (mstI (yCol_ok.2 λ i _ => List.all_eq_true.2 λ p _ => rfl) (mstI ?_ ?_)))))))
   . rw [preZ_stT E n hT, r2, show yNlt 0 (stN E n S m) = true from decide_eq_true (Nat.succ_pos _), show yNle (cPn E (gEn E n i)) 1000000 = true from decide_eq_true (by have := cPn_le hpre i; omega)]; rfl
   . have ho : oneE E n S m i = chE (eKey E (gEv E n i)) (eHi E (gEv E n i)) (eMost E (gEv E n i)) (cPn E (gEn E n i)) (λ (i_1 : Nat) => cPk E (gEn E n i) i_1) (λ (i_1 : Nat) => cPv E (gEn E n i) i_1) (stT E n S m) (stN E n S m) (eAt E (gEv E n i)) (cTo E (gEn E n i)) := rfl
     rw [<- ho]
     cases h4 : yNot (yEq (oneE E n S m i) 0) with
     | true =>
       have hf := find_range hi.2 (show kfB E n S m i = true by rw [hb, h2, h3, h4]; rfl) _ hlt
       have k1 : kfI E n S m = eId E (gEv E n i) := by unfold kfI; rw [if_pos hok, hf]
       have k2 : kfE E n S m = oneE E n S m i := by unfold kfE; rw [if_pos hok, hf]
       exact fork_t rfl ⟨k1, k2, rfl⟩
     | false => exact fork_f rfl (nxt (by rw [hb, h2, h3, h4]; rfl))
 . have hge := yLtF h
   have hf := find_none (N := resN E n) (λ j hj => hi.2 j (Nat.lt_of_lt_of_le hj hge))
   have k1 : kfI E n S m = 0 := by unfold kfI; rw [if_pos hok, hf]
   have k2 : kfE E n S m = 0 := by unfold kfE; rw [if_pos hok, hf]
   exact ⟨k1, k2, rfl⟩
theorem goalKf_tt : (goalKf) = True := goalKf_eq.trans (eq_true goalKf_vc)
theorem goalKf_ok : goalKf := @ft' goalKf goalKf_tt
def fKc (ds : List Dx) : Option (Bool × Dx × List (List Dx)) :=
 match ds with
 | [.rows _ n [.int .i64 kd, .int .i64 th, .int .i64 id, .int .i64 at_, .int .i64 ok, .int .u64 key, .int .u64 val, .int .u64 hi, .int .i64 most, .int .i64 rk, .int .u64 rv, .ls nl pn [.int .u64 pk, .int .u64 pv]], .rows _ m [.int .i64 sth, .int .i64 sak, .int .i64 sat, .int .u64 sold, .int .u64 snew, .int .u64 sgot, .ls snl smn [.int .i64 smk, .int .u64 sma, .int .u64 smb]], .v (.y .i64 x)] =>
   some (yAnd (preE ⟨kd, th, id, at_, ok, key, val, hi, most, rk, rv, nl, pn, pk, pv⟩ n) (yAnd (wfE ⟨kd, th, id, at_, ok, key, val, hi, most, rk, rv, nl, pn, pk, pv⟩ n) (preT ⟨sth, sak, sat, sold, snew, sgot, snl, smn, smk, sma, smb⟩ m)), .l [.v (.y .u64 (kcK ⟨kd, th, id, at_, ok, key, val, hi, most, rk, rv, nl, pn, pk, pv⟩ n ⟨sth, sak, sat, sold, snew, sgot, snl, smn, smk, sma, smb⟩ m x)), .v (.y .i64 (kcE ⟨kd, th, id, at_, ok, key, val, hi, most, rk, rv, nl, pn, pk, pv⟩ n ⟨sth, sak, sat, sold, snew, sgot, snl, smn, smk, sma, smb⟩ m x))], [])
 | _ => none
def fKf (ds : List Dx) : Option (Bool × Dx × List (List Dx)) :=
 match ds with
 | [.rows _ n [.int .i64 kd, .int .i64 th, .int .i64 id, .int .i64 at_, .int .i64 ok, .int .u64 key, .int .u64 val, .int .u64 hi, .int .i64 most, .int .i64 rk, .int .u64 rv, .ls nl pn [.int .u64 pk, .int .u64 pv]], .rows _ m [.int .i64 sth, .int .i64 sak, .int .i64 sat, .int .u64 sold, .int .u64 snew, .int .u64 sgot, .ls snl smn [.int .i64 smk, .int .u64 sma, .int .u64 smb]]] =>
   some (yAnd (preE ⟨kd, th, id, at_, ok, key, val, hi, most, rk, rv, nl, pn, pk, pv⟩ n) (yAnd (wfE ⟨kd, th, id, at_, ok, key, val, hi, most, rk, rv, nl, pn, pk, pv⟩ n) (preT ⟨sth, sak, sat, sold, snew, sgot, snl, smn, smk, sma, smb⟩ m)), .l [.v (.y .i64 (kfI ⟨kd, th, id, at_, ok, key, val, hi, most, rk, rv, nl, pn, pk, pv⟩ n ⟨sth, sak, sat, sold, snew, sgot, snl, smn, smk, sma, smb⟩ m)), .v (.y .i64 (kfE ⟨kd, th, id, at_, ok, key, val, hi, most, rk, rv, nl, pn, pk, pv⟩ n ⟨sth, sak, sat, sold, snew, sgot, snl, smn, smk, sma, smb⟩ m))], [])
 | _ => none
theorem smKc (hm : Try.prog.follows .mixedOrders = true) (hs : SmOK Try.prog (smL lKc)) : SmCall Try.prog 11 (λ args h => (ctX [sEv, sSts, .sc] (.tup [.sc, .sc]) fKc args h).sel) :=
 ctX_ok hm hs (λ ds r post h => by
  unfold fKc at h
  split at h
  . rename_i nil n kd th id at_ ok key val hi most rk rv nl pn pk pv nilS m sth sak sat sold snew sgot snl smn smk sma smb x
    simp only [sI, Prod.mk.injEq] at h
    obtain ⟨h1, rfl, rfl⟩ := h
    obtain ⟨k1, k3⟩ := yAnd_t.mp h1
    obtain ⟨k3, k4⟩ := yAnd_t.mp k3
    clear h1
    have h2 := @goalKc_ok
    unfold goalKc at h2
    refine ⟨annKc (resN ⟨kd, th, id, at_, ok, key, val, hi, most, rk, rv, nl, pn, pk, pv⟩ n) (kcB ⟨kd, th, id, at_, ok, key, val, hi, most, rk, rv, nl, pn, pk, pv⟩ n x), 1000, ?_⟩
    revert k1 k3 k4
    exact @h2 ⟨kd, th, id, at_, ok, key, val, hi, most, rk, rv, nl, pn, pk, pv⟩ nil n ⟨sth, sak, sat, sold, snew, sgot, snl, smn, smk, sma, smb⟩ nilS m x
  . cases h)
theorem smKf (hm : Try.prog.follows .mixedOrders = true) (hs : SmOK Try.prog (smL lKc)) : SmCall Try.prog 13 (λ args h => (ctX [sEv, sSts] (.tup [.sc, .sc]) fKf args h).sel) :=
 ctX_ok hm hs (λ ds r post h => by
  unfold fKf at h
  split at h
  . rename_i nil n kd th id at_ ok key val hi most rk rv nl pn pk pv nilS m sth sak sat sold snew sgot snl smn smk sma smb
    simp only [sI, Prod.mk.injEq] at h
    obtain ⟨h1, rfl, rfl⟩ := h
    obtain ⟨k1, k3⟩ := yAnd_t.mp h1
    obtain ⟨k3, k4⟩ := yAnd_t.mp k3
    clear h1
    have h2 := @goalKf_ok
    unfold goalKf at h2
    refine ⟨annKc (resN ⟨kd, th, id, at_, ok, key, val, hi, most, rk, rv, nl, pn, pk, pv⟩ n) (kfB ⟨kd, th, id, at_, ok, key, val, hi, most, rk, rv, nl, pn, pk, pv⟩ n ⟨sth, sak, sat, sold, snew, sgot, snl, smn, smk, sma, smb⟩ m), 1000, ?_⟩
    revert k1 k3 k4
    exact @h2 ⟨kd, th, id, at_, ok, key, val, hi, most, rk, rv, nl, pn, pk, pv⟩ nil n ⟨sth, sak, sat, sold, snew, sgot, snl, smn, smk, sma, smb⟩ nilS m
  . cases h)
def goalAt2 : Prop := ∀ (nl : Bool) (n : Nat) (k v : Nat -> Int) (a : Int), yNle n 1000000 = true →
 wxH Try.prog noSm (annFx 5 n (keB k a)) 46 [sPp, .sc] [.rows nl n (cols2 k v), .v (.y .u64 a)] .sc (.v (.y .i64 (fxI n (keB k a)))) []
def fAt2 (ds : List Dx) : Option (Bool × Dx × List (List Dx)) :=
 match ds with
 | [.rows _ n [.int .u64 k, .int .u64 _], .v (.y .u64 a)] => some (yNle n 1000000, .v (.y .i64 (fxI n (keB k a))), [])
 | _ => none
def lAt2 : List (Nat × Sm) := [(46, .ct (ctX [sPp, .sc] .sc fAt2))]
def waB (T : TtS) (a b : Int) (q : Nat) : Bool := decide (0 <= fxI (zN T q) (keB (zK T q) a) /\ zK T q (fxI (zN T q) (keB (zK T q) a)).toNat = a /\ zV T q (fxI (zN T q) (keB (zK T q) a)).toNat = b)
def alB (T : TtS) (a : Int) (q : Nat) : Bool := yLt (fxI (zN T q) (keB (zK T q) a)) 0
def wasV (T : TtS) (N : Nat) (a b : Int) : Bool := yLe 0 (fxI N (waB T a b))
def alwV (T : TtS) (N : Nat) (a : Int) : Bool := yLt (fxI N (alB T a)) 0
def goalWa : Prop := ∀ (nl : Bool) (N : Nat) (T : TtS) (a b : Int), preZ T N = true →
 wxH Try.prog (smL lAt2) (annFx 5 N (waB T a b)) 60 [rSt, sPr] [.rows nl N (colsT T), dPr a b] .sc (.v (.yb (wasV T N a b))) []
def goalAl : Prop := ∀ (nl : Bool) (N : Nat) (T : TtS) (a : Int), preZ T N = true →
 wxH Try.prog (smL lAt2) (annFx 5 N (alB T a)) 61 [rSt, .sc] [.rows nl N (colsT T), .v (.y .u64 a)] .sc (.v (.yb (alwV T N a))) []
def dqB (T : TtS) (N : Nat) (fr to : Int) (q : Nat) : Bool := decide (¬ (q + 1 < N /\ zFr T (q + 1) <= fr) /\ (zFr T q <= fr ∨ zFr T q <= to))
def dqL (T : TtS) (N : Nat) (fr to : Int) (i : Nat) : List Nat := (List.range i).filter (dqB T N fr to)
def dqI (L : List Nat) (j : Nat) : Nat := L.getD j 0
def dqN (L : List Nat) : Nat := L.length
abbrev colsDq (T : TtS) (L : List Nat) : List Col := [.int .i64 (λ j => zFr T (dqI L j)), .ls (λ j => zNl T (dqI L j)) (λ j => zN T (dqI L j)) [.int .u64 (λ j p => zK T (dqI L j) p), .int .u64 (λ j p => zV T (dqI L j) p)]]
def prDq (N i : Nat) : Prop := i <= N
def mDq (N i : Nat) : Nat := N - i
def annDq (T : TtS) (N : Nat) (fr to : Int) (b : Nat) : Option (St -> LoopA) :=
 match b with
 | 0 => some λ z => { ι := Nat, tms := [5, 6], tmU := λ i => [.ysl false (yNeq (dqN (dqL T N fr to i)) 0) z.h.nx 2 0 (dqN (dqL T N fr to i)), .y .i64 (yInt i)], ids := [z.h.nx], hpU := λ i => [.arr false 130 2 (dqN (dqL T N fr to i)) (colF (colsDq T (dqL T N fr to i)))], del := [], ex := 1, pre := prDq N, ms := mDq N }
 | _ => none
def goalDq : Prop := ∀ (nl : Bool) (N : Nat) (T : TtS) (id th ok key val hi most fr to : Int) (ov : Bool) (rk rv : Int) (nlc : Bool) (n : Nat) (pk pv : Nat -> Int), preZ T N = true →
 wxH Try.prog noSm (annDq T N fr to) 59 [rSt, sCaP] [.rows nl N (colsT T), .l (dCal id th ok key val hi most fr to ov rk rv nlc n pk pv)] rSt (.rows (yNeq (dqN (dqL T N fr to N)) 0) (dqN (dqL T N fr to N)) (colsDq T (dqL T N fr to N))) []
theorem dqL_hit {T : TtS} {N : Nat} {fr to : Int} {i : Nat} (h : dqB T N fr to i = true) : dqL T N fr to (i + 1) = dqL T N fr to i ++ [i] := by
 unfold dqL; rw [List.range_succ, List.filter_append]; simp [h]
theorem dqL_miss {T : TtS} {N : Nat} {fr to : Int} {i : Nat} (h : dqB T N fr to i = false) : dqL T N fr to (i + 1) = dqL T N fr to i := by
 unfold dqL; rw [List.range_succ, List.filter_append]; simp [h]
theorem dqL_len (T : TtS) (N : Nat) (fr to : Int) (i : Nat) : dqN (dqL T N fr to i) <= i := by
 have := List.length_filter_le (dqB T N fr to) (List.range i)
 rw [List.length_range] at this
 exact this
theorem dqN_nl (L : List Nat) (x : Nat) : yNeq (dqN (L ++ [x])) 0 = yAnd (yNeq (dqN L) 0) (yNeq 1 0) := by
 show decide (dqN (L ++ [x]) = 0) = (yNeq (dqN L) 0 && false)
 rw [Bool.and_false]
 exact decide_eq_false (by unfold dqN; rw [List.length_append]; exact Nat.succ_ne_zero _)
theorem dqN_ap (L : List Nat) (x : Nat) : dqN (L ++ [x]) = yNadd (dqN L) 1 := by unfold dqN; rw [List.length_append]; rfl
theorem dqI_ap {L : List Nat} {x j : Nat} (hj : Nat.succ j <= dqN (L ++ [x])) : (yNlt j (dqN L) = true /\ dqI (L ++ [x]) j = dqI L j) ∨ (yNlt j (dqN L) = false /\ dqI (L ++ [x]) j = x) := by
 by_cases h : j < L.length
 . refine .inl ⟨decide_eq_true h, ?_⟩
   unfold dqI; rw [List.getD_eq_getElem?_getD, List.getD_eq_getElem?_getD, List.getElem?_append_left h]
 . have hj : j + 1 <= L.length + 1 := by have := dqN_ap L x; unfold yNadd at this; rw [this] at hj; exact hj
   have : j = L.length := by omega
   subst this
   refine .inr ⟨decide_eq_false h, ?_⟩
   unfold dqI; rw [List.getD_eq_getElem?_getD, List.getElem?_append_right (Nat.le_refl _)]
   simp
def goalAt2V : Prop := (∀ (nl : Bool) (n : Nat) (k v : Nat -> Int) (a : Int), yNle n (nat_lit 1000000) = true -> true = true /\ (∃ (i0 : Nat), prFx n (keB k a) i0 /\ true = true /\ yInt i0 = (0 : Int) /\ true = true) /\ ∀ (g : Nat -> AV) (i : Nat), prFx n (keB k a) i -> (yLt (yInt i) (yInt n) = true -> (yIn (yInt i) n = true -> (yEq (k (yNat (yInt i))) a = true -> fxI n (keB k a) = yInt i /\ true = true) /\ (yEq (k (yNat (yInt i))) a = false -> true = true /\ ∃ (i' : Nat), prFx n (keB k a) i' /\ Nat.succ (mFx n i') <= mFx n i /\ true = true /\ yInt i' = yWrap .i64 (yAdd (yInt i) 1) /\ true = true)) /\ (yIn (yInt i) n = false -> False)) /\ (yLt (yInt i) (yInt n) = false -> fxI n (keB k a) = (-1 : Int) /\ true = true))
theorem goalAt2_eq : goalAt2 = goalAt2V := by kernel_rfl
set_option maxHeartbeats 8000000 in
theorem goalAt2_vc : goalAt2V := by
 unfold goalAt2V
 intro nl n k v a hn
 have hn : n <= 1000000 := of_decide_eq_true hn
 refine ⟨rfl, ⟨0, fx_0 _ _, rfl, rfl, rfl⟩, λ g i hi => ⟨λ h => ?_, λ h => ⟨fx_none hi (yLtF h), rfl⟩⟩⟩
 refine mstI (yInN (yLtN h)) ⟨λ e => ⟨fx_hit hi (yLtN h) ?_, rfl⟩, λ e => ?_⟩
 . exact decide_eq_true (of_decide_eq_true e)
 . obtain ⟨q1, q2, q3⟩ := fx_next hn hi (yLtN h) (show keB k a i = false from decide_eq_false (of_decide_eq_false e))
   exact ⟨rfl, i + 1, q1, q2, rfl, q3, rfl⟩
theorem goalAt2_tt : (goalAt2) = True := goalAt2_eq.trans (eq_true goalAt2_vc)
theorem goalAt2_ok : goalAt2 := @ft' goalAt2 goalAt2_tt
theorem waB_t {T : TtS} {a b : Int} {i : Nat} (h0 : 0 <= fxI (zN T i) (keB (zK T i) a)) (hk : zK T i (fxI (zN T i) (keB (zK T i) a)).toNat = a) (hv : zV T i (fxI (zN T i) (keB (zK T i) a)).toNat = b) : waB T a b i = true := decide_eq_true ⟨h0, hk, hv⟩
theorem fxI_lt {n : Nat} {p : Nat -> Bool} : fxI n p < n ∨ fxI n p < 0 := by
 unfold fxI
 cases h : (List.range n).find? p with
 | none => exact .inr (by decide)
 | some i => exact .inl (by have := List.mem_range.1 (List.mem_of_find?_eq_some h); exact Int.ofNat_lt.2 this)
def goalWaV : Prop := (∀ (nl : Bool) (N : Nat) (T : TtS) (a b : Int), preZ T N = true -> true = true /\ (∃ (i0 : Nat), prFx N (waB T a b) i0 /\ true = true /\ yInt i0 = (0 : Int) /\ true = true) /\ ∀ (g : Nat -> AV) (i : Nat), prFx N (waB T a b) i -> (yLt (yInt i) (yInt N) = true -> mst (yIn (yInt i) N) (mst (yCol (CK.int .u64) (zN T (yNat (yInt i))) λ (i_1 : Nat) => AV.y .u64 (zK T (yNat (yInt i)) i_1)) (mst (yCol (CK.int .u64) (zN T (yNat (yInt i))) λ (i_1 : Nat) => AV.y .u64 (zV T (yNat (yInt i)) i_1)) (mst (yNle (zN T (yNat (yInt i))) 1000000) ((yLe 0 (fxI (zN T (yNat (yInt i))) (keB (λ (i_1 : Nat) => zK T (yNat (yInt i)) i_1) a)) = true -> mst (yIn (yInt i) N) (mst (yIn (fxI (zN T (yNat (yInt i))) (keB (λ (i_1 : Nat) => zK T (yNat (yInt i)) i_1) a)) (zN T (yNat (yInt i)))) ((yAnd (yEq (zK T (yNat (yInt i)) (yNat (fxI (zN T (yNat (yInt i))) (keB (λ (i_1 : Nat) => zK T (yNat (yInt i)) i_1) a)))) a) (yAnd (yEq (zV T (yNat (yInt i)) (yNat (fxI (zN T (yNat (yInt i))) (keB (λ (i_1 : Nat) => zK T (yNat (yInt i)) i_1) a)))) b) true) = true -> wasV T N a b = true /\ true = true) /\ (yAnd (yEq (zK T (yNat (yInt i)) (yNat (fxI (zN T (yNat (yInt i))) (keB (λ (i_1 : Nat) => zK T (yNat (yInt i)) i_1) a)))) a) (yAnd (yEq (zV T (yNat (yInt i)) (yNat (fxI (zN T (yNat (yInt i))) (keB (λ (i_1 : Nat) => zK T (yNat (yInt i)) i_1) a)))) b) true) = false -> true = true /\ ∃ (i' : Nat), prFx N (waB T a b) i' /\ Nat.succ (mFx N i') <= mFx N i /\ true = true /\ yInt i' = yWrap .i64 (yAdd (yInt i) 1) /\ true = true)))) /\ (yLe 0 (fxI (zN T (yNat (yInt i))) (keB (λ (i_1 : Nat) => zK T (yNat (yInt i)) i_1) a)) = false -> true = true /\ ∃ (i' : Nat), prFx N (waB T a b) i' /\ Nat.succ (mFx N i') <= mFx N i /\ true = true /\ yInt i' = yWrap .i64 (yAdd (yInt i) 1) /\ true = true)))))) /\ (yLt (yInt i) (yInt N) = false -> wasV T N a b = false /\ true = true))
theorem goalWa_eq : goalWa = goalWaV := by kernel_rfl
set_option maxHeartbeats 8000000 in
theorem goalWa_vc : goalWaV := by
 unfold goalWaV
 intro nl N T a b hT
 obtain ⟨hN, hz⟩ := of_decide_eq_true hT
 refine ⟨rfl, ⟨0, fx_0 _ _, rfl, rfl, rfl⟩, λ g i hi => ⟨λ h => ?_, λ h => ?_⟩⟩
 . have hl := yLtN h
   have miss : waB T a b i = false -> True /\ ∃ i' : Nat, prFx N (waB T a b) i' /\ Nat.succ (mFx N i') <= mFx N i /\ true = true /\ yInt i' = yWrap .i64 (yAdd (yInt i) 1) /\ true = true := λ hb => by
    obtain ⟨q1, q2, q3⟩ := fx_next (by omega) hi hl hb
    exact ⟨trivial, i + 1, q1, q2, rfl, q3, rfl⟩
   refine mstI (yInN hl) (mstI yCol_int (mstI yCol_int (mstI (decide_eq_true (hz i hl)) ⟨λ e => ?_, λ e => ?_⟩)))
   . have e : 0 <= fxI (zN T i) (keB (zK T i) a) := of_decide_eq_true e
     have e2 : fxI (zN T i) (keB (zK T i) a) < zN T i := by
      rcases @fxI_lt (zN T i) (keB (zK T i) a) with h | h
      . exact h
      . omega
     refine mstI (yInN hl) (mstI (yIn_t.mpr ⟨e, e2⟩) ⟨λ d => ?_, λ d => ?_⟩)
     . obtain ⟨d1, d2⟩ := yAnd_t.mp d
       obtain ⟨d2, _⟩ := yAnd_t.mp d2
       have := fx_hit hi hl (waB_t e (of_decide_eq_true d1) (of_decide_eq_true d2))
       refine ⟨?_, rfl⟩
       unfold wasV
       rw [this]
       exact decide_eq_true (Int.natCast_nonneg _)
     . refine ⟨rfl, (miss (decide_eq_false λ ⟨_, h1, h2⟩ => ?_)).2⟩
       have d1 : yEq (zK T i (fxI (zN T i) (keB (zK T i) a)).toNat) a = true := decide_eq_true h1
       have d2 : yEq (zV T i (fxI (zN T i) (keB (zK T i) a)).toNat) b = true := decide_eq_true h2
       have d : yAnd (yEq (zK T i (fxI (zN T i) (keB (zK T i) a)).toNat) a) (yAnd (yEq (zV T i (fxI (zN T i) (keB (zK T i) a)).toNat) b) true) = false := d
       rw [d1, d2] at d; cases d
   . have e : ¬ 0 <= fxI (zN T i) (keB (zK T i) a) := of_decide_eq_false e
     exact ⟨rfl, (miss (decide_eq_false λ ⟨h1, _⟩ => e h1)).2⟩
 . have := fx_none hi (yLtF h)
   refine ⟨?_, rfl⟩
   unfold wasV
   rw [this]; rfl
theorem goalWa_tt : (goalWa) = True := goalWa_eq.trans (eq_true goalWa_vc)
theorem goalWa_ok : goalWa := @ft' goalWa goalWa_tt
def goalAlV : Prop := (∀ (nl : Bool) (N : Nat) (T : TtS) (a : Int), preZ T N = true -> true = true /\ (∃ (i0 : Nat), prFx N (alB T a) i0 /\ true = true /\ yInt i0 = (0 : Int) /\ true = true) /\ ∀ (g : Nat -> AV) (i : Nat), prFx N (alB T a) i -> (yLt (yInt i) (yInt N) = true -> mst (yIn (yInt i) N) (mst (yCol (CK.int .u64) (zN T (yNat (yInt i))) λ (i_1 : Nat) => AV.y .u64 (zK T (yNat (yInt i)) i_1)) (mst (yCol (CK.int .u64) (zN T (yNat (yInt i))) λ (i_1 : Nat) => AV.y .u64 (zV T (yNat (yInt i)) i_1)) (mst (yNle (zN T (yNat (yInt i))) 1000000) ((yLt (fxI (zN T (yNat (yInt i))) (keB (λ (i_1 : Nat) => zK T (yNat (yInt i)) i_1) a)) (0 : Int) = true -> alwV T N a = false /\ true = true) /\ (yLt (fxI (zN T (yNat (yInt i))) (keB (λ (i_1 : Nat) => zK T (yNat (yInt i)) i_1) a)) (0 : Int) = false -> true = true /\ ∃ (i' : Nat), prFx N (alB T a) i' /\ Nat.succ (mFx N i') <= mFx N i /\ true = true /\ yInt i' = yWrap .i64 (yAdd (yInt i) 1) /\ true = true)))))) /\ (yLt (yInt i) (yInt N) = false -> alwV T N a = true /\ true = true))
theorem goalAl_eq : goalAl = goalAlV := by kernel_rfl
set_option maxHeartbeats 8000000 in
theorem goalAl_vc : goalAlV := by
 unfold goalAlV
 intro nl N T a hT
 obtain ⟨hN, hz⟩ := of_decide_eq_true hT
 refine ⟨rfl, ⟨0, fx_0 _ _, rfl, rfl, rfl⟩, λ g i hi => ⟨λ h => ?_, λ h => ?_⟩⟩
 . have hl := yLtN h
   refine mstI (yInN hl) (mstI yCol_int (mstI yCol_int (mstI (decide_eq_true (hz i hl)) ⟨λ e => ?_, λ e => ?_⟩)))
   . have := fx_hit hi hl (show alB T a i = true from e)
     refine ⟨?_, rfl⟩
     unfold alwV
     rw [this]
     exact decide_eq_false (Int.not_lt.mpr (Int.natCast_nonneg _))
   . obtain ⟨q1, q2, q3⟩ := fx_next (by omega) hi hl (show alB T a i = false from e)
     exact ⟨rfl, i + 1, q1, q2, rfl, q3, rfl⟩
 . have := fx_none hi (yLtF h)
   refine ⟨?_, rfl⟩
   unfold alwV
   rw [this]; rfl
theorem goalAl_tt : (goalAl) = True := goalAl_eq.trans (eq_true goalAl_vc)
theorem goalAl_ok : goalAl := @ft' goalAl goalAl_tt
def goalDq_0 (T : TtS) (N : Nat) (fr : Int) (to : Int) (i : Nat) := mst (yNeq (dqN (dqL T N fr to i)) (dqN (dqL T N fr to i))) (mst (yGrow (yNadd (dqN (dqL T N fr to i)) 1) 32) (true = true /\ ∃ (i' : Nat), prDq N i' /\ Nat.succ (mDq N i') <= mDq N i /\ true = true /\ yNeq (dqN (dqL T N fr to i')) (nat_lit 0) = yAnd (yNeq (dqN (dqL T N fr to i)) 0) (yNeq 1 0) /\ nat_lit 0 = nat_lit 0 /\ dqN (dqL T N fr to i') = yNadd (dqN (dqL T N fr to i)) 1 /\ yInt i' = yWrap .i64 (yAdd (yInt i) 1) /\ dqN (dqL T N fr to i') = yNadd (dqN (dqL T N fr to i)) 1 /\ (∀ (i_1 : Nat), Nat.succ i_1 <= dqN (dqL T N fr to i') -> zFr T (dqI (dqL T N fr to i') i_1) = ySel (yNlt i_1 (dqN (dqL T N fr to i))) (zFr T (dqI (dqL T N fr to i) i_1)) (zFr T (yNat (yInt i))) /\ (zNl T (dqI (dqL T N fr to i') i_1) = ySelB (yNlt i_1 (dqN (dqL T N fr to i))) (zNl T (dqI (dqL T N fr to i) i_1)) (zNl T (yNat (yInt i))) /\ zN T (dqI (dqL T N fr to i') i_1) = ySelN (yNlt i_1 (dqN (dqL T N fr to i))) (zN T (dqI (dqL T N fr to i) i_1)) (zN T (yNat (yInt i))) /\ ∀ (i_2 : Nat), Nat.succ i_2 <= zN T (dqI (dqL T N fr to i') i_1) -> zK T (dqI (dqL T N fr to i') i_1) i_2 = ySel (yNlt i_1 (dqN (dqL T N fr to i))) (zK T (dqI (dqL T N fr to i) i_1) i_2) (zK T (yNat (yInt i)) i_2) /\ zV T (dqI (dqL T N fr to i') i_1) i_2 = ySel (yNlt i_1 (dqN (dqL T N fr to i))) (zV T (dqI (dqL T N fr to i) i_1) i_2) (zV T (yNat (yInt i)) i_2) /\ True) /\ True) /\ true = true))
def goalDq_2 (T : TtS) (N : Nat) (fr : Int) (to : Int) (i' : Nat) (i : Nat) := ∀ (i_1 : Nat), Nat.succ i_1 <= dqN (dqL T N fr to i') -> zFr T (dqI (dqL T N fr to i') i_1) = zFr T (dqI (dqL T N fr to i) i_1) /\ (zNl T (dqI (dqL T N fr to i') i_1) = zNl T (dqI (dqL T N fr to i) i_1) /\ zN T (dqI (dqL T N fr to i') i_1) = zN T (dqI (dqL T N fr to i) i_1) /\ ∀ (i_2 : Nat), Nat.succ i_2 <= zN T (dqI (dqL T N fr to i') i_1) -> zK T (dqI (dqL T N fr to i') i_1) i_2 = zK T (dqI (dqL T N fr to i) i_1) i_2 /\ zV T (dqI (dqL T N fr to i') i_1) i_2 = zV T (dqI (dqL T N fr to i) i_1) i_2 /\ True) /\ True
def goalDq_1 (T : TtS) (i : Nat) (fr : Int) (N : Nat) (to : Int) := (yLe (zFr T (yNat (yInt i))) fr = true -> mst (yIn (yInt i) N) (goalDq_0 T N fr to i)) /\ (yLe (zFr T (yNat (yInt i))) fr = false -> mst (yIn (yInt i) N) ((yLe (zFr T (yNat (yInt i))) to = true -> mst (yIn (yInt i) N) (goalDq_0 T N fr to i)) /\ (yLe (zFr T (yNat (yInt i))) to = false -> true = true /\ ∃ (i' : Nat), prDq N i' /\ Nat.succ (mDq N i') <= mDq N i /\ true = true /\ yNeq (dqN (dqL T N fr to i')) (nat_lit 0) = yNeq (dqN (dqL T N fr to i)) 0 /\ nat_lit 0 = nat_lit 0 /\ dqN (dqL T N fr to i') = dqN (dqL T N fr to i) /\ yInt i' = yWrap .i64 (yAdd (yInt i) 1) /\ dqN (dqL T N fr to i') = dqN (dqL T N fr to i) /\ (goalDq_2 T N fr to i' i) /\ true = true)))
def goalDqV : Prop := (∀ (nl : Bool) (N : Nat) (T : TtS) (id th ok key val hi most fr to : Int) (ov : Bool) (rk rv : Int) (nlc : Bool) (n : Nat) (pk pv : Nat -> Int), preZ T N = true -> true = true /\ (∃ (i0 : Nat), prDq N i0 /\ true = true /\ yNeq (dqN (dqL T N fr to i0)) (nat_lit 0) = true /\ dqN (dqL T N fr to i0) = nat_lit 0 /\ yInt i0 = (0 : Int) /\ dqN (dqL T N fr to i0) = nat_lit 0 /\ true = true /\ true = true) /\ ∀ (g : Nat -> AV) (i : Nat), prDq N i -> (yLt (yInt i) (yInt N) = true -> (yLt (yWrap .i64 (yAdd (yInt i) 1)) (yInt N) = true -> mst (yIn (yWrap .i64 (yAdd (yInt i) 1)) N) ((yLe (zFr T (yNat (yWrap .i64 (yAdd (yInt i) 1)))) fr = true -> true = true /\ ∃ (i' : Nat), prDq N i' /\ Nat.succ (mDq N i') <= mDq N i /\ true = true /\ yNeq (dqN (dqL T N fr to i')) (nat_lit 0) = yNeq (dqN (dqL T N fr to i)) 0 /\ nat_lit 0 = nat_lit 0 /\ dqN (dqL T N fr to i') = dqN (dqL T N fr to i) /\ yInt i' = yWrap .i64 (yAdd (yInt i) 1) /\ dqN (dqL T N fr to i') = dqN (dqL T N fr to i) /\ (goalDq_2 T N fr to i' i) /\ true = true) /\ (yLe (zFr T (yNat (yWrap .i64 (yAdd (yInt i) 1)))) fr = false -> mst (yIn (yInt i) N) (goalDq_1 T i fr N to)))) /\ (yLt (yWrap .i64 (yAdd (yInt i) 1)) (yInt N) = false -> mst (yIn (yInt i) N) (goalDq_1 T i fr N to))) /\ (yLt (yInt i) (yInt N) = false -> yNeq (dqN (dqL T N fr to N)) (nat_lit 0) = yNeq (dqN (dqL T N fr to i)) 0 /\ dqN (dqL T N fr to N) = dqN (dqL T N fr to i) /\ yNadd 0 (dqN (dqL T N fr to i)) <= dqN (dqL T N fr to i) /\ (∀ (i_1 : Nat), Nat.succ i_1 <= dqN (dqL T N fr to N) -> zFr T (dqI (dqL T N fr to N) i_1) = zFr T (dqI (dqL T N fr to i) (yNadd 0 i_1)) /\ (zNl T (dqI (dqL T N fr to N) i_1) = zNl T (dqI (dqL T N fr to i) (yNadd 0 i_1)) /\ zN T (dqI (dqL T N fr to N) i_1) = zN T (dqI (dqL T N fr to i) (yNadd 0 i_1)) /\ ∀ (i_2 : Nat), Nat.succ i_2 <= zN T (dqI (dqL T N fr to N) i_1) -> zK T (dqI (dqL T N fr to N) i_1) i_2 = zK T (dqI (dqL T N fr to i) (yNadd 0 i_1)) i_2 /\ zV T (dqI (dqL T N fr to N) i_1) i_2 = zV T (dqI (dqL T N fr to i) (yNadd 0 i_1)) i_2 /\ True) /\ True) /\ true = true))
theorem goalDq_eq : goalDq = goalDqV := by kernel_rfl
set_option maxHeartbeats 8000000 in
theorem goalDq_vc : goalDqV := by
 unfold goalDqV goalDq_1 goalDq_2 goalDq_0
 intro nl N T id th ok key val hi most fr to ov rk rv nlc n pk pv hT
 obtain ⟨hN, hz⟩ := of_decide_eq_true hT
 refine ⟨rfl, ⟨0, Nat.zero_le _, rfl, rfl, rfl, rfl, rfl, rfl, rfl⟩, λ g i hi => ⟨λ h => ?_, λ h => ?_⟩⟩
 . have hl := yLtN h
   have hw : yInt (i + 1) = yWrap .i64 (yAdd (yInt i) 1) := by
    show ((i + 1 : Nat) : Int) = yWrap .i64 ((i : Int) + 1)
    rw [wrap64 (by omega) (by omega)]; omega
   have hms : Nat.succ (mDq N (i + 1)) <= mDq N i := by unfold mDq; omega
   have hgr : yGrow (yNadd (dqN (dqL T N fr to i)) 1) 32 = true := yGrow_t.mpr (show 4 * (dqN (dqL T N fr to i) + 1) * 32 <= 140737488355328 by have := dqL_len T N fr to i; omega)
   have hdd : yNeq (dqN (dqL T N fr to i)) (dqN (dqL T N fr to i)) = true := decide_eq_true rfl
   have hin := yInN hl
   rw [<- hw]
   refine ⟨λ h1 => mstI (yInN (yLtN h1)) ⟨λ h2 => ?m1, λ h2 => mstI hin ⟨λ h3 => mstI hin (mstI hdd (mstI hgr ?k1)), λ h3 => mstI hin ⟨λ h4 => mstI hin (mstI hdd (mstI hgr ?k2)), λ h4 => ?m2⟩⟩⟩,
    λ h1 => mstI hin ⟨λ h3 => mstI hin (mstI hdd (mstI hgr ?k3)), λ h3 => mstI hin ⟨λ h4 => mstI hin (mstI hdd (mstI hgr ?k4)), λ h4 => ?m3⟩⟩⟩
   case' k1 =>
    have e1 := yLtN h1
    have e2 : ¬ zFr T (i + 1) <= fr := of_decide_eq_false h2
    have e3 : zFr T i <= fr := of_decide_eq_true h3
    have hL := dqL_hit (T := T) (N := N) (fr := fr) (to := to) (i := i) (decide_eq_true ⟨λ h => e2 h.2, .inl e3⟩)
   case' k2 =>
    have e2 : ¬ zFr T (i + 1) <= fr := of_decide_eq_false h2
    have e3 : zFr T i <= to := of_decide_eq_true h4
    have hL := dqL_hit (T := T) (N := N) (fr := fr) (to := to) (i := i) (decide_eq_true ⟨λ h => e2 h.2, .inr e3⟩)
   case' k3 =>
    have e1 : N <= i + 1 := yLtF h1
    have e3 : zFr T i <= fr := of_decide_eq_true h3
    have hL := dqL_hit (T := T) (N := N) (fr := fr) (to := to) (i := i) (decide_eq_true ⟨λ h => absurd h.1 (Nat.not_lt.mpr e1), .inl e3⟩)
   case' k4 =>
    have e1 : N <= i + 1 := yLtF h1
    have e3 : zFr T i <= to := of_decide_eq_true h4
    have hL := dqL_hit (T := T) (N := N) (fr := fr) (to := to) (i := i) (decide_eq_true ⟨λ h => absurd h.1 (Nat.not_lt.mpr e1), .inr e3⟩)
   case' m1 =>
    have e2 : zFr T (i + 1) <= fr := of_decide_eq_true h2
    have hL := dqL_miss (T := T) (N := N) (fr := fr) (to := to) (i := i) (decide_eq_false λ h => h.1 ⟨yLtN h1, e2⟩)
   case' m2 =>
    have e2 : ¬ zFr T i <= fr := of_decide_eq_false h3
    have e3 : ¬ zFr T i <= to := of_decide_eq_false h4
    have hL := dqL_miss (T := T) (N := N) (fr := fr) (to := to) (i := i) (decide_eq_false λ h => h.2.elim e2 e3)
   case' m3 =>
    have e2 : ¬ zFr T i <= fr := of_decide_eq_false h3
    have e3 : ¬ zFr T i <= to := of_decide_eq_false h4
    have hL := dqL_miss (T := T) (N := N) (fr := fr) (to := to) (i := i) (decide_eq_false λ h => h.2.elim e2 e3)
   case m1 | m2 | m3 =>
    refine ⟨rfl, i + 1, hl, hms, ?_⟩
    rw [hL]
    exact ⟨rfl, rfl, rfl, rfl, rfl, rfl, λ j hj => ⟨rfl, ⟨rfl, rfl, λ p hp => ⟨rfl, rfl, trivial⟩⟩, trivial⟩, rfl⟩
   case k1 | k2 | k3 | k4 =>
    refine ⟨rfl, i + 1, hl, hms, ?_⟩
    rw [hL]
    refine ⟨rfl, dqN_nl _ _, rfl, dqN_ap _ _, rfl, dqN_ap _ _, λ j hj => ?_, rfl⟩
    rcases dqI_ap hj with ⟨q1, q2⟩ | ⟨q1, q2⟩
    . rw [q1, q2]; exact ⟨rfl, ⟨rfl, rfl, λ p hp => ⟨rfl, rfl, trivial⟩⟩, trivial⟩
    . rw [q1, q2]; exact ⟨rfl, ⟨rfl, rfl, λ p hp => ⟨rfl, rfl, trivial⟩⟩, trivial⟩
 . have hle := yLtF h
   have hi : i <= N := hi
   obtain rfl : i = N := by omega
   refine ⟨rfl, rfl, Nat.le_of_eq (Nat.zero_add _), λ j hj => ?_, rfl⟩
   rw [show yNadd 0 j = j from Nat.zero_add j]
   exact ⟨rfl, ⟨rfl, rfl, λ p hp => ⟨rfl, rfl, trivial⟩⟩, trivial⟩
theorem goalDq_tt : (goalDq) = True := goalDq_eq.trans (eq_true goalDq_vc)
theorem goalDq_ok : goalDq := @ft' goalDq goalDq_tt
theorem smAt2 (hm : Try.prog.follows .mixedOrders = true) : SmCall Try.prog 46 (λ args h => (ctX [sPp, .sc] .sc fAt2 args h).sel) :=
 ctX_ok hm noSm_ok (λ ds r post h => by
  unfold fAt2 at h
  split at h
  . rename_i nl n k v a
    simp only [sI, Prod.mk.injEq] at h
    obtain ⟨h1, rfl, rfl⟩ := h
    have h2 := @goalAt2_ok
    unfold goalAt2 at h2
    exact ⟨_, 1000, @h2 nl n k v a h1⟩
  . cases h)
def fWa (ds : List Dx) : Option (Bool × Dx × List (List Dx)) :=
 match ds with
 | [.rows _ N [.int .i64 fr, .ls nl n [.int .u64 k, .int .u64 v]], .l [.v (.y .u64 a), .v (.y .u64 b)]] => some (preZ ⟨fr, nl, n, k, v⟩ N, .v (.yb (wasV ⟨fr, nl, n, k, v⟩ N a b)), [])
 | _ => none
theorem smWa (hm : Try.prog.follows .mixedOrders = true) (hs : SmOK Try.prog (smL lAt2)) : SmCall Try.prog 60 (λ args h => (ctX [rSt, sPr] .sc fWa args h).sel) :=
 ctX_ok hm hs (λ ds r post h => by
  unfold fWa at h
  split at h
  . rename_i nil N fr nl n k v a b
    simp only [sI, Prod.mk.injEq] at h
    obtain ⟨h1, rfl, rfl⟩ := h
    have h2 := @goalWa_ok
    unfold goalWa at h2
    refine ⟨annFx 5 N (waB ⟨fr, nl, n, k, v⟩ a b), 1000, ?_⟩
    revert h1
    exact @h2 nil N ⟨fr, nl, n, k, v⟩ a b
  . cases h)
def fAl (ds : List Dx) : Option (Bool × Dx × List (List Dx)) :=
 match ds with
 | [.rows _ N [.int .i64 fr, .ls nl n [.int .u64 k, .int .u64 v]], .v (.y .u64 a)] => some (preZ ⟨fr, nl, n, k, v⟩ N, .v (.yb (alwV ⟨fr, nl, n, k, v⟩ N a)), [])
 | _ => none
theorem smAl (hm : Try.prog.follows .mixedOrders = true) (hs : SmOK Try.prog (smL lAt2)) : SmCall Try.prog 61 (λ args h => (ctX [rSt, .sc] .sc fAl args h).sel) :=
 ctX_ok hm hs (λ ds r post h => by
  unfold fAl at h
  split at h
  . rename_i nil N fr nl n k v a
    simp only [sI, Prod.mk.injEq] at h
    obtain ⟨h1, rfl, rfl⟩ := h
    have h2 := @goalAl_ok
    unfold goalAl at h2
    refine ⟨annFx 5 N (alB ⟨fr, nl, n, k, v⟩ a), 1000, ?_⟩
    revert h1
    exact @h2 nil N ⟨fr, nl, n, k, v⟩ a
  . cases h)
def fDq (ds : List Dx) : Option (Bool × Dx × List (List Dx)) :=
 match ds with
 | [.rows _ N [.int .i64 fr, .ls nl n [.int .u64 k, .int .u64 v]], .l [.v (.y .i64 _), .v (.y .i64 _), .v (.y .i64 _), .v (.y .u64 _), .v (.y .u64 _), .v (.y .u64 _), .v (.y .i64 _), .v (.y .i64 frm), .v (.y .i64 to), .v (.yb _), .v (.y .i64 _), .v (.y .u64 _), .rows _ _ [.int .u64 _, .int .u64 _]]] =>
   some (preZ ⟨fr, nl, n, k, v⟩ N, .rows (yNeq (dqN (dqL ⟨fr, nl, n, k, v⟩ N frm to N)) 0) (dqN (dqL ⟨fr, nl, n, k, v⟩ N frm to N)) (colsDq ⟨fr, nl, n, k, v⟩ (dqL ⟨fr, nl, n, k, v⟩ N frm to N)), [])
 | _ => none
theorem smDq (hm : Try.prog.follows .mixedOrders = true) : SmCall Try.prog 59 (λ args h => (ctX [rSt, sCaP] rSt fDq args h).sel) :=
 ctX_ok hm noSm_ok (λ ds r post h => by
  unfold fDq at h
  split at h
  . rename_i nil N fr nl n k v id th ok key val hi most frm to ov rk rv nlc q pk pv
    simp only [sI, Prod.mk.injEq] at h
    obtain ⟨h1, rfl, rfl⟩ := h
    have h2 := @goalDq_ok
    unfold goalDq at h2
    refine ⟨annDq ⟨fr, nl, n, k, v⟩ N frm to, 1000, ?_⟩
    revert h1
    exact @h2 nil N ⟨fr, nl, n, k, v⟩ id th ok key val hi most frm to ov rk rv nlc q pk pv
  . cases h)
def dqT (T : TtS) (L : List Nat) : TtS := ⟨λ j => zFr T (dqI L j), λ j => zNl T (dqI L j), λ j => zN T (dqI L j), λ j p => zK T (dqI L j) p, λ j p => zV T (dqI L j) p⟩
def nwB (pk pv : Nat -> Int) (T : TtS) (L : List Nat) (p : Nat) : Bool := yNot (wasV (dqT T L) (dqN L) (pk p) (pv p))
def lkB (key hi most : Int) (n : Nat) (pk : Nat -> Int) (T : TtS) (L : List Nat) (p : Nat) : Bool := decide (¬ (zK T (dqI L 0) p < key ∨ hi < zK T (dqI L 0) p ∨ ((n : Int) = most /\ pk (n - 1) < zK T (dqI L 0) p)) /\ alwV (dqT T L) (dqN L) (zK T (dqI L 0) p) = true /\ fxI n (keB pk (zK T (dqI L 0) p)) < 0)
def o2K (key hi most : Int) (n : Nat) (pk pv : Nat -> Int) (T : TtS) (L : List Nat) : Int :=
 match (List.range n).find? (nwB pk pv T L) with
 | some p => pk p
 | none => match (List.range (zN T (dqI L 0))).find? (lkB key hi most n pk T L) with
   | some p => zK T (dqI L 0) p
   | none => 0
def o2E (key hi most : Int) (n : Nat) (pk pv : Nat -> Int) (T : TtS) (L : List Nat) : Int :=
 match (List.range n).find? (nwB pk pv T L) with
 | some _ => 10
 | none => match (List.range (zN T (dqI L 0))).find? (lkB key hi most n pk T L) with
   | some _ => 2
   | none => 0
def onK (key hi most : Int) (n : Nat) (pk pv : Nat -> Int) (T : TtS) (L : List Nat) : Int := if fmE key hi most n pk = 0 then o2K key hi most n pk pv T L else fmK key hi most n pk
def onE (key hi most : Int) (n : Nat) (pk pv : Nat -> Int) (T : TtS) (L : List Nat) : Int := if fmE key hi most n pk = 0 then o2E key hi most n pk pv T L else fmE key hi most n pk
def prNw (n : Nat) (pk pv : Nat -> Int) (T : TtS) (L : List Nat) (i : Nat) : Prop := i <= n /\ ∀ j, j < i -> nwB pk pv T L j = false
def mNw (n i : Nat) : Nat := n - i
def prLk (key hi most : Int) (n : Nat) (pk : Nat -> Int) (T : TtS) (L : List Nat) (p : Nat) : Prop := p <= zN T (dqI L 0) /\ ∀ j, j < p -> lkB key hi most n pk T L j = false
def mLk (T : TtS) (L : List Nat) (p : Nat) : Nat := zN T (dqI L 0) - p
def annOn (key hi most : Int) (n : Nat) (pk pv : Nat -> Int) (T : TtS) (L : List Nat) (b : Nat) : Option (St -> LoopA) :=
 match b with
 | 0 => some λ _ => { ι := Nat, tms := [7], tmU := λ i => [.y .i64 (yInt i)], ids := [], hpU := λ _ => [], del := [], ex := 0, pre := prFm key hi most n pk, ms := mFm n }
 | 1 => some λ _ => { ι := Nat, tms := [9], tmU := λ i => [.y .i64 (yInt i)], ids := [], hpU := λ _ => [], del := [], ex := 0, pre := prNw n pk pv T L, ms := mNw n }
 | 2 => some λ _ => { ι := Nat, tms := [10], tmU := λ i => [.y .i64 (yInt i)], ids := [], hpU := λ _ => [], del := [], ex := 0, pre := prLk key hi most n pk T L, ms := mLk T L }
 | _ => none
def lOn : List (Nat × Sm) := [(59, .ct (ctX [rSt, sCaP] rSt fDq)), (60, .ct (ctX [rSt, sPr] .sc fWa)), (61, .ct (ctX [rSt, .sc] .sc fAl)), (46, .ct (ctX [sPp, .sc] .sc fAt2))]
def goalOn : Prop := ∀ (nl : Bool) (N : Nat) (T : TtS) (id th ok key val hi most fr to : Int) (ov : Bool) (rk rv : Int) (nlc : Bool) (n : Nat) (pk pv : Nat -> Int), preZ T N = true -> yNlt 0 (dqN (dqL T N fr to N)) = true -> yNle n 1000000 = true -> yLe 1 most = true →
 wxH Try.prog (smL lOn) (annOn key hi most n pk pv T (dqL T N fr to N)) 31 [sCaP, rSt] [.l (dCal id th ok key val hi most fr to ov rk rv nlc n pk pv), .rows nl N (colsT T)] (.tup [.sc, .sc]) (.l [.v (.y .u64 (onK key hi most n pk pv T (dqL T N fr to N))), .v (.y .i64 (onE key hi most n pk pv T (dqL T N fr to N)))]) []
theorem dqI_lt {T : TtS} {N : Nat} {fr to : Int} {i j : Nat} (h : j < dqN (dqL T N fr to i)) : dqI (dqL T N fr to i) j < i := by
 have h2 : dqI (dqL T N fr to i) j ∈ dqL T N fr to i := by
  unfold dqI; rw [List.getD_eq_getElem?_getD, List.getElem?_eq_getElem h]; exact List.getElem_mem h
 exact List.mem_range.1 (List.mem_filter.1 h2).1
theorem preZ_dq {T : TtS} {N : Nat} {fr to : Int} (hT : preZ T N = true) : preZ (dqT T (dqL T N fr to N)) (dqN (dqL T N fr to N)) = true := by
 obtain ⟨hN, hz⟩ := of_decide_eq_true hT
 exact decide_eq_true ⟨Nat.le_trans (dqL_len T N fr to N) hN, λ i hi => hz _ (dqI_lt hi)⟩
def goalOn_1 (T : TtS) (N : Nat) (fr : Int) (to : Int) := yCol (CK.ls [K1.int .u64, K1.int .u64]) (dqN (dqL T N fr to N)) λ (i : Nat) => AV.lst false (zNl T (dqI (dqL T N fr to N) i)) 2 (zN T (dqI (dqL T N fr to N) i)) (cl2F [Cl2.int .u64 λ (j p : Nat) => zK T (dqI (dqL T N fr to N) j) p, Cl2.int .u64 λ (j p : Nat) => zV T (dqI (dqL T N fr to N) j) p] i)
def goalOn_0 (T : TtS) (N : Nat) (fr : Int) (to : Int) (i : Nat) (n : Nat) (pk : Nat -> Int) (pv : Nat -> Int) (key : Int) (hi : Int) (most : Int) := mst (goalOn_1 T N fr to) (mst (preZ (dqT T (dqL T N fr to N)) (dqN (dqL T N fr to N))) ((alwV (dqT T (dqL T N fr to N)) (dqN (dqL T N fr to N)) (zK T (dqI (dqL T N fr to N) 0) (yNat (yInt i))) = true -> mst (yCol (CK.int .u64) n λ (i : Nat) => AV.y .u64 (pk i)) (mst (yCol (CK.int .u64) n λ (i : Nat) => AV.y .u64 (pv i)) (mst (yNle n 1000000) ((yLt (fxI n (keB (λ (i : Nat) => pk i) (zK T (dqI (dqL T N fr to N) 0) (yNat (yInt i))))) (0 : Int) = true -> onK key hi most n pk pv T (dqL T N fr to N) = zK T (dqI (dqL T N fr to N) 0) (yNat (yInt i)) /\ onE key hi most n pk pv T (dqL T N fr to N) = (2 : Int) /\ true = true) /\ (yLt (fxI n (keB (λ (i : Nat) => pk i) (zK T (dqI (dqL T N fr to N) 0) (yNat (yInt i))))) (0 : Int) = false -> true = true /\ ∃ (i' : Nat), prLk key hi most n pk T (dqL T N fr to N) i' /\ Nat.succ (mLk T (dqL T N fr to N) i') <= mLk T (dqL T N fr to N) i /\ true = true /\ yInt i' = yWrap .i64 (yAdd (yInt i) 1) /\ true = true))))) /\ (alwV (dqT T (dqL T N fr to N)) (dqN (dqL T N fr to N)) (zK T (dqI (dqL T N fr to N) 0) (yNat (yInt i))) = false -> true = true /\ ∃ (i' : Nat), prLk key hi most n pk T (dqL T N fr to N) i' /\ Nat.succ (mLk T (dqL T N fr to N) i') <= mLk T (dqL T N fr to N) i /\ true = true /\ yInt i' = yWrap .i64 (yAdd (yInt i) 1) /\ true = true)))
def goalOnV : Prop := (∀ (nl : Bool) (N : Nat) (T : TtS) (id th ok key val hi most fr to : Int) (ov : Bool) (rk rv : Int) (nlc : Bool) (n : Nat) (pk pv : Nat -> Int), preZ T N = true -> yNlt 0 (dqN (dqL T N fr to N)) = true -> yNle n (nat_lit 1000000) = true -> yLe 1 most = true -> (yLt most (yInt n) = true -> onK key hi most n pk pv T (dqL T N fr to N) = (0 : Int) /\ onE key hi most n pk pv T (dqL T N fr to N) = (8 : Int) /\ true = true) /\ (yLt most (yInt n) = false -> true = true /\ (∃ (i0 : Nat), prFm key hi most n pk i0 /\ true = true /\ yInt i0 = (0 : Int) /\ true = true) /\ ∀ (g : Nat -> AV) (i : Nat), prFm key hi most n pk i -> (yLt (yInt i) (yInt n) = true -> mst (yIn (yInt i) n) ((yLt (pk (yNat (yInt i))) key = true -> mst (yIn (yInt i) n) (onK key hi most n pk pv T (dqL T N fr to N) = pk (yNat (yInt i)) /\ onE key hi most n pk pv T (dqL T N fr to N) = (5 : Int) /\ true = true)) /\ (yLt (pk (yNat (yInt i))) key = false -> mst (yIn (yInt i) n) ((yLt hi (pk (yNat (yInt i))) = true -> mst (yIn (yInt i) n) (onK key hi most n pk pv T (dqL T N fr to N) = pk (yNat (yInt i)) /\ onE key hi most n pk pv T (dqL T N fr to N) = (5 : Int) /\ true = true)) /\ (yLt hi (pk (yNat (yInt i))) = false -> (yLt 0 (yInt i) = true -> mst (yIn (yInt i) n) (mst (yIn (yWrap .i64 (ySub (yInt i) 1)) n) ((yLe (pk (yNat (yInt i))) (pk (yNat (yWrap .i64 (ySub (yInt i) 1)))) = true -> mst (yIn (yInt i) n) (onK key hi most n pk pv T (dqL T N fr to N) = pk (yNat (yInt i)) /\ onE key hi most n pk pv T (dqL T N fr to N) = (13 : Int) /\ true = true)) /\ (yLe (pk (yNat (yInt i))) (pk (yNat (yWrap .i64 (ySub (yInt i) 1)))) = false -> true = true /\ ∃ (i' : Nat), prFm key hi most n pk i' /\ Nat.succ (mFm n i') <= mFm n i /\ true = true /\ yInt i' = yWrap .i64 (yAdd (yInt i) 1) /\ true = true)))) /\ (yLt 0 (yInt i) = false -> true = true /\ ∃ (i' : Nat), prFm key hi most n pk i' /\ Nat.succ (mFm n i') <= mFm n i /\ true = true /\ yInt i' = yWrap .i64 (yAdd (yInt i) 1) /\ true = true)))))) /\ (yLt (yInt i) (yInt n) = false -> mst (yCol (CK.int .i64) N λ (i : Nat) => AV.y .i64 (zFr T i)) (mst (yCol (CK.ls [K1.int .u64, K1.int .u64]) N λ (i : Nat) => AV.lst false (zNl T i) 2 (zN T i) (cl2F [Cl2.int .u64 (zK T), Cl2.int .u64 (zV T)] i)) (mst (yCol (CK.int .u64) n λ (i : Nat) => AV.y .u64 (pk i)) (mst (yCol (CK.int .u64) n λ (i : Nat) => AV.y .u64 (pv i)) (mst (preZ T N) (true = true /\ (∃ (i0 : Nat), prNw n pk pv T (dqL T N fr to N) i0 /\ true = true /\ yInt i0 = (0 : Int) /\ true = true) /\ ∀ (g : Nat -> AV) (i : Nat), prNw n pk pv T (dqL T N fr to N) i -> (yLt (yInt i) (yInt n) = true -> mst (yIn (yInt i) n) (mst (yCol (CK.int .i64) (dqN (dqL T N fr to N)) λ (i : Nat) => AV.y .i64 (zFr T (dqI (dqL T N fr to N) i))) (mst (goalOn_1 T N fr to) (mst (preZ (dqT T (dqL T N fr to N)) (dqN (dqL T N fr to N))) ((yNot (wasV (dqT T (dqL T N fr to N)) (dqN (dqL T N fr to N)) (pk (yNat (yInt i))) (pv (yNat (yInt i)))) = true -> mst (yIn (yInt i) n) (onK key hi most n pk pv T (dqL T N fr to N) = pk (yNat (yInt i)) /\ onE key hi most n pk pv T (dqL T N fr to N) = (10 : Int) /\ true = true)) /\ (yNot (wasV (dqT T (dqL T N fr to N)) (dqN (dqL T N fr to N)) (pk (yNat (yInt i))) (pv (yNat (yInt i)))) = false -> true = true /\ ∃ (i' : Nat), prNw n pk pv T (dqL T N fr to N) i' /\ Nat.succ (mNw n i') <= mNw n i /\ true = true /\ yInt i' = yWrap .i64 (yAdd (yInt i) 1) /\ true = true)))))) /\ (yLt (yInt i) (yInt n) = false -> true = true /\ (∃ (i0 : Nat), prLk key hi most n pk T (dqL T N fr to N) i0 /\ true = true /\ yInt i0 = (0 : Int) /\ true = true) /\ ∀ (g : Nat -> AV) (i : Nat), prLk key hi most n pk T (dqL T N fr to N) i -> mst (yIn 0 (dqN (dqL T N fr to N))) ((yLt (yInt i) (yInt (zN T (dqI (dqL T N fr to N) 0))) = true -> mst (yIn 0 (dqN (dqL T N fr to N))) (mst (yIn (yInt i) (zN T (dqI (dqL T N fr to N) 0))) ((yLt (zK T (dqI (dqL T N fr to N) 0) (yNat (yInt i))) key = true -> true = true /\ ∃ (i' : Nat), prLk key hi most n pk T (dqL T N fr to N) i' /\ Nat.succ (mLk T (dqL T N fr to N) i') <= mLk T (dqL T N fr to N) i /\ true = true /\ yInt i' = yWrap .i64 (yAdd (yInt i) 1) /\ true = true) /\ (yLt (zK T (dqI (dqL T N fr to N) 0) (yNat (yInt i))) key = false -> (yLt hi (zK T (dqI (dqL T N fr to N) 0) (yNat (yInt i))) = true -> true = true /\ ∃ (i' : Nat), prLk key hi most n pk T (dqL T N fr to N) i' /\ Nat.succ (mLk T (dqL T N fr to N) i') <= mLk T (dqL T N fr to N) i /\ true = true /\ yInt i' = yWrap .i64 (yAdd (yInt i) 1) /\ true = true) /\ (yLt hi (zK T (dqI (dqL T N fr to N) 0) (yNat (yInt i))) = false -> (yEq (yInt n) most = true -> mst (yIn (yWrap .i64 (ySub (yInt n) 1)) n) ((yLt (pk (yNat (yWrap .i64 (ySub (yInt n) 1)))) (zK T (dqI (dqL T N fr to N) 0) (yNat (yInt i))) = true -> true = true /\ ∃ (i' : Nat), prLk key hi most n pk T (dqL T N fr to N) i' /\ Nat.succ (mLk T (dqL T N fr to N) i') <= mLk T (dqL T N fr to N) i /\ true = true /\ yInt i' = yWrap .i64 (yAdd (yInt i) 1) /\ true = true) /\ (yLt (pk (yNat (yWrap .i64 (ySub (yInt n) 1)))) (zK T (dqI (dqL T N fr to N) 0) (yNat (yInt i))) = false -> mst (yCol (CK.int .i64) (dqN (dqL T N fr to N)) λ (i : Nat) => AV.y .i64 (zFr T (dqI (dqL T N fr to N) i))) (goalOn_0 T N fr to i n pk pv key hi most)))) /\ (yEq (yInt n) most = false -> mst (yCol (CK.int .i64) (dqN (dqL T N fr to N)) λ (i : Nat) => AV.y .i64 (zFr T (dqI (dqL T N fr to N) i))) (goalOn_0 T N fr to i n pk pv key hi most))))))) /\ (yLt (yInt i) (yInt (zN T (dqI (dqL T N fr to N) 0))) = false -> onK key hi most n pk pv T (dqL T N fr to N) = (0 : Int) /\ onE key hi most n pk pv T (dqL T N fr to N) = (0 : Int) /\ true = true)))))))))))
theorem goalOn_eq : goalOn = goalOnV := by kernel_rfl
set_option maxHeartbeats 8000000 in
theorem goalOn_vc : goalOnV := by
 unfold goalOnV goalOn_0 goalOn_1
 intro nl N T id th ok key val hi most fr to ov rk rv nlc n pk pv hT h0 hn hm
 have hn' : n <= 1000000 := of_decide_eq_true hn
 have h0' : 0 < dqN (dqL T N fr to N) := of_decide_eq_true h0
 have hm' : 1 <= most := of_decide_eq_true hm
 have hD := preZ_dq (fr := fr) (to := to) hT
 have hz0 : zN T (dqI (dqL T N fr to N) 0) <= 1000000 := (of_decide_eq_true hT).2 _ (dqI_lt h0')
 have hi0 : yIn 0 (dqN (dqL T N fr to N)) = true := yIn_t.mpr ⟨Int.le_refl _, by omega⟩
 revert hD hz0 hi0
 generalize dqL T N fr to N = L
 intro hD hz0 hi0
 have hcl : ∀ (m : Nat) (z : Nat -> Bool) (q : Nat -> Nat) (a b : Nat -> Nat -> Int), (yCol (CK.ls [K1.int .u64, K1.int .u64]) m λ (i : Nat) => AV.lst false (z i) 2 (q i) (cl2F [Cl2.int .u64 a, Cl2.int .u64 b] i)) = true := λ m z q a b => yCol_ok.2 λ i _ => List.all_eq_true.2 λ p _ => rfl
 have hw : ∀ i : Nat, i <= 1000000 -> yInt (i + 1) = yWrap .i64 (yAdd (yInt i) 1) := λ i hi => by
  show ((i + 1 : Nat) : Int) = yWrap .i64 ((i : Int) + 1)
  rw [wrap64 (by omega) (by omega)]; omega
 have oK : ∀ {x y : Int}, fmK key hi most n pk = x -> fmE key hi most n pk = y -> y ≠ 0 -> onK key hi most n pk pv T L = x /\ onE key hi most n pk pv T L = y := λ h1 h2 h3 => by
  unfold onK onE
  rw [if_neg (by rw [h2]; exact h3), if_neg (by rw [h2]; exact h3)]; exact ⟨h1, h2⟩
 have nxt : ∀ i, i < n -> prFm key hi most n pk i -> fmB key hi pk i = false -> ∃ i', prFm key hi most n pk i' /\ (mFm n i').succ <= mFm n i /\ true = true /\ yInt i' = yWrap .i64 (yAdd (yInt i) 1) /\ true = true := λ i hi' hp hb =>
  ⟨i + 1, ⟨hi', hp.2.1, λ j hj => by
   rcases Nat.lt_succ_iff_lt_or_eq.1 hj with h | rfl
   . exact hp.2.2 j h
   . exact hb⟩, by unfold mFm; omega, rfl, hw i (by omega), rfl⟩
 have fnd : ∀ i, i < n -> prFm key hi most n pk i -> fmB key hi pk i = true -> fmK key hi most n pk = pk i /\ fmE key hi most n pk = bif fmO key hi pk i then 5 else 13 := λ i hi' hp hb => by
  unfold fmK fmE
  rw [if_neg hp.2.1, if_neg hp.2.1, find_range hp.2.2 hb n hi']
  exact ⟨rfl, rfl⟩
 have out : ∀ i, i < n -> prFm key hi most n pk i -> (pk i < key ∨ hi < pk i) -> onK key hi most n pk pv T L = pk i /\ onE key hi most n pk pv T L = 5 := λ i hi' hp h => by
  have := fnd i hi' hp (decide_eq_true (h.elim .inl λ h => .inr (.inl h)))
  rw [show fmO key hi pk i = true from decide_eq_true h] at this
  exact oK this.1 this.2 (by decide)
 refine ⟨λ h => ?_, λ hmo => ⟨rfl, ⟨0, ⟨Nat.zero_le _, ?_, λ j hj => absurd hj (Nat.not_lt_zero _)⟩, rfl, rfl, rfl⟩, λ g i hp => ⟨λ hlt => ?_, λ hge => ?_⟩⟩⟩
 . have h : most < (n : Int) := of_decide_eq_true h
   have := oK (x := 0) (y := 8) (by unfold fmK; rw [if_pos h]) (by unfold fmE; rw [if_pos h]) (by decide)
   exact ⟨this.1, this.2, rfl⟩
 . have h : ¬ most < (n : Int) := of_decide_eq_false hmo
   exact h
 . have hl := yLtN hlt
   have hin := yInN hl
   refine mstI hin ⟨λ e1 => mstI hin ?_, λ e1 => mstI hin ⟨λ e2 => mstI hin ?_, λ e2 => ⟨λ e3 => mstI hin ?_, λ e3 => ⟨rfl, ?_⟩⟩⟩⟩
   . have := out i hl hp (.inl (of_decide_eq_true e1)); exact ⟨this.1, this.2, rfl⟩
   . have := out i hl hp (.inr (of_decide_eq_true e2)); exact ⟨this.1, this.2, rfl⟩
   . have h3 : (0 : Int) < (i : Int) := of_decide_eq_true e3
     have hs : yWrap .i64 (ySub (yInt i) 1) = ((i - 1 : Nat) : Int) := by
      show yWrap .i64 ((i : Int) - 1) = _
      rw [wrap64 (by omega) (by omega)]; omega
     rw [hs]
     refine mstI (yInN (show i - 1 < n by omega)) ⟨λ e4 => mstI hin ?_, λ e4 => ⟨rfl, ?_⟩⟩
     . have e4 : pk i <= pk (i - 1) := of_decide_eq_true e4
       have := fnd i hl hp (decide_eq_true (.inr (.inr ⟨by omega, e4⟩)))
       have e1 : ¬ pk i < key := of_decide_eq_false e1
       have e2 : ¬ hi < pk i := of_decide_eq_false e2
       rw [show fmO key hi pk i = false from decide_eq_false (λ h => h.elim e1 e2)] at this
       have := oK this.1 this.2 (by decide)
       exact ⟨this.1, this.2, rfl⟩
     . have e4 : ¬ pk i <= pk (i - 1) := of_decide_eq_false e4
       have e1 : ¬ pk i < key := of_decide_eq_false e1
       have e2 : ¬ hi < pk i := of_decide_eq_false e2
       exact nxt i hl hp (decide_eq_false (λ h => h.elim e1 λ h => h.elim e2 λ h => e4 h.2))
   . have h3 : ¬ (0 : Int) < (i : Int) := of_decide_eq_false e3
     have e1 : ¬ pk i < key := of_decide_eq_false e1
     have e2 : ¬ hi < pk i := of_decide_eq_false e2
     exact nxt i hl hp (decide_eq_false (λ h => h.elim e1 λ h => h.elim e2 λ h => by omega))
 have hge := yLtF hge
 have hE : fmE key hi most n pk = 0 := by
  unfold fmE
  rw [if_neg hp.2.1, find_none (λ j hj => hp.2.2 j (Nat.lt_of_lt_of_le hj hge))]
 have kK : onK key hi most n pk pv T L = o2K key hi most n pk pv T L := if_pos hE
 have kE : onE key hi most n pk pv T L = o2E key hi most n pk pv T L := if_pos hE
 have hnm : ¬ most < (n : Int) := hp.2.1
 rw [kK, kE]
 clear oK nxt fnd out
 refine mstI yCol_int (mstI (hcl _ _ _ _ _) (mstI yCol_int (mstI yCol_int (mstI hT ⟨rfl, ⟨0, ⟨Nat.zero_le _, λ j hj => absurd hj (Nat.not_lt_zero _)⟩, rfl, rfl, rfl⟩, λ g i hp => ⟨λ h => ?_, λ h => ?_⟩⟩))))
 . have hl := yLtN h
   refine mstI (yInN hl) (mstI yCol_int (mstI (hcl _ _ _ _ _) (mstI hD ⟨λ e => mstI (yInN hl) ?_, λ e => ⟨rfl, i + 1, ⟨hl, λ j hj => ?_⟩, by unfold mNw; omega, rfl, hw i (by omega), rfl⟩⟩)))
   . have e : nwB pk pv T L i = true := e
     have hf := find_range hp.2 e n hl
     exact ⟨by unfold o2K; rw [hf]; rfl, by unfold o2E; rw [hf], rfl⟩
   . rcases Nat.lt_succ_iff_lt_or_eq.1 hj with h | rfl
     . exact hp.2 j h
     . exact e
 have hge := yLtF h
 have hf := find_none (N := n) (λ j hj => hp.2 j (Nat.lt_of_lt_of_le hj hge))
 refine ⟨rfl, ⟨0, ⟨Nat.zero_le _, λ j hj => absurd hj (Nat.not_lt_zero _)⟩, rfl, rfl, rfl⟩, λ g p hq => mstI hi0 ⟨λ h => ?_, λ h => ?_⟩⟩
 . have hl : p < zN T (dqI L 0) := yLtN h
   have step : lkB key hi most n pk T L p = false -> ∃ i' : Nat, prLk key hi most n pk T L i' /\ Nat.succ (mLk T L i') <= mLk T L p /\ true = true /\ yInt i' = yWrap .i64 (yAdd (yInt p) 1) /\ true = true := λ hb => ⟨p + 1, ⟨hl, λ j hj => by
    rcases Nat.lt_succ_iff_lt_or_eq.1 hj with h | rfl
    . exact hq.2 j h
    . exact hb⟩, by unfold mLk; omega, rfl, hw p (by omega), rfl⟩
   have hit : lkB key hi most n pk T L p = true -> o2K key hi most n pk pv T L = zK T (dqI L 0) p /\ o2E key hi most n pk pv T L = 2 /\ true = true := λ hb => by
    have h2 := find_range hq.2 hb _ hl
    exact ⟨by unfold o2K; rw [hf, h2], by unfold o2E; rw [hf, h2], rfl⟩
   refine mstI hi0 (mstI (yInN hl) ⟨λ e1 => ⟨rfl, step ?_⟩, λ e1 => ⟨λ e2 => ⟨rfl, step ?_⟩, λ e2 => ?_⟩⟩)
   . have e1 : zK T (dqI L 0) p < key := of_decide_eq_true e1
     exact decide_eq_false λ h => h.1 (.inl e1)
   . have e2 : hi < zK T (dqI L 0) p := of_decide_eq_true e2
     exact decide_eq_false λ h => h.1 (.inr (.inl e2))
   have e1 : ¬ zK T (dqI L 0) p < key := of_decide_eq_false e1
   have e2 : ¬ hi < zK T (dqI L 0) p := of_decide_eq_false e2
   have rest : ¬ ((n : Int) = most /\ pk (n - 1) < zK T (dqI L 0) p) →
    mst (yCol (CK.int .i64) (dqN L) λ (i : Nat) => AV.y .i64 (zFr T (dqI L i))) (mst (yCol (CK.ls [K1.int .u64, K1.int .u64]) (dqN L) λ (i : Nat) => AV.lst false (zNl T (dqI L i)) 2 (zN T (dqI L i)) (cl2F [Cl2.int .u64 λ (j p : Nat) => zK T (dqI L j) p, Cl2.int .u64 λ (j p : Nat) => zV T (dqI L j) p] i)) (mst (preZ (dqT T L) (dqN L)) ((alwV (dqT T L) (dqN L) (zK T (dqI L 0) (yNat (yInt p))) = true -> mst (yCol (CK.int .u64) n λ (i : Nat) => AV.y .u64 (pk i)) (mst (yCol (CK.int .u64) n λ (i : Nat) => AV.y .u64 (pv i)) (mst (yNle n 1000000) ((yLt (fxI n (keB (λ (i : Nat) => pk i) (zK T (dqI L 0) (yNat (yInt p))))) 0 = true -> o2K key hi most n pk pv T L = zK T (dqI L 0) (yNat (yInt p)) /\ o2E key hi most n pk pv T L = 2 /\ true = true) /\ (yLt (fxI n (keB (λ (i : Nat) => pk i) (zK T (dqI L 0) (yNat (yInt p))))) 0 = false -> true = true /\ ∃ (i' : Nat), prLk key hi most n pk T L i' /\ Nat.succ (mLk T L i') <= mLk T L p /\ true = true /\ yInt i' = yWrap .i64 (yAdd (yInt p) 1) /\ true = true))))) /\ (alwV (dqT T L) (dqN L) (zK T (dqI L 0) (yNat (yInt p))) = false -> true = true /\ ∃ (i' : Nat), prLk key hi most n pk T L i' /\ Nat.succ (mLk T L i') <= mLk T L p /\ true = true /\ yInt i' = yWrap .i64 (yAdd (yInt p) 1) /\ true = true)))) := λ e3 => by
    refine mstI yCol_int (mstI (hcl _ _ _ _ _) (mstI hD ⟨λ e4 => mstI yCol_int (mstI yCol_int (mstI hn ⟨λ e5 => hit ?_, λ e5 => ⟨rfl, step ?_⟩⟩)), λ e4 => ⟨rfl, step ?_⟩⟩))
    . exact decide_eq_true ⟨λ h => h.elim e1 λ h => h.elim e2 e3, e4, of_decide_eq_true e5⟩
    . have e5 : ¬ fxI n (keB pk (zK T (dqI L 0) p)) < 0 := of_decide_eq_false e5
      exact decide_eq_false λ h => e5 h.2.2
    . have e4 : alwV (dqT T L) (dqN L) (zK T (dqI L 0) p) = false := e4
      exact decide_eq_false λ h => by rw [e4] at h; cases h.2.1
   refine ⟨λ e3 => ?_, λ e3 => ?_⟩
   . have e3 : (n : Int) = most := of_decide_eq_true e3
     have hs : yWrap .i64 (ySub (yInt n) 1) = ((n - 1 : Nat) : Int) := by
      show yWrap .i64 ((n : Int) - 1) = _
      rw [wrap64 (by omega) (by omega)]; omega
     rw [hs]
     refine mstI (yInN (show n - 1 < n by omega)) ⟨λ e4 => ⟨rfl, step ?_⟩, λ e4 => ?_⟩
     . have e4 : pk (n - 1) < zK T (dqI L 0) p := of_decide_eq_true e4
       exact decide_eq_false λ h => h.1 (.inr (.inr ⟨e3, e4⟩))
     . have e4 : ¬ pk (n - 1) < zK T (dqI L 0) p := of_decide_eq_false e4
       exact rest λ h => e4 h.2
   . have e3 : ¬ (n : Int) = most := of_decide_eq_false e3
     exact rest λ h => e3 h.1
 . have hge2 : zN T (dqI L 0) <= p := yLtF h
   have h2 := find_none (N := zN T (dqI L 0)) (λ j hj => hq.2 j (Nat.lt_of_lt_of_le hj hge2))
   exact ⟨by unfold o2K; rw [hf, h2], by unfold o2E; rw [hf, h2], rfl⟩
theorem goalOn_tt : (goalOn) = True := goalOn_eq.trans (eq_true goalOn_vc)
theorem goalOn_ok : goalOn := @ft' goalOn goalOn_tt
def fOn (ds : List Dx) : Option (Bool × Dx × List (List Dx)) :=
 match ds with
 | [.l [.v (.y .i64 _), .v (.y .i64 _), .v (.y .i64 _), .v (.y .u64 key), .v (.y .u64 _), .v (.y .u64 hi), .v (.y .i64 most), .v (.y .i64 frm), .v (.y .i64 to), .v (.yb _), .v (.y .i64 _), .v (.y .u64 _), .rows _ q [.int .u64 pk, .int .u64 pv]], .rows _ N [.int .i64 fr, .ls nl n [.int .u64 k, .int .u64 v]]] =>
   some (yAnd (preZ ⟨fr, nl, n, k, v⟩ N) (yAnd (yNlt 0 (dqN (dqL ⟨fr, nl, n, k, v⟩ N frm to N))) (yAnd (yNle q 1000000) (yLe 1 most))), .l [.v (.y .u64 (onK key hi most q pk pv ⟨fr, nl, n, k, v⟩ (dqL ⟨fr, nl, n, k, v⟩ N frm to N))), .v (.y .i64 (onE key hi most q pk pv ⟨fr, nl, n, k, v⟩ (dqL ⟨fr, nl, n, k, v⟩ N frm to N)))], [])
 | _ => none
theorem smOn (hm : Try.prog.follows .mixedOrders = true) (hs : SmOK Try.prog (smL lOn)) : SmCall Try.prog 31 (λ args h => (ctX [sCaP, rSt] (.tup [.sc, .sc]) fOn args h).sel) :=
 ctX_ok hm hs (λ ds r post h => by
  unfold fOn at h
  split at h
  . rename_i id th ok key val hi most frm to ov rk rv nlc q pk pv nil N fr nl n k v
    simp only [sI, Prod.mk.injEq] at h
    obtain ⟨h1, rfl, rfl⟩ := h
    obtain ⟨k1, k2⟩ := yAnd_t.mp h1
    obtain ⟨k2, k3⟩ := yAnd_t.mp k2
    obtain ⟨k3, k4⟩ := yAnd_t.mp k3
    clear h1
    have h2 := @goalOn_ok
    unfold goalOn at h2
    refine ⟨annOn key hi most q pk pv ⟨fr, nl, n, k, v⟩ (dqL ⟨fr, nl, n, k, v⟩ N frm to N), 1000, ?_⟩
    revert k1 k2 k3 k4
    exact @h2 nil N ⟨fr, nl, n, k, v⟩ id th ok key val hi most frm to ov rk rv nlc q pk pv
  . cases h)
abbrev rRl : Sx := .tup [.pl kCl, .sc]
def goalRl : Prop := ∀ (E : EvS) (nil : Bool) (n : Nat), preE E n = true -> wxH Try.prog (smL lRk) (annRk E n) 20 [sEv] [.rows nil n (colsE E)] rRl (dGn E n) []
theorem gBadL {E : EvS} {i n : Nat} (hin : i < n) (h : (gs1 E i (gS E i)).ok = false) (hok : gOk E i = true) : resN E n = 0 /\ resN E n = 0 /\ gOk E n = false := by
 obtain ⟨h1, h2, h3, _⟩ := gBad hin h hok
 exact ⟨h1, h2, h3⟩
def goalRl_1 (E : EvS) (i : Nat) := opI (gN E i) (λ (i_1 : Nat) => eTh E (gEv E i i_1)) (λ (i_1 : Nat) => cOv (gEn E i i_1)) (eTh E (yNat (yInt i)))
def goalRl_2 (i_1 : Nat) (E : EvS) (i : Nat) := yNeq i_1 (yNadd 0 (yNat (opI (gN E i) (λ (i_2 : Nat) => eTh E (gEv E i i_2)) (λ (i_2 : Nat) => cOv (gEn E i i_2)) (eTh E (yNat (yInt i))))))
def goalRl_3 (E : EvS) (i : Nat) := yAnd (yEq (eOk E (gEv E i (yNadd 0 (yNat (goalRl_1 E i))))) (eOk E (yNat (yInt i)))) (yAnd (yEq (eKey E (gEv E i (yNadd 0 (yNat (goalRl_1 E i))))) (eKey E (yNat (yInt i)))) (yAnd (yEq (eVal E (gEv E i (yNadd 0 (yNat (goalRl_1 E i))))) (eVal E (yNat (yInt i)))) (yAnd (yEq (eHi E (gEv E i (yNadd 0 (yNat (goalRl_1 E i))))) (eHi E (yNat (yInt i)))) (yAnd (yEq (eMost E (gEv E i (yNadd 0 (yNat (goalRl_1 E i))))) (eMost E (yNat (yInt i)))) true))))
def goalRl_4 (E : EvS) (i : Nat) := sameRes (eRk E (yNat (yInt i))) (eRv E (yNat (yInt i))) (ePn E (yNat (yInt i))) (λ (i_1 : Nat) => ePk E (yNat (yInt i)) i_1) (λ (i_1 : Nat) => ePv E (yNat (yInt i)) i_1) 0 0 0 (λ (i : Nat) => (0 : Int)) λ (i : Nat) => (0 : Int)
def goalRl_0 (E : EvS) (i : Nat) (n : Nat) := yLt (eTh E (yNat (yInt i))) (0 : Int) = false -> (yLt (eKd E (yNat (yInt i))) (1 : Int) = true -> yNeq (resN E n) (nat_lit 0) = true /\ resN E n = nat_lit 0 /\ gOk E n = false /\ true = true) /\ (yLt (eKd E (yNat (yInt i))) (1 : Int) = false -> (yLt 2 (eKd E (yNat (yInt i))) = true -> yNeq (resN E n) (nat_lit 0) = true /\ resN E n = nat_lit 0 /\ gOk E n = false /\ true = true) /\ (yLt 2 (eKd E (yNat (yInt i))) = false -> mst (yNeq 0 0) (mst (yNeq (gN E i) (gN E i)) (mst (yCol (CK.int .i64) (gN E i) λ (i_1 : Nat) => AV.y .i64 (eId E (gEv E i i_1))) (mst (yCol (CK.int .i64) (gN E i) λ (i_1 : Nat) => AV.y .i64 (eTh E (gEv E i i_1))) (mst (yCol (CK.int .i64) (gN E i) λ (i_1 : Nat) => AV.y .i64 (eOk E (gEv E i i_1))) (mst (yCol (CK.int .u64) (gN E i) λ (i_1 : Nat) => AV.y .u64 (eKey E (gEv E i i_1))) (mst (yCol (CK.int .u64) (gN E i) λ (i_1 : Nat) => AV.y .u64 (eVal E (gEv E i i_1))) (mst (yCol (CK.int .u64) (gN E i) λ (i_1 : Nat) => AV.y .u64 (eHi E (gEv E i i_1))) (mst (yCol (CK.int .i64) (gN E i) λ (i_1 : Nat) => AV.y .i64 (eMost E (gEv E i i_1))) (mst (yCol (CK.int .i64) (gN E i) λ (i_1 : Nat) => AV.y .i64 (eAt E (gEv E i i_1))) (mst (yCol (CK.int .i64) (gN E i) λ (i_1 : Nat) => AV.y .i64 (cTo E (gEn E i i_1))) (mst (yCol CK.bool (gN E i) λ (i_1 : Nat) => AV.yb (cOv (gEn E i i_1))) (mst (yCol (CK.int .i64) (gN E i) λ (i_1 : Nat) => AV.y .i64 (cRk E (gEn E i i_1))) (mst (yCol (CK.int .u64) (gN E i) λ (i_1 : Nat) => AV.y .u64 (cRv E (gEn E i i_1))) (mst (yCol (CK.ls [K1.int .u64, K1.int .u64]) (gN E i) λ (i_1 : Nat) => AV.lst false (cNil E (gEn E i i_1)) 2 (cPn E (gEn E i i_1)) (cl2F [Cl2.int .u64 λ (j : Nat) => cPk E (gEn E i j), Cl2.int .u64 λ (j : Nat) => cPv E (gEn E i j)] i_1)) (mst (yNle (gN E i) 1000000) ((yEq (eKd E (yNat (yInt i))) (1 : Int) = true -> (yLe 0 (goalRl_1 E i) = true -> yNeq (resN E n) (nat_lit 0) = true /\ resN E n = nat_lit 0 /\ gOk E n = false /\ true = true) /\ (yLe 0 (goalRl_1 E i) = false -> (yNot (yEq (eId E (yNat (yInt i))) (yWrap .i64 (yAdd (yInt (gN E i)) 1))) = true -> yNeq (resN E n) (nat_lit 0) = true /\ resN E n = nat_lit 0 /\ gOk E n = false /\ true = true) /\ (yNot (yEq (eId E (yNat (yInt i))) (yWrap .i64 (yAdd (yInt (gN E i)) 1))) = false -> mst (true) ((yNot (rightE (eOk E (yNat (yInt i))) (eMost E (yNat (yInt i)))) = true -> yNeq (resN E n) (nat_lit 0) = true /\ resN E n = nat_lit 0 /\ gOk E n = false /\ true = true) /\ (yNot (rightE (eOk E (yNat (yInt i))) (eMost E (yNat (yInt i)))) = false -> mst (yCol (CK.int .u64) (ePn E (yNat (yInt i))) λ (i_1 : Nat) => AV.y .u64 (ePk E (yNat (yInt i)) i_1)) (mst (yCol (CK.int .u64) (ePn E (yNat (yInt i))) λ (i_1 : Nat) => AV.y .u64 (ePv E (yNat (yInt i)) i_1)) (mst (yNle (ePn E (yNat (yInt i))) 1000000) ((yNot (goalRl_4 E i) = true -> yNeq (resN E n) (nat_lit 0) = true /\ resN E n = nat_lit 0 /\ gOk E n = false /\ true = true) /\ (yNot (goalRl_4 E i) = false -> mst (yNeq (gN E i) (gN E i)) (mst (yGrow (yNadd (gN E i) 1) 120) (true = true /\ ∃ (i' : Nat), prRk E n i' /\ Nat.succ (mGn n i') <= mGn n i /\ true = true /\ yNeq (gN E i') (nat_lit 0) = yAnd (yNeq (gN E i) 0) (yNeq 1 0) /\ nat_lit 0 = nat_lit 0 /\ gN E i' = yNadd (gN E i) 1 /\ yInt i' = yWrap .i64 (yAdd (yInt i) 1) /\ gN E i' = yNadd (gN E i) 1 /\ (∀ (i_1 : Nat), Nat.succ i_1 <= gN E i' -> eId E (gEv E i' i_1) = ySel (yNlt i_1 (gN E i)) (eId E (gEv E i i_1)) (eId E (yNat (yInt i))) /\ eTh E (gEv E i' i_1) = ySel (yNlt i_1 (gN E i)) (eTh E (gEv E i i_1)) (eTh E (yNat (yInt i))) /\ eOk E (gEv E i' i_1) = ySel (yNlt i_1 (gN E i)) (eOk E (gEv E i i_1)) (eOk E (yNat (yInt i))) /\ eKey E (gEv E i' i_1) = ySel (yNlt i_1 (gN E i)) (eKey E (gEv E i i_1)) (eKey E (yNat (yInt i))) /\ eVal E (gEv E i' i_1) = ySel (yNlt i_1 (gN E i)) (eVal E (gEv E i i_1)) (eVal E (yNat (yInt i))) /\ eHi E (gEv E i' i_1) = ySel (yNlt i_1 (gN E i)) (eHi E (gEv E i i_1)) (eHi E (yNat (yInt i))) /\ eMost E (gEv E i' i_1) = ySel (yNlt i_1 (gN E i)) (eMost E (gEv E i i_1)) (eMost E (yNat (yInt i))) /\ eAt E (gEv E i' i_1) = ySel (yNlt i_1 (gN E i)) (eAt E (gEv E i i_1)) (eAt E (yNat (yInt i))) /\ cTo E (gEn E i' i_1) = ySel (yNlt i_1 (gN E i)) (cTo E (gEn E i i_1)) (-1 : Int) /\ cOv (gEn E i' i_1) = ySelB (yNlt i_1 (gN E i)) (cOv (gEn E i i_1)) false /\ cRk E (gEn E i' i_1) = ySel (yNlt i_1 (gN E i)) (cRk E (gEn E i i_1)) 0 /\ cRv E (gEn E i' i_1) = ySel (yNlt i_1 (gN E i)) (cRv E (gEn E i i_1)) 0 /\ (cNil E (gEn E i' i_1) = ySelB (yNlt i_1 (gN E i)) (cNil E (gEn E i i_1)) true /\ cPn E (gEn E i' i_1) = ySelN (yNlt i_1 (gN E i)) (cPn E (gEn E i i_1)) 0 /\ ∀ (i_2 : Nat), Nat.succ i_2 <= cPn E (gEn E i' i_1) -> cPk E (gEn E i' i_1) i_2 = cPk E (gEn E i i_1) i_2 /\ cPv E (gEn E i' i_1) i_2 = cPv E (gEn E i i_1) i_2 /\ True) /\ True) /\ true = true))))))))))) /\ (yEq (eKd E (yNat (yInt i))) (1 : Int) = false -> (yLt (goalRl_1 E i) (0 : Int) = true -> yNeq (resN E n) (nat_lit 0) = true /\ resN E n = nat_lit 0 /\ gOk E n = false /\ true = true) /\ (yLt (goalRl_1 E i) (0 : Int) = false -> mst (yIn (goalRl_1 E i) (gN E i)) (mst (yNlt (yNadd 0 (yNat (goalRl_1 E i))) (gN E i)) ((yNot (yEq (eId E (gEv E i (yNadd 0 (yNat (goalRl_1 E i))))) (eId E (yNat (yInt i)))) = true -> yNeq (resN E n) (nat_lit 0) = true /\ resN E n = nat_lit 0 /\ gOk E n = false /\ true = true) /\ (yNot (yEq (eId E (gEv E i (yNadd 0 (yNat (goalRl_1 E i))))) (eId E (yNat (yInt i)))) = false -> mst (yIn (goalRl_1 E i) (gN E i)) (mst (yNlt (yNadd 0 (yNat (goalRl_1 E i))) (gN E i)) ((yNot (goalRl_3 E i) = true -> yNeq (resN E n) (nat_lit 0) = true /\ resN E n = nat_lit 0 /\ gOk E n = false /\ true = true) /\ (yNot (goalRl_3 E i) = false -> mst (yIn (goalRl_1 E i) (gN E i)) (mst (yNlt (yNadd 0 (yNat (goalRl_1 E i))) (gN E i)) (mst (yIn (goalRl_1 E i) (gN E i)) (mst (yNlt (yNadd 0 (yNat (goalRl_1 E i))) (gN E i)) (mst (yIn (goalRl_1 E i) (gN E i)) (mst (yNlt (yNadd 0 (yNat (goalRl_1 E i))) (gN E i)) (true = true /\ ∃ (i' : Nat), prRk E n i' /\ Nat.succ (mGn n i') <= mGn n i /\ true = true /\ yNeq (gN E i') (nat_lit 0) = yNeq (gN E i) 0 /\ nat_lit 0 = nat_lit 0 /\ gN E i' = gN E i /\ yInt i' = yWrap .i64 (yAdd (yInt i) 1) /\ gN E i' = gN E i /\ (∀ (i_1 : Nat), Nat.succ i_1 <= gN E i' -> eId E (gEv E i' i_1) = eId E (gEv E i i_1) /\ eTh E (gEv E i' i_1) = eTh E (gEv E i i_1) /\ eOk E (gEv E i' i_1) = eOk E (gEv E i i_1) /\ eKey E (gEv E i' i_1) = eKey E (gEv E i i_1) /\ eVal E (gEv E i' i_1) = eVal E (gEv E i i_1) /\ eHi E (gEv E i' i_1) = eHi E (gEv E i i_1) /\ eMost E (gEv E i' i_1) = eMost E (gEv E i i_1) /\ eAt E (gEv E i' i_1) = eAt E (gEv E i i_1) /\ cTo E (gEn E i' i_1) = ySel (goalRl_2 i_1 E i) (eAt E (yNat (yInt i))) (cTo E (gEn E i i_1)) /\ cOv (gEn E i' i_1) = ySelB (goalRl_2 i_1 E i) true (cOv (gEn E i i_1)) /\ cRk E (gEn E i' i_1) = ySel (goalRl_2 i_1 E i) (eRk E (yNat (yInt i))) (cRk E (gEn E i i_1)) /\ cRv E (gEn E i' i_1) = ySel (goalRl_2 i_1 E i) (eRv E (yNat (yInt i))) (cRv E (gEn E i i_1)) /\ (cNil E (gEn E i' i_1) = ySelB (goalRl_2 i_1 E i) (eNil E (yNat (yInt i))) (cNil E (gEn E i i_1)) /\ cPn E (gEn E i' i_1) = ySelN (goalRl_2 i_1 E i) (ePn E (yNat (yInt i))) (cPn E (gEn E i i_1)) /\ ∀ (i_2 : Nat), Nat.succ i_2 <= cPn E (gEn E i' i_1) -> cPk E (gEn E i' i_1) i_2 = ySel (yNeq i_1 (yNadd 0 (yNat (opI (gN E i) (λ (i_3 : Nat) => eTh E (gEv E i i_3)) (λ (i_3 : Nat) => cOv (gEn E i i_3)) (eTh E (yNat (yInt i))))))) (ePk E (yNat (yInt i)) i_2) (cPk E (gEn E i i_1) i_2) /\ cPv E (gEn E i' i_1) i_2 = ySel (yNeq i_1 (yNadd 0 (yNat (opI (gN E i) (λ (i_3 : Nat) => eTh E (gEv E i i_3)) (λ (i_3 : Nat) => cOv (gEn E i i_3)) (eTh E (yNat (yInt i))))))) (ePv E (yNat (yInt i)) i_2) (cPv E (gEn E i i_1) i_2) /\ True) /\ True) /\ true = true))))))))))))))))))))))))))))))))
def goalRlV : Prop := (∀ (E : EvS) (nil : Bool) (n : Nat), preE E n = true -> true = true /\ (∃ (i0 : Nat), prRk E n i0 /\ true = true /\ yNeq (gN E i0) (nat_lit 0) = true /\ gN E i0 = nat_lit 0 /\ yInt i0 = (0 : Int) /\ gN E i0 = nat_lit 0 /\ true = true /\ true = true) /\ ∀ (g : Nat -> AV) (i : Nat), prRk E n i -> (yLt (yInt i) (yInt n) = true -> mst (yIn (yInt i) n) ((yLt (eAt E (yNat (yInt i))) (0 : Int) = true -> yNeq (resN E n) (nat_lit 0) = true /\ resN E n = nat_lit 0 /\ gOk E n = false /\ true = true) /\ (yLt (eAt E (yNat (yInt i))) (0 : Int) = false -> (yLt 0 (yInt i) = true -> mst (yIn (yWrap .i64 (ySub (yInt i) 1)) n) ((yLt (eAt E (yNat (yInt i))) (eAt E (yNat (yWrap .i64 (ySub (yInt i) 1)))) = true -> yNeq (resN E n) (nat_lit 0) = true /\ resN E n = nat_lit 0 /\ gOk E n = false /\ true = true) /\ (yLt (eAt E (yNat (yInt i))) (eAt E (yNat (yWrap .i64 (ySub (yInt i) 1)))) = false -> (yLt (eTh E (yNat (yInt i))) (0 : Int) = true -> yNeq (resN E n) (nat_lit 0) = true /\ resN E n = nat_lit 0 /\ gOk E n = false /\ true = true) /\ (goalRl_0 E i n)))) /\ (yLt 0 (yInt i) = false -> (yLt (eTh E (yNat (yInt i))) (0 : Int) = true -> yNeq (resN E n) (nat_lit 0) = true /\ resN E n = nat_lit 0 /\ gOk E n = false /\ true = true) /\ (goalRl_0 E i n))))) /\ (yLt (yInt i) (yInt n) = false -> yNeq (resN E n) (nat_lit 0) = yNeq (gN E i) 0 /\ resN E n = gN E i /\ yNadd 0 (gN E i) <= gN E i /\ (∀ (i_1 : Nat), Nat.succ i_1 <= resN E n -> eId E (gEv E n i_1) = eId E (gEv E i (yNadd 0 i_1)) /\ eTh E (gEv E n i_1) = eTh E (gEv E i (yNadd 0 i_1)) /\ eOk E (gEv E n i_1) = eOk E (gEv E i (yNadd 0 i_1)) /\ eKey E (gEv E n i_1) = eKey E (gEv E i (yNadd 0 i_1)) /\ eVal E (gEv E n i_1) = eVal E (gEv E i (yNadd 0 i_1)) /\ eHi E (gEv E n i_1) = eHi E (gEv E i (yNadd 0 i_1)) /\ eMost E (gEv E n i_1) = eMost E (gEv E i (yNadd 0 i_1)) /\ eAt E (gEv E n i_1) = eAt E (gEv E i (yNadd 0 i_1)) /\ cTo E (gEn E n i_1) = cTo E (gEn E i (yNadd 0 i_1)) /\ cOv (gEn E n i_1) = cOv (gEn E i (yNadd 0 i_1)) /\ cRk E (gEn E n i_1) = cRk E (gEn E i (yNadd 0 i_1)) /\ cRv E (gEn E n i_1) = cRv E (gEn E i (yNadd 0 i_1)) /\ (cNil E (gEn E n i_1) = cNil E (gEn E i (yNadd 0 i_1)) /\ cPn E (gEn E n i_1) = cPn E (gEn E i (yNadd 0 i_1)) /\ ∀ (i_2 : Nat), Nat.succ i_2 <= cPn E (gEn E n i_1) -> cPk E (gEn E n i_1) i_2 = cPk E (gEn E i (yNadd 0 i_1)) i_2 /\ cPv E (gEn E n i_1) i_2 = cPv E (gEn E i (yNadd 0 i_1)) i_2 /\ True) /\ True) /\ gOk E n = true /\ true = true))
theorem goalRl_eq : goalRl = goalRlV := by kernel_rfl
theorem goalRl_ok : goalRl := by
 refine @kernel_go _ _ goalRl_eq ?_
 unfold goalRlV goalRl_0 goalRl_4 goalRl_3 goalRl_2 goalRl_1
 intro E nil n hpre
 obtain ⟨hn, hp⟩ := of_decide_eq_true hpre
 have hcol : ∀ (m : Nat) (a : Nat -> Bool) (b : Nat -> Nat) (k v : Nat -> Nat -> Int), yCol (.ls [.int .u64, .int .u64]) m (λ i => AV.lst false (a i) 2 (b i) (cl2F [Cl2.int .u64 k, Cl2.int .u64 v] i)) = true := λ m a b k v => yCol_ok.2 λ i _ => List.all_eq_true.2 λ p _ => rfl
 simp only [opI_eq, hcol, vS, forall_const, reduceCtorEq]
 refine ⟨⟨0, ⟨Nat.zero_le _, rfl⟩, rfl, rfl, rfl, rfl⟩, λ _ i hi => ?_⟩
 obtain ⟨hle, hok⟩ := hi
 have hI := gInv E i
 have hN : gN E i <= i := hI.le
 have w0 : yWrap .i64 ((gN E i : Int) + 1) = (gN E i : Int) + 1 := wrap64 (by omega) (by omega)
 have w1 : yWrap .i64 ((i : Int) + 1) = ((i + 1 : Nat) : Int) := by rw [wrap64 (by omega) (by omega)]; omega
 rw [w0]
 simp only [w1]
 have hAt : 0 <= (gS E i).at_ := gAt_nn E i hok
 have hPre : ∀ _ : 0 < (i : Int), yNat (yWrap .i64 ((i : Int) - 1)) = i - 1 /\ (gS E i).at_ = eAt E (i - 1) := λ h0 => by
  refine ⟨by rw [wrap64 (by omega) (by omega)]; unfold yNat; omega, ?_⟩
  obtain ⟨j, rfl⟩ : ∃ j, i = j + 1 := ⟨i - 1, by omega⟩
  exact (gs1_at hok).2
 refine ⟨λ hlt => ⟨λ _ => ⟨λ h0 => ?b1, λ h0 => ⟨λ hi0 => ⟨λ hin2 => ⟨λ h1 => ?b2, λ h1 => ?_⟩, λ h => ?b3⟩, λ hi0 => ?_⟩⟩, λ h => h ⟨by omega, hlt⟩⟩, λ hge => ?b4⟩
 case b1 => exact gBadL (by omega) (gs1_f1 (.inl (by omega))) hok
 case b2 =>
  obtain ⟨e1, e2⟩ := hPre hi0
  rw [e1] at h1
  exact gBadL (by omega) (gs1_f1 (.inl (by omega))) hok
 case b3 =>
  rw [wrap64 (by omega) (by omega)] at h
  exact h (by omega)
 case b4 =>
  obtain rfl : i = n := by omega
  have hr : resN E i = gN E i := by unfold resN; rw [hok]; rfl
  simp only [hr, hok, Nat.zero_add, true_and, and_true, implies_true, Nat.le_refl]
 all_goals
  have h1a : (gS E i).at_ <= eAt E i := by
   first
   | (obtain ⟨e1, e2⟩ := hPre hi0
      rw [e1] at h1
      omega)
   | (have : i = 0 := by omega
      subst this
      exact h0)
  clear hPre hi0 h0
  have hin : i < n := by omega
  have hm : (mGn n (i + 1)).succ <= mGn n i := by unfold mGn; omega
  refine ⟨λ h2 => gBadL hin (gs1_f1 (.inr h2)) hok, λ h2 => ?_⟩
  have h12 : ¬ (eAt E i < (gS E i).at_ ∨ eTh E i < 0) := by omega
  refine ⟨λ h3 => gBadL hin (gs1_f4 h12 (by omega) (by omega)) hok, λ h3 => ⟨λ h4 => gBadL hin (gs1_f4 h12 (by omega) (by omega)) hok, λ h4 => ⟨⟨⟨λ _ => ⟨λ hk => ?_, λ hk => ?_⟩, λ h => by omega⟩, λ h => h rfl⟩, λ h => h rfl⟩⟩⟩
  . refine ⟨λ h5 => ?_, λ h5 => ⟨λ h6 => gBadL hin (gs1_f2 h12 hk (.inr (.inl h6))) hok, λ h6 => ⟨λ h7 => gBadL hin (gs1_f2 h12 hk (.inr (.inr (.inl h7)))) hok, λ h7 => ⟨λ _ => ⟨λ h8 => gBadL hin (gs1_f2 h12 hk (.inr (.inr (.inr h8)))) hok, λ h8 => ⟨⟨λ _ => ?_, λ h => by omega⟩, λ h => h rfl⟩⟩, λ h => by have := hp i hin; omega⟩⟩⟩⟩
    . refine gBadL hin (gs1_f2 h12 hk (.inl ?_)) hok
      show gP E i (eTh E i) = true
      cases hP : gP E i (eTh E i) with
      | true => rfl
      | false => rw [hP] at h5; exact absurd (show (0 : Int) <= -1 from h5) (by decide)
    . have hP : gP E i (eTh E i) = false := by
       cases hP : gP E i (eTh E i) with
       | false => rfl
       | true =>
         rw [hP] at h5
         have h5 : (gS E i).v (eTh E i) < 0 := h5
         have := (hI.v _ hP).1
         omega
      have hne : ¬ ((gS E i).p (eTh E i) = true ∨ eId E i ≠ (gS E i).n + 1 ∨ rightE (eOk E i) (eMost E i) = false ∨ zeroR E i = false) := by
       rintro (h | h | h | h)
       . exact Bool.noConfusion (h.symm.trans hP)
       . exact h h6
       . exact Bool.noConfusion (h.symm.trans h7)
       . exact Bool.noConfusion (h.symm.trans h8)
      have hS := (gS_step hok).trans (gs1_t2 h12 hk hne)
      have eN : gN E (i + 1) = gN E i + 1 := by unfold gN; rw [hS]
      have eEv : ∀ q, gEv E (i + 1) q = if q = gN E i then i else gEv E i q := λ q => by unfold gEv gN; rw [hS]
      have eEn : ∀ q, gEn E (i + 1) q = if q = gN E i then 0 else gEn E i q := λ q => by unfold gEn gN; rw [hS]
      refine ⟨i + 1, ⟨hin, by unfold gOk; rw [hS]⟩, hm, ?_, eN, rfl, eN, λ q hq => ?_⟩
      . rw [eN]
        have e1 : yNeq (gN E i + 1) 0 = false := by simp only [yNeq_f]; omega
        have e2 : yNeq 1 0 = false := rfl
        rw [e1, e2]
        cases yNeq (gN E i) 0 <;> rfl
      . rw [eN] at hq
        rw [eEv, eEn]
        rcases Nat.lt_or_ge q (gN E i) with h | h
        . have hb : yNlt q (gN E i) = true := decide_eq_true h
          rw [if_neg (by omega), if_neg (by omega), hb]
          exact ⟨rfl, rfl, rfl, rfl, rfl, rfl, rfl, rfl, rfl, rfl, rfl, rfl, rfl, rfl, λ _ _ => ⟨rfl, rfl⟩⟩
        . obtain rfl : q = gN E i := by omega
          have hb : yNlt (gN E i) (gN E i) = false := decide_eq_false (by omega)
          rw [if_pos rfl, if_pos rfl, hb]
          exact ⟨rfl, rfl, rfl, rfl, rfl, rfl, rfl, rfl, rfl, rfl, rfl, rfl, rfl, rfl, λ p hp => absurd hp (Nat.not_succ_le_zero p)⟩
  . have hk2 : eKd E i = 2 := by omega
    cases hP : gP E i (eTh E i) with
    | false =>
      exact ⟨λ _ => gBadL hin (gs1_f3 h12 hk hk2 (.inl hP)) hok, λ h => absurd (show (0 : Int) <= -1 from h) (by decide)⟩
    | true =>
      obtain ⟨j0, j1⟩ := hI.v _ hP
      have j0 : 0 <= gV E i (eTh E i) := j0
      have j1 : gV E i (eTh E i) < gN E i := j1
      have j2 : yNat (gV E i (eTh E i)) < gN E i := by unfold yNat; omega
      simp only [cond_true, or_false]
      refine ⟨λ h => by omega, λ _ => ⟨λ _ => ⟨λ _ => ⟨λ h6 => gBadL hin (gs1_f3 h12 hk hk2 (.inr (.inl h6))) hok, λ h6 => ⟨λ _ => ⟨λ _ => ⟨λ h7 => gBadL hin (gs1_f3 h12 hk hk2 (.inr (.inr ?_))) hok, λ h7 => ⟨λ _ => ⟨λ _ => ⟨λ _ => ⟨λ _ => ⟨λ _ => ⟨λ _ => ?_, λ h => ?_⟩, λ h => h ⟨j0, j1⟩⟩, λ h => ?_⟩, λ h => h ⟨j0, j1⟩⟩, λ h => ?_⟩, λ h => h ⟨j0, j1⟩⟩⟩, λ h => ?_⟩, λ h => h ⟨j0, j1⟩⟩⟩, λ h => ?_⟩, λ h => h ⟨j0, j1⟩⟩⟩
      . show sameOp E (gEv E i (yNat (gV E i (eTh E i)))) i = false
        simpa [sameOp, yAnd_f, yEq_f] using h7
      . have hop : sameOp E (gEv E i (yNat (gV E i (eTh E i)))) i = true := by
         simp only [sameOp, yAnd_t, yEq_t]; exact h7
        have hne : ¬ ((gS E i).p (eTh E i) = false ∨ eId E ((gS E i).ev ((gS E i).v (eTh E i)).toNat) ≠ eId E i ∨ sameOp E ((gS E i).ev ((gS E i).v (eTh E i)).toNat) i = false) := by
         rintro (h | h | h)
         . exact Bool.noConfusion (h.symm.trans hP)
         . exact h h6
         . exact Bool.noConfusion (h.symm.trans hop)
        have hS := (gS_step hok).trans (gs1_t3 h12 hk hk2 hne)
        have eN : gN E (i + 1) = gN E i := by unfold gN; rw [hS]
        have eEv : ∀ q, gEv E (i + 1) q = gEv E i q := λ q => by unfold gEv; rw [hS]
        have eEn : ∀ q, gEn E (i + 1) q = if q = yNat (gV E i (eTh E i)) then i + 1 else gEn E i q := λ q => by unfold gEn gV yNat; rw [hS]
        refine ⟨i + 1, ⟨hin, by unfold gOk; rw [hS]; exact hok⟩, hm, by rw [eN], eN, rfl, eN, λ q hq => ?_⟩
        rw [eEv, eEn]
        by_cases h : q = yNat (gV E i (eTh E i))
        . have hb : yNeq q (yNat (gV E i (eTh E i))) = true := decide_eq_true h
          rw [if_pos h, hb]
          exact ⟨rfl, rfl, rfl, rfl, rfl, rfl, rfl, rfl, rfl, rfl, rfl, rfl, rfl, rfl, λ _ _ => ⟨rfl, rfl⟩⟩
        . have hb : yNeq q (yNat (gV E i (eTh E i))) = false := decide_eq_false h
          rw [if_neg h, hb]
          exact ⟨rfl, rfl, rfl, rfl, rfl, rfl, rfl, rfl, rfl, rfl, rfl, rfl, rfl, rfl, λ _ _ => ⟨rfl, rfl⟩⟩
      all_goals omega
theorem smRl (hm : Try.prog.follows .mixedOrders = true) (hs : SmOK Try.prog (smL lRk)) : SmCall Try.prog 20 (λ args h => (ctX [sEv] rRl fRk args h).sel) :=
 ctX_ok hm hs (λ ds r post h => by
  unfold fRk fGn at h
  split at h
  . rename_i nil n kd th id at_ ok key val hi most rk rv nl pn pk pv
    simp only [sI, Prod.mk.injEq] at h
    obtain ⟨h1, rfl, rfl⟩ := h
    refine ⟨annRk ⟨kd, th, id, at_, ok, key, val, hi, most, rk, rv, nl, pn, pk, pv⟩ n, 1000, ?_⟩
    have h2 := @goalRl_ok
    unfold goalRl at h2
    exact @h2 ⟨kd, th, id, at_, ok, key, val, hi, most, rk, rv, nl, pn, pk, pv⟩ nil n h1
  . cases h)
def rcG (E : EvS) (n : Nat) : RcS := ⟨λ j => eId E (gEv E n j), λ j => eTh E (gEv E n j), λ j => eOk E (gEv E n j), λ j => eKey E (gEv E n j), λ j => eVal E (gEv E n j), λ j => eHi E (gEv E n j), λ j => eMost E (gEv E n j), λ j => eAt E (gEv E n j), λ j => cTo E (gEn E n j), λ j => cOv (gEn E n j), λ j => cRk E (gEn E n j), λ j => cRv E (gEn E n j), λ j => cNil E (gEn E n j), λ j => cPn E (gEn E n j), λ j p => cPk E (gEn E n j) p, λ j p => cPv E (gEn E n j) p⟩
def rzT (C : RcS) (N : Nat) (S : StS) (m : Nat) : TtS := ⟨dFr C N S m, λ q => yNeq (dN C N S m q) 0, dN C N S m, dK C N S m, dV C N S m⟩
def rzN (C : RcS) (N : Nat) (S : StS) (m : Nat) : Nat := yNadd (dC C N S m) 1
def rzA (C : RcS) (N : Nat) (S : StS) (m j : Nat) : List Nat := dqL (rzT C N S m) (rzN C N S m) (qFr C j) (qTo C j) (rzN C N S m)
def rzK (C : RcS) (N : Nat) (S : StS) (m j : Nat) : Int := onK (qKey C j) (qHi C j) (qMost C j) (qPn C j) (qPk C j) (qPv C j) (rzT C N S m) (rzA C N S m j)
def rzE (C : RcS) (N : Nat) (S : StS) (m j : Nat) : Int := onE (qKey C j) (qHi C j) (qMost C j) (qPn C j) (qPk C j) (qPv C j) (rzT C N S m) (rzA C N S m j)
def dxB (C : RcS) (N : Nat) (x : Int) : Bool := decide (1 <= x /\ x <= (N : Int) /\ qOk C (x.toNat - 1) = 4 /\ qOv C (x.toNat - 1) = true)
def kdK (E : EvS) (n : Nat) (S : StS) (m : Nat) (x : Int) : Int := if gOk E n = true then (if dxB (rcG E n) (resN E n) x = true then rzK (rcG E n) (resN E n) S m (x.toNat - 1) else 0) else 0
def kdE (E : EvS) (n : Nat) (S : StS) (m : Nat) (x : Int) : Int := if gOk E n = true then (if dxB (rcG E n) (resN E n) x = true then rzE (rcG E n) (resN E n) S m (x.toNat - 1) else 7) else 4
def dfB (C : RcS) (N : Nat) (S : StS) (m j : Nat) : Bool := yAnd (yEq (qOk C j) 4) (yAnd (qOv C j) (yNot (yEq (rzE C N S m j) 0)))
def kdI (E : EvS) (n : Nat) (S : StS) (m : Nat) : Int := if gOk E n = true then (match (List.range (resN E n)).find? (dfB (rcG E n) (resN E n) S m) with | some j => eId E (gEv E n j) | none => 0) else 0
def kdF (E : EvS) (n : Nat) (S : StS) (m : Nat) : Int := if gOk E n = true then (match (List.range (resN E n)).find? (dfB (rcG E n) (resN E n) S m) with | some j => rzE (rcG E n) (resN E n) S m j | none => 0) else 4
def annKd (E : EvS) (n : Nat) (S : StS) (m : Nat) (b : Nat) : Option (St -> LoopA) :=
 match b with
 | 0 => some λ _ => { ι := Nat, tms := [9], tmU := λ i => [.y .i64 (yInt i)], ids := [], hpU := λ _ => [], del := [], ex := 0, pre := prKc (resN E n) (dfB (rcG E n) (resN E n) S m), ms := mKc (resN E n) }
 | _ => none
def lKd : List (Nat × Sm) := [(20, .ct (ctX [sEv] rRl fRk)), (32, .ct (ctX [sRp, sSts] rSt fDt)), (31, .ct (ctX [sCaP, rSt] (.tup [.sc, .sc]) fOn))]
def goalKd : Prop := ∀ (E : EvS) (nil : Bool) (n : Nat) (S : StS) (nilS : Bool) (m : Nat) (x : Int), preE E n = true -> wfE E n = true -> preT S m = true →
 wxH Try.prog (smL lKd) (λ _ => none) 12 [sEv, sSts, .sc] [.rows nil n (colsE E), .rows nilS m (colsS S), .v (.y .i64 x)] (.tup [.sc, .sc]) (.l [.v (.y .u64 (kdK E n S m x)), .v (.y .i64 (kdE E n S m x))]) []
def goalKg : Prop := ∀ (E : EvS) (nil : Bool) (n : Nat) (S : StS) (nilS : Bool) (m : Nat), preE E n = true -> wfE E n = true -> preT S m = true →
 wxH Try.prog (smL lKd) (annKd E n S m) 14 [sEv, sSts] [.rows nil n (colsE E), .rows nilS m (colsS S)] (.tup [.sc, .sc]) (.l [.v (.y .i64 (kdI E n S m)), .v (.y .i64 (kdF E n S m))]) []
theorem gIaS (E : EvS) : ∀ i, 0 <= (gS E i).at_ /\ ∀ j, j < (gS E i).n -> eId E ((gS E i).ev j) = (j : Int) + 1 /\ 0 <= eAt E ((gS E i).ev j)
 | 0 => ⟨Int.le_refl 0, λ j hj => absurd hj (Nat.not_lt_zero _)⟩
 | i + 1 => by
   obtain ⟨ih1, ih2⟩ := gIaS E i
   show 0 <= (bif (gS E i).ok then gs1 E i (gS E i) else gS E i).at_ /\ ∀ j, j < (bif (gS E i).ok then gs1 E i (gS E i) else gS E i).n -> eId E ((bif (gS E i).ok then gs1 E i (gS E i) else gS E i).ev j) = (j : Int) + 1 /\ 0 <= eAt E ((bif (gS E i).ok then gs1 E i (gS E i) else gS E i).ev j)
   cases hok : (gS E i).ok with
   | false => exact ⟨ih1, ih2⟩
   | true =>
     rw [cond_true]
     rcases gs1_cases E i (gS E i) with h | ⟨h2, h1, h3⟩ | ⟨h3, h1, h4⟩
     . rw [h]; exact ⟨ih1, ih2⟩
     . rw [gs1_t2 h1 h2 h3]
       have ha : 0 <= eAt E i := by omega
       refine ⟨ha, λ j hj => ?_⟩
       show eId E (if j = (gS E i).n then i else (gS E i).ev j) = (j : Int) + 1 /\ 0 <= eAt E (if j = (gS E i).n then i else (gS E i).ev j)
       by_cases hjn : j = (gS E i).n
       . rw [if_pos hjn]
         have he : eId E i = ((gS E i).n : Int) + 1 := by
          by_cases h : eId E i = ((gS E i).n : Int) + 1
          . exact h
          . exact absurd (.inr (.inl h)) h3
         exact ⟨by rw [he, hjn], ha⟩
       . rw [if_neg hjn]
         have hj : j < (gS E i).n + 1 := hj
         exact ih2 j (by omega)
     . rw [gs1_t3 h1 (by omega) h3 h4]
       exact ⟨show 0 <= eAt E i by omega, ih2⟩
theorem gIa {E : EvS} {n j : Nat} (h : j < resN E n) : eId E (gEv E n j) = (j : Int) + 1 /\ 0 <= eAt E (gEv E n j) := by
 refine (gIaS E n).2 j ?_
 unfold resN at h
 cases hk : gOk E n <;> rw [hk] at h
 . exact absurd h (Nat.not_lt_zero _)
 . exact h
theorem du_spec (T : TtS) (a : Int) : ∀ N, 0 < N -> zFr T 0 <= a -> zFr T (duF T N a) <= a /\ ∀ q, duF T N a < q -> q < N -> ¬ zFr T q <= a
 | 0, h, _ => absurd h (Nat.lt_irrefl _)
 | N + 1, _, h0 => by
   rw [duF_step]
   by_cases hN : 0 < N
   . obtain ⟨h1, h2⟩ := du_spec T a N hN h0
     by_cases h : zFr T N <= a
     . rw [if_pos h]; exact ⟨h, λ q hq hq2 => by omega⟩
     . rw [if_neg h]
       refine ⟨h1, λ q hq hq2 => ?_⟩
       rcases Nat.lt_succ_iff_lt_or_eq.1 hq2 with h3 | rfl
       . exact h2 q hq h3
       . exact h
   . obtain rfl : N = 0 := by omega
     rw [if_pos h0]; exact ⟨h0, λ q hq hq2 => by omega⟩
theorem dq_pos {T : TtS} {N : Nat} {fr to : Int} (hN : 0 < N) (h0 : zFr T 0 <= fr) : yNlt 0 (dqN (dqL T N fr to N)) = true := by
 obtain ⟨h1, h2⟩ := du_spec T fr N hN h0
 refine decide_eq_true (List.length_pos_of_mem (a := duF T N fr) (List.mem_filter.2 ⟨List.mem_range.2 (duF_lt T fr N hN), decide_eq_true ⟨λ h => ?_, .inl h1⟩⟩))
 exact h2 _ (Nat.lt_succ_self _) h.1 h.2
theorem preQ_rc {E : EvS} {n : Nat} (hpre : preE E n = true) : preQ (rcG E n) (resN E n) = true :=
 decide_eq_true ⟨gInjR hpre, λ j hj => ⟨(gIa hj).1, show cPn E (gEn E n j) <= 1000000 by have := cPn_le hpre j; omega⟩⟩
theorem preZ_rz (C : RcS) (N : Nat) {S : StS} {m : Nat} (hT : preT S m = true) : preZ (rzT C N S m) (yNadd (dC C N S m) 1) = true := by
 obtain ⟨hm, _⟩ := of_decide_eq_true hT
 have h1 := dC_le C N S m
 refine decide_eq_true ⟨show dC C N S m + 1 <= 1000 by omega, λ q hq => ?_⟩
 have h2 : dN C N S m q <= q := (dInv C N S m q).2
 have hq : q < dC C N S m + 1 := hq
 show dN C N S m q <= 1000000
 omega
theorem pre_on {E : EvS} {n i : Nat} {S : StS} {m : Nat} (hpre : preE E n = true) (hT : preT S m = true) (hl : i < resN E n) (h4 : yEq (eOk E (gEv E n i)) 4 = true) :
 yAnd (preZ (rzT (rcG E n) (resN E n) S m) (yNadd (dC (rcG E n) (resN E n) S m) 1)) (yAnd (yNlt 0 (dqN (dqL (rzT (rcG E n) (resN E n) S m) (yNadd (dC (rcG E n) (resN E n) S m) 1) (eAt E (gEv E n i)) (cTo E (gEn E n i)) (yNadd (dC (rcG E n) (resN E n) S m) 1)))) (yAnd (yNle (cPn E (gEn E n i)) 1000000) (yLe 1 (eMost E (gEv E n i))))) = true := by
 rw [preZ_rz _ _ hT, (sc_right hl h4).2, dq_pos (show 0 < yNadd _ 1 from Nat.succ_pos _) (show (0 : Int) <= _ from (gIa hl).2), show yNle (cPn E (gEn E n i)) 1000000 = true from decide_eq_true (by have := cPn_le hpre i; omega)]
 rfl
def goalKd_0 (E : EvS) (n : Nat) (S : StS) (m : Nat) (x : Int) := dqL (rzT (rcG E n) (resN E n) S m) (yNadd (dC (rcG E n) (resN E n) S m) 1) (eAt E (gEv E n (yNat (yWrap .i64 (ySub x 1))))) (cTo E (gEn E n (yNat (yWrap .i64 (ySub x 1))))) (yNadd (dC (rcG E n) (resN E n) S m) 1)
def goalKdV : Prop := (∀ (E : EvS) (nil : Bool) (n : Nat) (S : StS) (nilS : Bool) (m : Nat) (x : Int), preE E n = true -> wfE E n = true -> preT S m = true -> mst (yCol (CK.int .i64) n λ (i : Nat) => AV.y .i64 (eKd E i)) (mst (yCol (CK.int .i64) n λ (i : Nat) => AV.y .i64 (eTh E i)) (mst (yCol (CK.int .i64) n λ (i : Nat) => AV.y .i64 (eId E i)) (mst (yCol (CK.int .i64) n λ (i : Nat) => AV.y .i64 (eAt E i)) (mst (yCol (CK.int .i64) n λ (i : Nat) => AV.y .i64 (eOk E i)) (mst (yCol (CK.int .u64) n λ (i : Nat) => AV.y .u64 (eKey E i)) (mst (yCol (CK.int .u64) n λ (i : Nat) => AV.y .u64 (eVal E i)) (mst (yCol (CK.int .u64) n λ (i : Nat) => AV.y .u64 (eHi E i)) (mst (yCol (CK.int .i64) n λ (i : Nat) => AV.y .i64 (eMost E i)) (mst (yCol (CK.int .i64) n λ (i : Nat) => AV.y .i64 (eRk E i)) (mst (yCol (CK.int .u64) n λ (i : Nat) => AV.y .u64 (eRv E i)) (mst (yCol (CK.ls [K1.int .u64, K1.int .u64]) n λ (i : Nat) => AV.lst false (eNil E i) 2 (ePn E i) (cl2F [Cl2.int .u64 (ePk E), Cl2.int .u64 (ePv E)] i)) (mst (preE E n) ((gOk E n = true -> (yLt x (1 : Int) = true -> kdK E n S m x = (0 : Int) /\ kdE E n S m x = (7 : Int) /\ true = true) /\ (yLt x (1 : Int) = false -> (yLt (yInt (resN E n)) x = true -> kdK E n S m x = (0 : Int) /\ kdE E n S m x = (7 : Int) /\ true = true) /\ (yLt (yInt (resN E n)) x = false -> mst (yIn (yWrap .i64 (ySub x 1)) (resN E n)) ((yNot (yEq (eOk E (gEv E n (yNat (yWrap .i64 (ySub x 1))))) 4) = true -> kdK E n S m x = (0 : Int) /\ kdE E n S m x = (7 : Int) /\ true = true) /\ (yNot (yEq (eOk E (gEv E n (yNat (yWrap .i64 (ySub x 1))))) 4) = false -> mst (yIn (yWrap .i64 (ySub x 1)) (resN E n)) ((yNot (cOv (gEn E n (yNat (yWrap .i64 (ySub x 1))))) = true -> kdK E n S m x = (0 : Int) /\ kdE E n S m x = (7 : Int) /\ true = true) /\ (yNot (cOv (gEn E n (yNat (yWrap .i64 (ySub x 1))))) = false -> mst (yIn (yWrap .i64 (ySub x 1)) (resN E n)) (mst (yCol (CK.int .i64) (resN E n) λ (i : Nat) => AV.y .i64 (eId E (gEv E n i))) (mst (yCol (CK.int .i64) (resN E n) λ (i : Nat) => AV.y .i64 (eTh E (gEv E n i))) (mst (yCol (CK.int .i64) (resN E n) λ (i : Nat) => AV.y .i64 (eOk E (gEv E n i))) (mst (yCol (CK.int .u64) (resN E n) λ (i : Nat) => AV.y .u64 (eKey E (gEv E n i))) (mst (yCol (CK.int .u64) (resN E n) λ (i : Nat) => AV.y .u64 (eVal E (gEv E n i))) (mst (yCol (CK.int .u64) (resN E n) λ (i : Nat) => AV.y .u64 (eHi E (gEv E n i))) (mst (yCol (CK.int .i64) (resN E n) λ (i : Nat) => AV.y .i64 (eMost E (gEv E n i))) (mst (yCol (CK.int .i64) (resN E n) λ (i : Nat) => AV.y .i64 (eAt E (gEv E n i))) (mst (yCol (CK.int .i64) (resN E n) λ (i : Nat) => AV.y .i64 (cTo E (gEn E n i))) (mst (yCol CK.bool (resN E n) λ (i : Nat) => AV.yb (cOv (gEn E n i))) (mst (yCol (CK.int .i64) (resN E n) λ (i : Nat) => AV.y .i64 (cRk E (gEn E n i))) (mst (yCol (CK.int .u64) (resN E n) λ (i : Nat) => AV.y .u64 (cRv E (gEn E n i))) (mst (yCol (CK.ls [K1.int .u64, K1.int .u64]) (resN E n) λ (i : Nat) => AV.lst false (cNil E (gEn E n i)) 2 (cPn E (gEn E n i)) (cl2F [Cl2.int .u64 λ (j : Nat) => cPk E (gEn E n j), Cl2.int .u64 λ (j : Nat) => cPv E (gEn E n j)] i)) (mst (yCol (CK.int .i64) m λ (i : Nat) => AV.y .i64 (sTh S i)) (mst (yCol (CK.int .i64) m λ (i : Nat) => AV.y .i64 (sAk S i)) (mst (yCol (CK.int .i64) m λ (i : Nat) => AV.y .i64 (sAt S i)) (mst (yCol (CK.int .u64) m λ (i : Nat) => AV.y .u64 (sOld S i)) (mst (yCol (CK.int .u64) m λ (i : Nat) => AV.y .u64 (sNew S i)) (mst (yCol (CK.int .u64) m λ (i : Nat) => AV.y .u64 (sGot S i)) (mst (yCol (CK.ls [K1.int .i64, K1.int .u64, K1.int .u64]) m λ (i : Nat) => AV.lst false (sNil S i) 3 (sMn S i) (cl2F [Cl2.int .i64 (sMk S), Cl2.int .u64 (sMa S), Cl2.int .u64 (sMb S)] i)) (mst (yAnd (preQ (rcG E n) (resN E n)) (preT S m)) (mst (yCol (CK.int .u64) (cPn E (gEn E n (yNat (yWrap .i64 (ySub x 1))))) λ (i : Nat) => AV.y .u64 (cPk E (gEn E n (yNat (yWrap .i64 (ySub x 1)))) i)) (mst (yCol (CK.int .u64) (cPn E (gEn E n (yNat (yWrap .i64 (ySub x 1))))) λ (i : Nat) => AV.y .u64 (cPv E (gEn E n (yNat (yWrap .i64 (ySub x 1)))) i)) (mst (yCol (CK.int .i64) (yNadd (dC (rcG E n) (resN E n) S m) 1) λ (i : Nat) => AV.y .i64 (dFr (rcG E n) (resN E n) S m i)) (mst (yCol (CK.ls [K1.int .u64, K1.int .u64]) (yNadd (dC (rcG E n) (resN E n) S m) 1) λ (i : Nat) => AV.lst false (yNeq (dN (rcG E n) (resN E n) S m i) 0) 2 (dN (rcG E n) (resN E n) S m i) (cl2F [Cl2.int .u64 (dK (rcG E n) (resN E n) S m), Cl2.int .u64 (dV (rcG E n) (resN E n) S m)] i)) (mst (yAnd (preZ (rzT (rcG E n) (resN E n) S m) (yNadd (dC (rcG E n) (resN E n) S m) 1)) (yAnd (yNlt 0 (dqN (goalKd_0 E n S m x))) (yAnd (yNle (cPn E (gEn E n (yNat (yWrap .i64 (ySub x 1))))) 1000000) (yLe 1 (eMost E (gEv E n (yNat (yWrap .i64 (ySub x 1))))))))) (kdK E n S m x = onK (eKey E (gEv E n (yNat (yWrap .i64 (ySub x 1))))) (eHi E (gEv E n (yNat (yWrap .i64 (ySub x 1))))) (eMost E (gEv E n (yNat (yWrap .i64 (ySub x 1))))) (cPn E (gEn E n (yNat (yWrap .i64 (ySub x 1))))) (λ (i : Nat) => cPk E (gEn E n (yNat (yWrap .i64 (ySub x 1)))) i) (λ (i : Nat) => cPv E (gEn E n (yNat (yWrap .i64 (ySub x 1)))) i) (rzT (rcG E n) (resN E n) S m) (goalKd_0 E n S m x) /\ kdE E n S m x = onE (eKey E (gEv E n (yNat (yWrap .i64 (ySub x 1))))) (eHi E (gEv E n (yNat (yWrap .i64 (ySub x 1))))) (eMost E (gEv E n (yNat (yWrap .i64 (ySub x 1))))) (cPn E (gEn E n (yNat (yWrap .i64 (ySub x 1))))) (λ (i : Nat) => cPk E (gEn E n (yNat (yWrap .i64 (ySub x 1)))) i) (λ (i : Nat) => cPv E (gEn E n (yNat (yWrap .i64 (ySub x 1)))) i) (rzT (rcG E n) (resN E n) S m) (goalKd_0 E n S m x) /\ true = true)))))))))))))))))))))))))))))))))) /\ (gOk E n = false -> kdK E n S m x = (0 : Int) /\ kdE E n S m x = (4 : Int) /\ true = true)))))))))))))))
theorem goalKd_eq : goalKd = goalKdV := by kernel_rfl
set_option maxHeartbeats 8000000 in
theorem goalKd_vc : goalKdV := by
 unfold goalKdV goalKd_0
 intro E nil n S nilS m x hpre hwf hT
 have hcol : ∀ m, (yCol (CK.ls [K1.int .u64, K1.int .u64]) m λ (i : Nat) => AV.lst false (eNil E i) 2 (ePn E i) (cl2F [Cl2.int .u64 (ePk E), Cl2.int .u64 (ePv E)] i)) = true := λ m => yCol_ok.2 λ i _ => List.all_eq_true.2 λ p _ => rfl
 have hR := gInjR hpre
 iterate 11 refine mstI yCol_int ?_
 refine mstI (hcol _) (mstI hpre ?_)
 cases hok : gOk E n with
 | false =>
   have k1 : kdK E n S m x = 0 := if_neg (by rw [hok]; simp)
   have k2 : kdE E n S m x = 4 := if_neg (by rw [hok]; simp)
   exact fork_f rfl ⟨k1, k2, rfl⟩
 | true =>
 have no : dxB (rcG E n) (resN E n) x = false -> kdK E n S m x = 0 /\ kdE E n S m x = 7 /\ true = true := λ h => by
  unfold kdK kdE
  rw [if_pos hok, if_pos hok, h]; exact ⟨rfl, rfl, rfl⟩
 refine fork_t rfl ⟨λ h => no (decide_eq_false λ e => ?_), λ h => ⟨λ h2 => no (decide_eq_false λ e => ?_), λ h2 => ?_⟩⟩
 . have h : x < 1 := of_decide_eq_true h
   omega
 . have h2 : (resN E n : Int) < x := of_decide_eq_true h2
   omega
 have h : ¬ x < 1 := of_decide_eq_false h
 have h2 : ¬ (resN E n : Int) < x := of_decide_eq_false h2
 obtain ⟨j, rfl⟩ : ∃ j : Nat, x = (j : Int) + 1 := ⟨(x - 1).toNat, by omega⟩
 have hj : j < resN E n := by omega
 have hw : yWrap .i64 (ySub ((j : Int) + 1) 1) = (j : Int) := by
  show yWrap .i64 ((j : Int) + 1 - 1) = _
  rw [wrap64 (by omega) (by omega)]; omega
 have hs : ((j : Int) + 1).toNat - 1 = j := by omega
 rw [hw]
 have hin : yIn (j : Int) (resN E n) = true := yInN hj
 refine mstI hin ⟨λ e => no (decide_eq_false λ d => ?_), λ e => mstI hin ⟨λ e2 => no (decide_eq_false λ d => ?_), λ e2 => mstI hin ?_⟩⟩
 . rw [hs] at d
   have d : eOk E (gEv E n j) = 4 := d.2.2.1
   have e : yNot (yEq (eOk E (gEv E n j)) 4) = true := e
   rw [show yEq (eOk E (gEv E n j)) 4 = true from decide_eq_true d] at e; cases e
 . rw [hs] at d
   have d : cOv (gEn E n j) = true := d.2.2.2
   have e2 : yNot (cOv (gEn E n j)) = true := e2
   rw [d] at e2; cases e2
 iterate 9 refine mstI yCol_int ?_
 refine mstI (yCol_ok.2 λ i _ => rfl) (mstI yCol_int (mstI yCol_int (mstI (yCol_ok.2 λ i _ => List.all_eq_true.2 λ p _ => rfl) ?_)))
 iterate 6 refine mstI yCol_int ?_
 have h4 : yEq (eOk E (gEv E n j)) 4 = true := by
  have e : yNot (yEq (eOk E (gEv E n j)) 4) = false := e
  cases h : yEq (eOk E (gEv E n j)) 4 with
  | true => rfl
  | false => rw [h] at e; cases e
 have h5 : cOv (gEn E n j) = true := by
  have e2 : yNot (cOv (gEn E n j)) = false := e2
  cases h : cOv (gEn E n j) with
  | true => rfl
  | false => rw [h] at e2; cases e2
 refine mstI (yCol_ok.2 λ i _ => List.all_eq_true.2 λ p _ => rfl) (mstI (by rw [preQ_rc hpre, hT]; rfl) (mstI yCol_int (mstI yCol_int (mstI yCol_int (mstI (yCol_ok.2 λ i _ => List.all_eq_true.2 λ p _ => rfl) (mstI (pre_on hpre hT hj h4) ?_))))))
 have hd : dxB (rcG E n) (resN E n) ((j : Int) + 1) = true := decide_eq_true ⟨by omega, by omega, by rw [hs]; exact of_decide_eq_true h4, by rw [hs]; exact h5⟩
 have k1 : kdK E n S m ((j : Int) + 1) = rzK (rcG E n) (resN E n) S m j := by unfold kdK; rw [if_pos hok, if_pos hd, hs]
 have k2 : kdE E n S m ((j : Int) + 1) = rzE (rcG E n) (resN E n) S m j := by unfold kdE; rw [if_pos hok, if_pos hd, hs]
 exact ⟨k1, k2, rfl⟩
theorem goalKd_tt : (goalKd) = True := goalKd_eq.trans (eq_true goalKd_vc)
theorem goalKd_ok : goalKd := @ft' goalKd goalKd_tt
def goalKg_0 (E : EvS) (n : Nat) (S : StS) (m : Nat) (i : Nat) := dqL (rzT (rcG E n) (resN E n) S m) (yNadd (dC (rcG E n) (resN E n) S m) 1) (eAt E (gEv E n (yNat (yInt i)))) (cTo E (gEn E n (yNat (yInt i)))) (yNadd (dC (rcG E n) (resN E n) S m) 1)
def goalKg_1 (E : EvS) (n : Nat) (i : Nat) (S : StS) (m : Nat) := yEq (onE (eKey E (gEv E n (yNat (yInt i)))) (eHi E (gEv E n (yNat (yInt i)))) (eMost E (gEv E n (yNat (yInt i)))) (cPn E (gEn E n (yNat (yInt i)))) (λ (i_1 : Nat) => cPk E (gEn E n (yNat (yInt i))) i_1) (λ (i_1 : Nat) => cPv E (gEn E n (yNat (yInt i))) i_1) (rzT (rcG E n) (resN E n) S m) (goalKg_0 E n S m i)) 0
def goalKgV : Prop := (∀ (E : EvS) (nil : Bool) (n : Nat) (S : StS) (nilS : Bool) (m : Nat), preE E n = true -> wfE E n = true -> preT S m = true -> mst (yCol (CK.int .i64) n λ (i : Nat) => AV.y .i64 (eKd E i)) (mst (yCol (CK.int .i64) n λ (i : Nat) => AV.y .i64 (eTh E i)) (mst (yCol (CK.int .i64) n λ (i : Nat) => AV.y .i64 (eId E i)) (mst (yCol (CK.int .i64) n λ (i : Nat) => AV.y .i64 (eAt E i)) (mst (yCol (CK.int .i64) n λ (i : Nat) => AV.y .i64 (eOk E i)) (mst (yCol (CK.int .u64) n λ (i : Nat) => AV.y .u64 (eKey E i)) (mst (yCol (CK.int .u64) n λ (i : Nat) => AV.y .u64 (eVal E i)) (mst (yCol (CK.int .u64) n λ (i : Nat) => AV.y .u64 (eHi E i)) (mst (yCol (CK.int .i64) n λ (i : Nat) => AV.y .i64 (eMost E i)) (mst (yCol (CK.int .i64) n λ (i : Nat) => AV.y .i64 (eRk E i)) (mst (yCol (CK.int .u64) n λ (i : Nat) => AV.y .u64 (eRv E i)) (mst (yCol (CK.ls [K1.int .u64, K1.int .u64]) n λ (i : Nat) => AV.lst false (eNil E i) 2 (ePn E i) (cl2F [Cl2.int .u64 (ePk E), Cl2.int .u64 (ePv E)] i)) (mst (preE E n) ((gOk E n = true -> mst (yCol (CK.int .i64) (resN E n) λ (i : Nat) => AV.y .i64 (eId E (gEv E n i))) (mst (yCol (CK.int .i64) (resN E n) λ (i : Nat) => AV.y .i64 (eTh E (gEv E n i))) (mst (yCol (CK.int .i64) (resN E n) λ (i : Nat) => AV.y .i64 (eOk E (gEv E n i))) (mst (yCol (CK.int .u64) (resN E n) λ (i : Nat) => AV.y .u64 (eKey E (gEv E n i))) (mst (yCol (CK.int .u64) (resN E n) λ (i : Nat) => AV.y .u64 (eVal E (gEv E n i))) (mst (yCol (CK.int .u64) (resN E n) λ (i : Nat) => AV.y .u64 (eHi E (gEv E n i))) (mst (yCol (CK.int .i64) (resN E n) λ (i : Nat) => AV.y .i64 (eMost E (gEv E n i))) (mst (yCol (CK.int .i64) (resN E n) λ (i : Nat) => AV.y .i64 (eAt E (gEv E n i))) (mst (yCol (CK.int .i64) (resN E n) λ (i : Nat) => AV.y .i64 (cTo E (gEn E n i))) (mst (yCol CK.bool (resN E n) λ (i : Nat) => AV.yb (cOv (gEn E n i))) (mst (yCol (CK.int .i64) (resN E n) λ (i : Nat) => AV.y .i64 (cRk E (gEn E n i))) (mst (yCol (CK.int .u64) (resN E n) λ (i : Nat) => AV.y .u64 (cRv E (gEn E n i))) (mst (yCol (CK.ls [K1.int .u64, K1.int .u64]) (resN E n) λ (i : Nat) => AV.lst false (cNil E (gEn E n i)) 2 (cPn E (gEn E n i)) (cl2F [Cl2.int .u64 λ (j : Nat) => cPk E (gEn E n j), Cl2.int .u64 λ (j : Nat) => cPv E (gEn E n j)] i)) (mst (yCol (CK.int .i64) m λ (i : Nat) => AV.y .i64 (sTh S i)) (mst (yCol (CK.int .i64) m λ (i : Nat) => AV.y .i64 (sAk S i)) (mst (yCol (CK.int .i64) m λ (i : Nat) => AV.y .i64 (sAt S i)) (mst (yCol (CK.int .u64) m λ (i : Nat) => AV.y .u64 (sOld S i)) (mst (yCol (CK.int .u64) m λ (i : Nat) => AV.y .u64 (sNew S i)) (mst (yCol (CK.int .u64) m λ (i : Nat) => AV.y .u64 (sGot S i)) (mst (yCol (CK.ls [K1.int .i64, K1.int .u64, K1.int .u64]) m λ (i : Nat) => AV.lst false (sNil S i) 3 (sMn S i) (cl2F [Cl2.int .i64 (sMk S), Cl2.int .u64 (sMa S), Cl2.int .u64 (sMb S)] i)) (mst (yAnd (preQ (rcG E n) (resN E n)) (preT S m)) (true = true /\ (∃ (i0 : Nat), prKc (resN E n) (dfB (rcG E n) (resN E n) S m) i0 /\ true = true /\ yInt i0 = (0 : Int) /\ true = true) /\ ∀ (g : Nat -> AV) (i : Nat), prKc (resN E n) (dfB (rcG E n) (resN E n) S m) i -> (yLt (yInt i) (yInt (resN E n)) = true -> mst (yIn (yInt i) (resN E n)) ((yEq (eOk E (gEv E n (yNat (yInt i)))) (4 : Int) = true -> mst (yIn (yInt i) (resN E n)) ((cOv (gEn E n (yNat (yInt i))) = true -> mst (yIn (yInt i) (resN E n)) (mst (yCol (CK.int .u64) (cPn E (gEn E n (yNat (yInt i)))) λ (i_1 : Nat) => AV.y .u64 (cPk E (gEn E n (yNat (yInt i))) i_1)) (mst (yCol (CK.int .u64) (cPn E (gEn E n (yNat (yInt i)))) λ (i_1 : Nat) => AV.y .u64 (cPv E (gEn E n (yNat (yInt i))) i_1)) (mst (yCol (CK.int .i64) (yNadd (dC (rcG E n) (resN E n) S m) 1) λ (i : Nat) => AV.y .i64 (dFr (rcG E n) (resN E n) S m i)) (mst (yCol (CK.ls [K1.int .u64, K1.int .u64]) (yNadd (dC (rcG E n) (resN E n) S m) 1) λ (i : Nat) => AV.lst false (yNeq (dN (rcG E n) (resN E n) S m i) 0) 2 (dN (rcG E n) (resN E n) S m i) (cl2F [Cl2.int .u64 (dK (rcG E n) (resN E n) S m), Cl2.int .u64 (dV (rcG E n) (resN E n) S m)] i)) (mst (yAnd (preZ (rzT (rcG E n) (resN E n) S m) (yNadd (dC (rcG E n) (resN E n) S m) 1)) (yAnd (yNlt 0 (dqN (goalKg_0 E n S m i))) (yAnd (yNle (cPn E (gEn E n (yNat (yInt i)))) 1000000) (yLe 1 (eMost E (gEv E n (yNat (yInt i)))))))) ((yNot (goalKg_1 E n i S m) = true -> mst (yIn (yInt i) (resN E n)) (kdI E n S m = eId E (gEv E n (yNat (yInt i))) /\ kdF E n S m = onE (eKey E (gEv E n (yNat (yInt i)))) (eHi E (gEv E n (yNat (yInt i)))) (eMost E (gEv E n (yNat (yInt i)))) (cPn E (gEn E n (yNat (yInt i)))) (λ (i_1 : Nat) => cPk E (gEn E n (yNat (yInt i))) i_1) (λ (i_1 : Nat) => cPv E (gEn E n (yNat (yInt i))) i_1) (rzT (rcG E n) (resN E n) S m) (goalKg_0 E n S m i) /\ true = true)) /\ (yNot (goalKg_1 E n i S m) = false -> true = true /\ ∃ (i' : Nat), prKc (resN E n) (dfB (rcG E n) (resN E n) S m) i' /\ Nat.succ (mKc (resN E n) i') <= mKc (resN E n) i /\ true = true /\ yInt i' = yWrap .i64 (yAdd (yInt i) 1) /\ true = true)))))))) /\ (cOv (gEn E n (yNat (yInt i))) = false -> true = true /\ ∃ (i' : Nat), prKc (resN E n) (dfB (rcG E n) (resN E n) S m) i' /\ Nat.succ (mKc (resN E n) i') <= mKc (resN E n) i /\ true = true /\ yInt i' = yWrap .i64 (yAdd (yInt i) 1) /\ true = true))) /\ (yEq (eOk E (gEv E n (yNat (yInt i)))) (4 : Int) = false -> true = true /\ ∃ (i' : Nat), prKc (resN E n) (dfB (rcG E n) (resN E n) S m) i' /\ Nat.succ (mKc (resN E n) i') <= mKc (resN E n) i /\ true = true /\ yInt i' = yWrap .i64 (yAdd (yInt i) 1) /\ true = true))) /\ (yLt (yInt i) (yInt (resN E n)) = false -> kdI E n S m = (0 : Int) /\ kdF E n S m = (0 : Int) /\ true = true))))))))))))))))))))))) /\ (gOk E n = false -> kdI E n S m = (0 : Int) /\ kdF E n S m = (4 : Int) /\ true = true)))))))))))))))
theorem goalKg_eq : goalKg = goalKgV := by kernel_rfl
set_option maxHeartbeats 8000000 in
theorem goalKg_vc : goalKgV := by
 unfold goalKgV goalKg_1 goalKg_0
 intro E nil n S nilS m hpre hwf hT
 have hcol : ∀ m, (yCol (CK.ls [K1.int .u64, K1.int .u64]) m λ (i : Nat) => AV.lst false (eNil E i) 2 (ePn E i) (cl2F [Cl2.int .u64 (ePk E), Cl2.int .u64 (ePv E)] i)) = true := λ m => yCol_ok.2 λ i _ => List.all_eq_true.2 λ p _ => rfl
 have hR := gInjR hpre
 iterate 11 refine mstI yCol_int ?_
 refine mstI (hcol _) (mstI hpre ?_)
 cases hok : gOk E n with
 | false =>
   have k1 : kdI E n S m = 0 := if_neg (by rw [hok]; simp)
   have k2 : kdF E n S m = 4 := if_neg (by rw [hok]; simp)
   exact fork_f rfl ⟨k1, k2, rfl⟩
 | true =>
 refine fork_t rfl ?_
 iterate 9 refine mstI yCol_int ?_
 refine mstI (yCol_ok.2 λ i _ => rfl) (mstI yCol_int (mstI yCol_int (mstI (yCol_ok.2 λ i _ => List.all_eq_true.2 λ p _ => rfl) ?_)))
 iterate 6 refine mstI yCol_int ?_
 refine mstI (yCol_ok.2 λ i _ => List.all_eq_true.2 λ p _ => rfl) (mstI (by rw [preQ_rc hpre, hT]; rfl) ⟨rfl, ⟨0, ⟨Nat.zero_le _, λ j hj => absurd hj (Nat.not_lt_zero _)⟩, rfl, rfl, rfl⟩, λ g i hi => ⟨λ h => ?_, λ h => ?_⟩⟩)
 . have hlt := yLtN h
   have hin := yInN hlt
   have hb : dfB (rcG E n) (resN E n) S m i = yAnd (yEq (eOk E (gEv E n i)) 4) (yAnd (cOv (gEn E n i)) (yNot (yEq (rzE (rcG E n) (resN E n) S m i) 0))) := rfl
   have nxt := λ h => kc_next hR hi hlt h
   refine mstI hin ⟨λ h2 => ?_, λ h2 => nxt ?_⟩
   . have h2 : yEq (eOk E (gEv E n i)) 4 = true := h2
     refine mstI hin ⟨λ h3 => ?_, λ h3 => nxt ?_⟩
     . have h3 : cOv (gEn E n i) = true := h3
       refine mstI hin (mstI yCol_int (mstI yCol_int (mstI yCol_int (mstI (yCol_ok.2 λ i _ => List.all_eq_true.2 λ p _ => rfl) (mstI (pre_on hpre hT hlt h2) ⟨λ h4 => mstI hin ?_, λ h4 => nxt ?_⟩)))))
       . have h4 : yNot (yEq (rzE (rcG E n) (resN E n) S m i) 0) = true := h4
         have hf := find_range hi.2 (show dfB (rcG E n) (resN E n) S m i = true by rw [hb, h2, h3, h4]; rfl) _ hlt
         have k1 : kdI E n S m = eId E (gEv E n i) := by unfold kdI; rw [if_pos hok, hf]
         have k2 : kdF E n S m = rzE (rcG E n) (resN E n) S m i := by unfold kdF; rw [if_pos hok, hf]
         exact ⟨k1, k2, rfl⟩
       . have h4 : yNot (yEq (rzE (rcG E n) (resN E n) S m i) 0) = false := h4
         rw [hb, h2, h3, h4]; rfl
     . have h3 : cOv (gEn E n i) = false := h3
       rw [hb, h2, h3]; rfl
   . have h2 : yEq (eOk E (gEv E n i)) 4 = false := h2
     rw [hb, h2]; rfl
 . have hge := yLtF h
   have hf := find_none (N := resN E n) (λ j hj => hi.2 j (Nat.lt_of_lt_of_le hj hge))
   have k1 : kdI E n S m = 0 := by unfold kdI; rw [if_pos hok, hf]
   have k2 : kdF E n S m = 0 := by unfold kdF; rw [if_pos hok, hf]
   exact ⟨k1, k2, rfl⟩
theorem goalKg_tt : (goalKg) = True := goalKg_eq.trans (eq_true goalKg_vc)
theorem goalKg_ok : goalKg := @ft' goalKg goalKg_tt
def fKd (ds : List Dx) : Option (Bool × Dx × List (List Dx)) :=
 match ds with
 | [.rows _ n [.int .i64 kd, .int .i64 th, .int .i64 id, .int .i64 at_, .int .i64 ok, .int .u64 key, .int .u64 val, .int .u64 hi, .int .i64 most, .int .i64 rk, .int .u64 rv, .ls nl pn [.int .u64 pk, .int .u64 pv]], .rows _ m [.int .i64 sth, .int .i64 sak, .int .i64 sat, .int .u64 sold, .int .u64 snew, .int .u64 sgot, .ls snl smn [.int .i64 smk, .int .u64 sma, .int .u64 smb]], .v (.y .i64 x)] =>
   some (yAnd (preE ⟨kd, th, id, at_, ok, key, val, hi, most, rk, rv, nl, pn, pk, pv⟩ n) (yAnd (wfE ⟨kd, th, id, at_, ok, key, val, hi, most, rk, rv, nl, pn, pk, pv⟩ n) (preT ⟨sth, sak, sat, sold, snew, sgot, snl, smn, smk, sma, smb⟩ m)), .l [.v (.y .u64 (kdK ⟨kd, th, id, at_, ok, key, val, hi, most, rk, rv, nl, pn, pk, pv⟩ n ⟨sth, sak, sat, sold, snew, sgot, snl, smn, smk, sma, smb⟩ m x)), .v (.y .i64 (kdE ⟨kd, th, id, at_, ok, key, val, hi, most, rk, rv, nl, pn, pk, pv⟩ n ⟨sth, sak, sat, sold, snew, sgot, snl, smn, smk, sma, smb⟩ m x))], [])
 | _ => none
def fKg (ds : List Dx) : Option (Bool × Dx × List (List Dx)) :=
 match ds with
 | [.rows _ n [.int .i64 kd, .int .i64 th, .int .i64 id, .int .i64 at_, .int .i64 ok, .int .u64 key, .int .u64 val, .int .u64 hi, .int .i64 most, .int .i64 rk, .int .u64 rv, .ls nl pn [.int .u64 pk, .int .u64 pv]], .rows _ m [.int .i64 sth, .int .i64 sak, .int .i64 sat, .int .u64 sold, .int .u64 snew, .int .u64 sgot, .ls snl smn [.int .i64 smk, .int .u64 sma, .int .u64 smb]]] =>
   some (yAnd (preE ⟨kd, th, id, at_, ok, key, val, hi, most, rk, rv, nl, pn, pk, pv⟩ n) (yAnd (wfE ⟨kd, th, id, at_, ok, key, val, hi, most, rk, rv, nl, pn, pk, pv⟩ n) (preT ⟨sth, sak, sat, sold, snew, sgot, snl, smn, smk, sma, smb⟩ m)), .l [.v (.y .i64 (kdI ⟨kd, th, id, at_, ok, key, val, hi, most, rk, rv, nl, pn, pk, pv⟩ n ⟨sth, sak, sat, sold, snew, sgot, snl, smn, smk, sma, smb⟩ m)), .v (.y .i64 (kdF ⟨kd, th, id, at_, ok, key, val, hi, most, rk, rv, nl, pn, pk, pv⟩ n ⟨sth, sak, sat, sold, snew, sgot, snl, smn, smk, sma, smb⟩ m))], [])
 | _ => none
theorem smKd (hm : Try.prog.follows .mixedOrders = true) (hs : SmOK Try.prog (smL lKd)) : SmCall Try.prog 12 (λ args h => (ctX [sEv, sSts, .sc] (.tup [.sc, .sc]) fKd args h).sel) :=
 ctX_ok hm hs (λ ds r post h => by
  unfold fKd at h
  split at h
  . rename_i nil n kd th id at_ ok key val hi most rk rv nl pn pk pv nilS m sth sak sat sold snew sgot snl smn smk sma smb x
    simp only [sI, Prod.mk.injEq] at h
    obtain ⟨h1, rfl, rfl⟩ := h
    obtain ⟨k1, k3⟩ := yAnd_t.mp h1
    obtain ⟨k3, k4⟩ := yAnd_t.mp k3
    clear h1
    have h2 := @goalKd_ok
    unfold goalKd at h2
    refine ⟨λ _ => none, 1000, ?_⟩
    revert k1 k3 k4
    exact @h2 ⟨kd, th, id, at_, ok, key, val, hi, most, rk, rv, nl, pn, pk, pv⟩ nil n ⟨sth, sak, sat, sold, snew, sgot, snl, smn, smk, sma, smb⟩ nilS m x
  . cases h)
theorem smKg (hm : Try.prog.follows .mixedOrders = true) (hs : SmOK Try.prog (smL lKd)) : SmCall Try.prog 14 (λ args h => (ctX [sEv, sSts] (.tup [.sc, .sc]) fKg args h).sel) :=
 ctX_ok hm hs (λ ds r post h => by
  unfold fKg at h
  split at h
  . rename_i nil n kd th id at_ ok key val hi most rk rv nl pn pk pv nilS m sth sak sat sold snew sgot snl smn smk sma smb
    simp only [sI, Prod.mk.injEq] at h
    obtain ⟨h1, rfl, rfl⟩ := h
    obtain ⟨k1, k3⟩ := yAnd_t.mp h1
    obtain ⟨k3, k4⟩ := yAnd_t.mp k3
    clear h1
    have h2 := @goalKg_ok
    unfold goalKg at h2
    refine ⟨annKd ⟨kd, th, id, at_, ok, key, val, hi, most, rk, rv, nl, pn, pk, pv⟩ n ⟨sth, sak, sat, sold, snew, sgot, snl, smn, smk, sma, smb⟩ m, 1000, ?_⟩
    revert k1 k3 k4
    exact @h2 ⟨kd, th, id, at_, ok, key, val, hi, most, rk, rv, nl, pn, pk, pv⟩ nil n ⟨sth, sak, sat, sold, snew, sgot, snl, smn, smk, sma, smb⟩ nilS m
  . cases h)
def smN (E : EvS) (n : Nat) (S : StS) (m : Nat) : Bool := decide (n <= 60 /\ m <= 500 /\ (∀ j, j < n -> ePn E j <= 50) /\ ∀ j, j < m -> sMn S j <= 10)
def prN0 (E : EvS) (n i : Nat) : Prop := i <= n /\ ∀ j, j < i -> ePn E j <= 50
def prN1 (S : StS) (m i : Nat) : Prop := i <= m /\ i <= 501 /\ ∀ j, j < i -> sMn S j <= 10
def mN1 (m i : Nat) : Nat := m - i
def annSn (E : EvS) (n : Nat) (S : StS) (m : Nat) (b : Nat) : Option (St -> LoopA) :=
 match b with
 | 0 => some λ _ => { ι := Nat, tms := [5], tmU := λ i => [.y .i64 (yInt i)], ids := [], hpU := λ _ => [], del := [], ex := 0, pre := prN0 E n, ms := mN1 n }
 | 1 => some λ _ => { ι := Nat, tms := [6], tmU := λ i => [.y .i64 (yInt i)], ids := [], hpU := λ _ => [], del := [], ex := 0, pre := prN1 S m, ms := mN1 m }
 | _ => none
def goalSn : Prop := ∀ (E : EvS) (nil : Bool) (n : Nat) (S : StS) (nilS : Bool) (m : Nat), yNle n 9223372036854775807 = true -> yNle m 9223372036854775807 = true →
 wxH Try.prog noSm (annSn E n S m) 9 [sEv, sSts] [.rows nil n (colsE E), .rows nilS m (colsS S)] .sc (.v (.yb (smN E n S m))) []
def goalSnV : Prop := (∀ (E : EvS) (nil : Bool) (n : Nat) (S : StS) (nilS : Bool) (m : Nat), yNle n (nat_lit 9223372036854775807) = true -> yNle m (nat_lit 9223372036854775807) = true -> true = true /\ (∃ (i0 : Nat), prN0 E n i0 /\ true = true /\ yInt i0 = (0 : Int) /\ true = true) /\ ∀ (g : Nat -> AV) (i : Nat), prN0 E n i -> (yLt (yInt i) (yInt n) = true -> mst (yIn (yInt i) n) ((yLt 50 (yInt (ePn E (yNat (yInt i)))) = true -> smN E n S m = false /\ true = true) /\ (yLt 50 (yInt (ePn E (yNat (yInt i)))) = false -> true = true /\ ∃ (i' : Nat), prN0 E n i' /\ Nat.succ (mN1 n i') <= mN1 n i /\ true = true /\ yInt i' = yWrap .i64 (yAdd (yInt i) 1) /\ true = true))) /\ (yLt (yInt i) (yInt n) = false -> true = true /\ (∃ (i0 : Nat), prN1 S m i0 /\ true = true /\ yInt i0 = (0 : Int) /\ true = true) /\ ∀ (g : Nat -> AV) (i : Nat), prN1 S m i -> (yLt (yInt i) (yInt m) = true -> (yLe (yInt i) (500 : Int) = true -> mst (yIn (yInt i) m) ((yLt 10 (yInt (sMn S (yNat (yInt i)))) = true -> smN E n S m = false /\ true = true) /\ (yLt 10 (yInt (sMn S (yNat (yInt i)))) = false -> true = true /\ ∃ (i' : Nat), prN1 S m i' /\ Nat.succ (mN1 m i') <= mN1 m i /\ true = true /\ yInt i' = yWrap .i64 (yAdd (yInt i) 1) /\ true = true))) /\ (yLe (yInt i) (500 : Int) = false -> (yLe (yInt n) (60 : Int) = true -> smN E n S m = yLe (yInt m) 500 /\ true = true) /\ (yLe (yInt n) (60 : Int) = false -> smN E n S m = false /\ true = true))) /\ (yLt (yInt i) (yInt m) = false -> (yLe (yInt n) (60 : Int) = true -> smN E n S m = yLe (yInt m) 500 /\ true = true) /\ (yLe (yInt n) (60 : Int) = false -> smN E n S m = false /\ true = true))))
theorem goalSn_eq : goalSn = goalSnV := by kernel_rfl
set_option maxHeartbeats 8000000 in
theorem goalSn_vc : goalSnV := by
 unfold goalSnV
 intro E nil n S nilS m hn hm
 have hn : n <= 9223372036854775807 := of_decide_eq_true hn
 have hm : m <= 9223372036854775807 := of_decide_eq_true hm
 have hw : ∀ i N : Nat, i < N -> N <= 9223372036854775807 -> yInt (i + 1) = yWrap .i64 (yAdd (yInt i) 1) := λ i N h1 h2 => by
  show ((i + 1 : Nat) : Int) = yWrap .i64 ((i : Int) + 1)
  rw [wrap64 (by omega) (by omega)]; omega
 refine ⟨rfl, ⟨0, ⟨Nat.zero_le _, λ j hj => absurd hj (Nat.not_lt_zero _)⟩, rfl, rfl, rfl⟩, λ g i hi => ⟨λ h => ?_, λ h => ?_⟩⟩
 . have hl := yLtN h
   refine mstI (yInN hl) ⟨λ e => ⟨decide_eq_false λ d => ?_, rfl⟩, λ e => ⟨rfl, i + 1, ⟨hl, λ j hj => ?_⟩, by unfold mN1; omega, rfl, hw i n hl hn, rfl⟩⟩
   . have e : (50 : Int) < (ePn E i : Int) := of_decide_eq_true e
     have := d.2.2.1 i hl
     omega
   . have e : ¬ (50 : Int) < (ePn E i : Int) := of_decide_eq_false e
     rcases Nat.lt_succ_iff_lt_or_eq.1 hj with h1 | rfl
     . exact hi.2 j h1
     . omega
 have hge := yLtF h
 have hP : ∀ j, j < n -> ePn E j <= 50 := λ j hj => hi.2 j (Nat.lt_of_lt_of_le hj hge)
 have fin : ∀ i, prN1 S m i -> (m <= i ∨ 500 < i) -> (yLe (yInt n) 60 = true -> smN E n S m = yLe (yInt m) 500 /\ true = true) /\ (yLe (yInt n) 60 = false -> smN E n S m = false /\ true = true) := λ i hi ho => by
  refine ⟨λ e => ⟨?_, rfl⟩, λ e => ⟨decide_eq_false λ d => ?_, rfl⟩⟩
  . have e : (n : Int) <= 60 := of_decide_eq_true e
    show decide (n <= 60 /\ m <= 500 /\ (∀ j, j < n -> ePn E j <= 50) /\ ∀ j, j < m -> sMn S j <= 10) = decide ((m : Int) <= 500)
    rw [decide_eq_decide]
    refine ⟨λ d => by have := d.2.1; omega, λ d => ⟨by omega, by omega, hP, λ j hj => hi.2.2 j ?_⟩⟩
    rcases ho with ho | ho <;> omega
  . have e : ¬ (n : Int) <= 60 := of_decide_eq_false e
    have := d.1
    omega
 refine ⟨rfl, ⟨0, ⟨Nat.zero_le _, Nat.zero_le _, λ j hj => absurd hj (Nat.not_lt_zero _)⟩, rfl, rfl, rfl⟩, λ g i hi => ⟨λ h => ⟨λ h5 => ?_, λ h5 => ?_⟩, λ h => fin i hi (.inl (yLtF h))⟩⟩
 . have hl := yLtN h
   have h5 : (i : Int) <= 500 := of_decide_eq_true h5
   refine mstI (yInN hl) ⟨λ e => ⟨decide_eq_false λ d => ?_, rfl⟩, λ e => ⟨rfl, i + 1, ⟨hl, by omega, λ j hj => ?_⟩, by unfold mN1; omega, rfl, hw i m hl hm, rfl⟩⟩
   . have e : (10 : Int) < (sMn S i : Int) := of_decide_eq_true e
     have := d.2.2.2 i hl
     omega
   . have e : ¬ (10 : Int) < (sMn S i : Int) := of_decide_eq_false e
     rcases Nat.lt_succ_iff_lt_or_eq.1 hj with h1 | rfl
     . exact hi.2.2 j h1
     . omega
 . have h5 : ¬ (i : Int) <= 500 := of_decide_eq_false h5
   exact fin i hi (.inr (by omega))
theorem goalSn_tt : (goalSn) = True := goalSn_eq.trans (eq_true goalSn_vc)
theorem goalSn_ok : goalSn := @ft' goalSn goalSn_tt
def fSn (ds : List Dx) : Option (Bool × Dx × List (List Dx)) :=
 match ds with
 | [.rows _ n [.int .i64 kd, .int .i64 th, .int .i64 id, .int .i64 at_, .int .i64 ok, .int .u64 key, .int .u64 val, .int .u64 hi, .int .i64 most, .int .i64 rk, .int .u64 rv, .ls nl pn [.int .u64 pk, .int .u64 pv]], .rows _ m [.int .i64 sth, .int .i64 sak, .int .i64 sat, .int .u64 sold, .int .u64 snew, .int .u64 sgot, .ls snl smn [.int .i64 smk, .int .u64 sma, .int .u64 smb]]] =>
   some (yAnd (yNle n 9223372036854775807) (yNle m 9223372036854775807), .v (.yb (smN ⟨kd, th, id, at_, ok, key, val, hi, most, rk, rv, nl, pn, pk, pv⟩ n ⟨sth, sak, sat, sold, snew, sgot, snl, smn, smk, sma, smb⟩ m)), [])
 | _ => none
theorem smSn (hm : Try.prog.follows .mixedOrders = true) : SmCall Try.prog 9 (λ args h => (ctX [sEv, sSts] .sc fSn args h).sel) :=
 ctX_ok hm noSm_ok (λ ds r post h => by
  unfold fSn at h
  split at h
  . rename_i nil n kd th id at_ ok key val hi most rk rv nl pn pk pv nilS m sth sak sat sold snew sgot snl smn smk sma smb
    simp only [sI, Prod.mk.injEq] at h
    obtain ⟨h1, rfl, rfl⟩ := h
    obtain ⟨k1, k3⟩ := yAnd_t.mp h1
    clear h1
    have h2 := @goalSn_ok
    unfold goalSn at h2
    refine ⟨annSn ⟨kd, th, id, at_, ok, key, val, hi, most, rk, rv, nl, pn, pk, pv⟩ n ⟨sth, sak, sat, sold, snew, sgot, snl, smn, smk, sma, smb⟩ m, 1000, ?_⟩
    revert k1 k3
    exact @h2 ⟨kd, th, id, at_, ok, key, val, hi, most, rk, rv, nl, pn, pk, pv⟩ nil n ⟨sth, sak, sat, sold, snew, sgot, snl, smn, smk, sma, smb⟩ nilS m
  . cases h)
def lSc : List (Nat × Sm) := [(9, .ct (ctX [sEv, sSts] .sc fSn)), (10, .call (smB true)), (11, .ct (ctX [sEv, sSts, .sc] (.tup [.sc, .sc]) fKc)), (12, .ct (ctX [sEv, sSts, .sc] (.tup [.sc, .sc]) fKd)), (13, .ct (ctX [sEv, sSts] (.tup [.sc, .sc]) fKf)), (14, .ct (ctX [sEv, sSts] (.tup [.sc, .sc]) fKg))]
def goalSc : Prop := ∀ (E : EvS) (nil : Bool) (n : Nat) (S : StS) (nilS : Bool) (m : Nat) (x : Int), yNle n 9223372036854775807 = true -> yNle m 9223372036854775807 = true -> wfE E n = true →
 (smN E n S m = true -> kcK E n S m x = kdK E n S m x /\ kcE E n S m x = kdE E n S m x /\ kfI E n S m = kdI E n S m /\ kfE E n S m = kdF E n S m) →
 wxF Try.prog (smL lSc) (λ _ => none) 1000 4 [.lst false nil 12 n (colF (colsE E)), .lst false nilS 7 m (colF (colsS S)), .y .i64 x] ⟨.lf, 0, 0, []⟩ (λ r _ => cmpC (.yb true) r)
def goalSc_0 (m : Nat) (S : StS) := yCol (CK.ls [K1.int .i64, K1.int .u64, K1.int .u64]) m λ (i : Nat) => AV.lst false (sNil S i) 3 (sMn S i) (cl2F [Cl2.int .i64 (sMk S), Cl2.int .u64 (sMa S), Cl2.int .u64 (sMb S)] i)
def goalSc_1 (n : Nat) (E : EvS) := yCol (CK.ls [K1.int .u64, K1.int .u64]) n λ (i : Nat) => AV.lst false (eNil E i) 2 (ePn E i) (cl2F [Cl2.int .u64 (ePk E), Cl2.int .u64 (ePv E)] i)
def goalSc_2 (n : Nat) (E : EvS) := yCol (CK.int .i64) n λ (i : Nat) => AV.y .i64 (eMost E i)
def goalSc_3 (n : Nat) (E : EvS) := yCol (CK.int .u64) n λ (i : Nat) => AV.y .u64 (eKey E i)
def goalSc_4 (n : Nat) (E : EvS) := yCol (CK.int .u64) n λ (i : Nat) => AV.y .u64 (eVal E i)
def goalSc_5 (m : Nat) (S : StS) := yCol (CK.int .u64) m λ (i : Nat) => AV.y .u64 (sOld S i)
def goalSc_6 (m : Nat) (S : StS) := yCol (CK.int .u64) m λ (i : Nat) => AV.y .u64 (sNew S i)
def goalSc_7 (m : Nat) (S : StS) := yCol (CK.int .u64) m λ (i : Nat) => AV.y .u64 (sGot S i)
def goalSc_8 (n : Nat) (E : EvS) := yCol (CK.int .i64) n λ (i : Nat) => AV.y .i64 (eKd E i)
def goalSc_9 (n : Nat) (E : EvS) := yCol (CK.int .i64) n λ (i : Nat) => AV.y .i64 (eTh E i)
def goalSc_10 (n : Nat) (E : EvS) := yCol (CK.int .i64) n λ (i : Nat) => AV.y .i64 (eId E i)
def goalSc_11 (n : Nat) (E : EvS) := yCol (CK.int .i64) n λ (i : Nat) => AV.y .i64 (eAt E i)
def goalSc_12 (n : Nat) (E : EvS) := yCol (CK.int .i64) n λ (i : Nat) => AV.y .i64 (eOk E i)
def goalSc_13 (n : Nat) (E : EvS) := yCol (CK.int .u64) n λ (i : Nat) => AV.y .u64 (eHi E i)
def goalSc_14 (n : Nat) (E : EvS) := yCol (CK.int .i64) n λ (i : Nat) => AV.y .i64 (eRk E i)
def goalSc_15 (n : Nat) (E : EvS) := yCol (CK.int .u64) n λ (i : Nat) => AV.y .u64 (eRv E i)
def goalSc_16 (m : Nat) (S : StS) := yCol (CK.int .i64) m λ (i : Nat) => AV.y .i64 (sTh S i)
def goalSc_17 (m : Nat) (S : StS) := yCol (CK.int .i64) m λ (i : Nat) => AV.y .i64 (sAk S i)
def goalSc_18 (m : Nat) (S : StS) := yCol (CK.int .i64) m λ (i : Nat) => AV.y .i64 (sAt S i)
def goalScV : Prop := (∀ (E : EvS) (nil : Bool) (n : Nat) (S : StS) (nilS : Bool) (m : Nat) (x : Int), yNle n (nat_lit 9223372036854775807) = true -> yNle m (nat_lit 9223372036854775807) = true -> wfE E n = true -> (smN E n S m = true -> kcK E n S m x = kdK E n S m x /\ kcE E n S m x = kdE E n S m x /\ kfI E n S m = kdI E n S m /\ kfE E n S m = kdF E n S m) -> mst (goalSc_8 n E) (mst (goalSc_9 n E) (mst (goalSc_10 n E) (mst (goalSc_11 n E) (mst (goalSc_12 n E) (mst (goalSc_3 n E) (mst (goalSc_4 n E) (mst (goalSc_13 n E) (mst (goalSc_2 n E) (mst (goalSc_14 n E) (mst (goalSc_15 n E) (mst (goalSc_1 n E) (mst (goalSc_16 m S) (mst (goalSc_17 m S) (mst (goalSc_18 m S) (mst (goalSc_5 m S) (mst (goalSc_6 m S) (mst (goalSc_7 m S) (mst (goalSc_0 m S) (mst (yAnd (yNle n 9223372036854775807) (yNle m 9223372036854775807)) ((yNot (smN E n S m) = true -> true = true) /\ (yNot (smN E n S m) = false -> mst (goalSc_8 n E) (mst (goalSc_9 n E) (mst (goalSc_10 n E) (mst (goalSc_11 n E) (mst (goalSc_12 n E) (mst (goalSc_3 n E) (mst (goalSc_4 n E) (mst (goalSc_13 n E) (mst (goalSc_2 n E) (mst (goalSc_14 n E) (mst (goalSc_15 n E) (mst (goalSc_1 n E) (mst (goalSc_16 m S) (mst (goalSc_17 m S) (mst (goalSc_18 m S) (mst (goalSc_5 m S) (mst (goalSc_6 m S) (mst (goalSc_7 m S) (mst (goalSc_0 m S) (mst (yAnd (preE E n) (yAnd (wfE E n) (preT S m))) (mst (goalSc_8 n E) (mst (goalSc_9 n E) (mst (goalSc_10 n E) (mst (goalSc_11 n E) (mst (goalSc_12 n E) (mst (goalSc_3 n E) (mst (goalSc_4 n E) (mst (goalSc_13 n E) (mst (goalSc_2 n E) (mst (goalSc_14 n E) (mst (goalSc_15 n E) (mst (goalSc_1 n E) (mst (goalSc_16 m S) (mst (goalSc_17 m S) (mst (goalSc_18 m S) (mst (goalSc_5 m S) (mst (goalSc_6 m S) (mst (goalSc_7 m S) (mst (goalSc_0 m S) (mst (yAnd (preE E n) (yAnd (wfE E n) (preT S m))) (mst (goalSc_8 n E) (mst (goalSc_9 n E) (mst (goalSc_10 n E) (mst (goalSc_11 n E) (mst (goalSc_12 n E) (mst (goalSc_3 n E) (mst (goalSc_4 n E) (mst (goalSc_13 n E) (mst (goalSc_2 n E) (mst (goalSc_14 n E) (mst (goalSc_15 n E) (mst (goalSc_1 n E) (mst (goalSc_16 m S) (mst (goalSc_17 m S) (mst (goalSc_18 m S) (mst (goalSc_5 m S) (mst (goalSc_6 m S) (mst (goalSc_7 m S) (mst (goalSc_0 m S) (mst (yAnd (preE E n) (yAnd (wfE E n) (preT S m))) (mst (goalSc_8 n E) (mst (goalSc_9 n E) (mst (goalSc_10 n E) (mst (goalSc_11 n E) (mst (goalSc_12 n E) (mst (goalSc_3 n E) (mst (goalSc_4 n E) (mst (goalSc_13 n E) (mst (goalSc_2 n E) (mst (goalSc_14 n E) (mst (goalSc_15 n E) (mst (goalSc_1 n E) (mst (goalSc_16 m S) (mst (goalSc_17 m S) (mst (goalSc_18 m S) (mst (goalSc_5 m S) (mst (goalSc_6 m S) (mst (goalSc_7 m S) (mst (goalSc_0 m S) (mst (yAnd (preE E n) (yAnd (wfE E n) (preT S m))) ((yEq (kcK E n S m x) (kdK E n S m x) = true -> (yEq (kcE E n S m x) (kdE E n S m x) = true -> (yEq (kfI E n S m) (kdI E n S m) = true -> (yEq (kfE E n S m) (kdF E n S m) = true -> true = true) /\ (yEq (kfE E n S m) (kdF E n S m) = false -> true = false)) /\ (yEq (kfI E n S m) (kdI E n S m) = false -> true = false)) /\ (yEq (kcE E n S m x) (kdE E n S m x) = false -> true = false)) /\ (yEq (kcK E n S m x) (kdK E n S m x) = false -> true = false)))))))))))))))))))))))))))))))))))))))))))))))))))))))))))))))))))))))))))))))))))))))))))))))))))))))
theorem goalSc_eq : goalSc = goalScV := by kernel_rfl
set_option maxHeartbeats 8000000 in
theorem goalSc_vc : goalScV := by
 unfold goalScV goalSc_18 goalSc_17 goalSc_16 goalSc_15 goalSc_14 goalSc_13 goalSc_12 goalSc_11 goalSc_10 goalSc_9 goalSc_8 goalSc_7 goalSc_6 goalSc_5 goalSc_4 goalSc_3 goalSc_2 goalSc_1 goalSc_0
 intro E nil n S nilS m x hn hm hwf hL
 have hcol : ∀ (q : Nat) (z : Nat -> Bool) (r : Nat -> Nat) (a b : Nat -> Nat -> Int), (yCol (CK.ls [K1.int .u64, K1.int .u64]) q λ (i : Nat) => AV.lst false (z i) 2 (r i) (cl2F [Cl2.int .u64 a, Cl2.int .u64 b] i)) = true := λ q z r a b => yCol_ok.2 λ i _ => List.all_eq_true.2 λ p _ => rfl
 have hcolS : ∀ (q : Nat) (z : Nat -> Bool) (r : Nat -> Nat) (a b c : Nat -> Nat -> Int), (yCol (CK.ls [K1.int .i64, K1.int .u64, K1.int .u64]) q λ (i : Nat) => AV.lst false (z i) 3 (r i) (cl2F [Cl2.int .i64 a, Cl2.int .u64 b, Cl2.int .u64 c] i)) = true := λ q z r a b c => yCol_ok.2 λ i _ => List.all_eq_true.2 λ p _ => rfl
 iterate 11 refine mstI yCol_int ?_
 refine mstI (hcol _ _ _ _ _) ?_
 iterate 6 refine mstI yCol_int ?_
 refine mstI (hcolS _ _ _ _ _ _) (mstI (by rw [hn, hm]; rfl) ?_)
 cases hs : smN E n S m with
 | false => exact fork_t rfl rfl
 | true =>
 obtain ⟨e1, e2, e3, e4⟩ := hL hs
 obtain ⟨s1, s2, s3, s4⟩ := of_decide_eq_true hs
 have hpre : preE E n = true := decide_eq_true ⟨by omega, s3⟩
 have hT : preT S m = true := decide_eq_true ⟨s2, s4⟩
 have hP : yAnd (preE E n) (yAnd (wfE E n) (preT S m)) = true := by rw [hpre, hwf, hT]; rfl
 refine fork_f rfl ?_
 iterate 4
  iterate 11 refine mstI yCol_int ?_
  refine mstI (hcol _ _ _ _ _) ?_
  iterate 6 refine mstI yCol_int ?_
  refine mstI (hcolS _ _ _ _ _ _) (mstI hP ?_)
 rw [e1, e2, e3, e4]
 have hr : ∀ a : Int, yEq a a = true := λ a => decide_eq_true rfl
 rw [hr, hr, hr, hr]
 repeat' (first | exact trivial | with_reducible rfl | apply And.intro | intro _ | rfl | contradiction)
theorem goalSc_tt : (goalSc) = True := goalSc_eq.trans (eq_true goalSc_vc)
theorem goalSc_ok : goalSc := @ft' goalSc goalSc_tt
set_option maxRecDepth 1000000 in
theorem up32 : isY true (callS Try.prog noSm 1000 10 []) = true := by kernel_rfl
theorem awake32 (hm : Try.prog.follows .mixedOrders = true) : SmCall Try.prog 10 (smB true) :=
 smBool_ok Try.func10 (by kernel_rfl) (by kernel_rfl) λ w hw => callY_calls hm noSm_ok up32 (us := []) rfl w hw
theorem smRgE (hm : Try.prog.follows .mixedOrders = true) : SmCall Try.prog 52 (λ args h => (ctS gOp fRgE args h).sel) :=
 ctS_ok hm noSm_ok (by decide) (λ ds r h => by
  unfold fRgE at h
  split at h
  . rename_i k key val hi most
    simp only [sI, Prod.mk.injEq] at h
    obtain ⟨-, rfl⟩ := h
    refine ⟨λ _ => none, 1000, ?_⟩
    have h2 := @goalRgE_ok
    unfold goalRgE at h2
    exact @h2 k key val hi most
  . cases h)
theorem smRgR (hm : Try.prog.follows .mixedOrders = true) : SmCall Try.prog 43 (λ args h => (ctS gOp fRgE args h).sel) :=
 ctS_ok hm noSm_ok (by decide) (λ ds r h => by
  unfold fRgE at h
  split at h
  . rename_i k key val hi most
    simp only [sI, Prod.mk.injEq] at h
    obtain ⟨-, rfl⟩ := h
    refine ⟨λ _ => none, 1000, ?_⟩
    have h2 := @goalRgR_ok
    unfold goalRgR at h2
    exact @h2 k key val hi most
  . cases h)
set_option maxRecDepth 100000
section
variable (hm : Try.prog.follows .mixedOrders = true)
include hm
theorem okLGn : SmOK Try.prog (smL lGn) := smL_ok ⟨smRgE hm, smSame hm goalSameMod_ok, trivial⟩
theorem okLCl : SmOK Try.prog (smL lCl) := smL_ok ⟨smGn hm (okLGn hm), smCln hm, trivial⟩
theorem okLBk : SmOK Try.prog (smL lBk) := smL_ok ⟨smCl hm (okLCl hm), trivial⟩
theorem okLEs : SmOK Try.prog (smL lEs) := smL_ok ⟨smCl hm (okLCl hm), smEf hm, trivial⟩
theorem okLRk : SmOK Try.prog (smL lRk) := smL_ok ⟨smOp hm, smRgR hm, smSame hm goalSameRef_ok, trivial⟩
theorem okLFu : SmOK Try.prog (smL lFu) := smL_ok ⟨smSame hm goalSameRef_ok, smSame hm goalSameMod_ok, trivial⟩
theorem okLMd : SmOK Try.prog (smL lMd) := smL_ok ⟨smTo hm, smIns, smDel, trivial⟩
theorem okLMe : SmOK Try.prog (smL lMe) := smL_ok ⟨smNo, smRgE hm, smMgt hm (okLMd hm), smMpt hm (okLMd hm), smMdr hm (okLMd hm), trivial⟩
theorem okLMf : SmOK Try.prog (smL lMf) := smL_ok ⟨smFu hm (okLFu hm) goalFuM_ok, smSame hm goalSameMod_ok, smMdo hm (okLMe hm), trivial⟩
theorem okLPs : SmOK Try.prog (smL lPs) := smL_ok ⟨smMfr hm (okLMd hm), smMas hm, trivial⟩
theorem okLAf : SmOK Try.prog (smL lAf) := smL_ok ⟨smBk hm (okLBk hm), smMdn hm (okLMf hm), smMps hm (okLPs hm), trivial⟩
theorem okLSt : SmOK Try.prog (smL lSt) := smL_ok ⟨smGn hm (okLGn hm), smSo hm, smEs hm (okLEs hm), smAf hm (okLAf hm), trivial⟩
theorem okLAt : SmOK Try.prog (smL lAt) := smL_ok ⟨smPut hm, smDrop hm, trivial⟩
theorem okLDt : SmOK Try.prog (smL lDt) := smL_ok ⟨smWs hm, smEfR hm, smFu hm (okLFu hm) goalFuR_ok, smRaf hm (okLAt hm), trivial⟩
theorem okLIs : SmOK Try.prog (smL lIs) := smL_ok ⟨smIx hm, trivial⟩
theorem okLDu : SmOK Try.prog (smL lDu) := smL_ok ⟨smCu hm, trivial⟩
theorem okLLa : SmOK Try.prog (smL lLa) := smL_ok ⟨smIk hm, trivial⟩
theorem okLCk : SmOK Try.prog (smL lCk) := smL_ok ⟨smFm hm, smDu hm (okLDu hm), smIs hm (okLIs hm), smLa hm (okLLa hm), trivial⟩
theorem okLKc : SmOK Try.prog (smL lKc) := smL_ok ⟨smGn hm (okLGn hm), smCl hm (okLCl hm), smRgE hm, smSt hm (okLSt hm), smCk hm (okLCk hm), trivial⟩
theorem okLAt2 : SmOK Try.prog (smL lAt2) := smL_ok ⟨smAt2 hm, trivial⟩
theorem okLOn : SmOK Try.prog (smL lOn) := smL_ok ⟨smDq hm, smWa hm (okLAt2 hm), smAl hm (okLAt2 hm), smAt2 hm, trivial⟩
theorem okLKd : SmOK Try.prog (smL lKd) := smL_ok ⟨smRl hm (okLRk hm), smDt hm (okLDt hm), smOn hm (okLOn hm), trivial⟩
theorem okLSc : SmOK Try.prog (smL lSc) := smL_ok ⟨smSn hm, awake32 hm, smKc hm (okLKc hm), smKd hm (okLKd hm), smKf hm (okLKc hm), smKg hm (okLKd hm), trivial⟩
end
theorem evC_evP (E : EvS) (n : Nat) (S : StS) (t : Nat) : evC (rcG E n) (resN E n) S t = evP E n S t := rfl
theorem efL_evCL (E : EvS) (n : Nat) (S : StS) : ∀ m, efL E n S m = (evCL (rcG E n) (resN E n) S m).map (λ j => eId E (gEv E n j))
 | 0 => rfl
 | m + 1 => by
   rw [efL_step, evCL_step, List.map_append, efL_evCL E n S m, evC_evP]
   cases evP E n S m <;> rfl
theorem aeL_atCL (E : EvS) (n : Nat) (S : StS) (m : Nat) : aeL E n S m = atCL (rcG E n) (resN E n) S m := rfl
theorem evCL_lt {C : RcS} {N : Nat} {S : StS} {m j : Nat} (h : j ∈ evCL C N S m) : j < N := by
 unfold evCL at h
 obtain ⟨t, _, ht⟩ := List.mem_filterMap.1 h
 unfold evC at ht
 split at ht
 . exact List.mem_range.1 (List.mem_of_find?_eq_some ht)
 . cases ht
theorem ev_at {E : EvS} {n : Nat} {S : StS} {m q : Nat} (h : q < dC (rcG E n) (resN E n) S m) : ∃ j, j < resN E n /\ (evCL (rcG E n) (resN E n) S m)[q]?.getD 0 = j /\ tO E n S m q = (j : Int) + 1 := by
 have hq : q < (evCL (rcG E n) (resN E n) S m).length := h
 have hj : (evCL (rcG E n) (resN E n) S m)[q] < resN E n := evCL_lt (List.getElem_mem hq)
 refine ⟨_, hj, by rw [List.getElem?_eq_getElem hq]; rfl, ?_⟩
 have h1 : tO E n S m q = eId E (gEv E n ((evCL (rcG E n) (resN E n) S m)[q])) := by
  show (efL E n S m)[q]?.getD 0 = _
  rw [efL_evCL, List.getElem?_map, List.getElem?_eq_getElem hq]; rfl
 rw [h1, (gIa hj).1]
theorem aS_dS (E : EvS) (n : Nat) (S : StS) (m : Nat) : ∀ q, q <= dC (rcG E n) (resN E n) S m →
 (aS E n (tO E n S m) q).n = (dS (rcG E n) (resN E n) S m q).n /\ (aS E n (tO E n S m) q).k = (dS (rcG E n) (resN E n) S m q).k /\ (aS E n (tO E n S m) q).v = (dS (rcG E n) (resN E n) S m q).v
 | 0, _ => ⟨rfl, rfl, rfl⟩
 | q + 1, h => by
   obtain ⟨i1, i2, i3⟩ := aS_dS E n S m q (by omega)
   obtain ⟨j, hj, e1, e2⟩ := ev_at (E := E) (n := n) (S := S) (m := m) (q := q) (by omega)
   have hb : aS E n (tO E n S m) (q + 1) = if bkP E n (resN E n) (tO E n S m q) = true then stepM E n (bkG (tO E n S m q)) (aS E n (tO E n S m) q) else aS E n (tO E n S m) q := rfl
   have hd : dS (rcG E n) (resN E n) S m (q + 1) = stepD (rcG E n) ((evCL (rcG E n) (resN E n) S m)[q]?.getD 0) (dS (rcG E n) (resN E n) S m q) := rfl
   have hg : bkG ((j : Int) + 1) = j := by unfold bkG; omega
   rw [hb, hd, e1, e2, hg]
   by_cases h4 : eOk E (gEv E n j) = 4
   . have h5 : bkP E n (resN E n) ((j : Int) + 1) = false := decide_eq_false λ d => by
      have := d.2.2
      rw [show ((j : Int) + 1 - 1).toNat = j by omega] at this
      exact this h4
     have h6 : stepD (rcG E n) j (dS (rcG E n) (resN E n) S m q) = dS (rcG E n) (resN E n) S m q := if_pos (.inl h4)
     rw [h5, h6]
     exact ⟨i1, i2, i3⟩
   . have h5 : bkP E n (resN E n) ((j : Int) + 1) = true := decide_eq_true ⟨by omega, by omega, by
      rw [show ((j : Int) + 1 - 1).toNat = j by omega]; exact h4⟩
     rw [if_pos h5]
     by_cases hf : cFl E n j = true
     . have h6 : stepD (rcG E n) j (dS (rcG E n) (resN E n) S m q) = dS (rcG E n) (resN E n) S m q := if_pos (.inr hf)
       rw [h6]
       exact ⟨(if_pos hf).trans i1, (funext λ p => if_pos hf).trans i2, (funext λ p => if_pos hf).trans i3⟩
     . have h6 : stepD (rcG E n) j (dS (rcG E n) (resN E n) S m q) = ⟨false, false, doN (qOk (rcG E n) j) (dS (rcG E n) (resN E n) S m q).n (dS (rcG E n) (resN E n) S m q).k (qKey (rcG E n) j), doKy (qOk (rcG E n) j) (dS (rcG E n) (resN E n) S m q).n (dS (rcG E n) (resN E n) S m q).k (qKey (rcG E n) j), doVl (qOk (rcG E n) j) (dS (rcG E n) (resN E n) S m q).n (dS (rcG E n) (resN E n) S m q).k (dS (rcG E n) (resN E n) S m q).v (qKey (rcG E n) j) (qVal (rcG E n) j)⟩ := if_neg (λ h => h.elim h4 hf)
       rw [h6]
       refine ⟨(if_neg hf).trans ?_, (funext λ p => if_neg hf).trans ?_, (funext λ p => if_neg hf).trans ?_⟩
       . rw [i1, i2]; rfl
       . rw [i1, i2]; rfl
       . rw [i1, i2, i3]; rfl
theorem ptK_nn {n : Nat} {k : Nat -> Int} {x : Int} (hs : Srt n k) (hk : ∀ p, p < n -> 0 <= k p) (hx : 0 <= x) : ∀ p, p < ptN n k x -> 0 <= ptK n k x p := by
 intro p hp
 have h1 := (pI_spec x hs).1
 unfold ptN at hp
 unfold ptK
 by_cases hi : pIs n k x = true
 . rw [if_pos hi] at hp ⊢; exact hk p hp
 . rw [if_neg hi] at hp ⊢
   by_cases h2 : p < pI n k x
   . rw [if_pos h2]; exact hk p (by omega)
   . rw [if_neg h2]
     by_cases h3 : p = pI n k x
     . rw [if_pos h3]; exact hx
     . rw [if_neg h3]; exact hk _ (by omega)
theorem drK_nn {n : Nat} {k : Nat -> Int} {x : Int} (hk : ∀ p, p < n -> 0 <= k p) : ∀ p, p < drN n k x -> 0 <= drK n k k x p := by
 intro p hp
 unfold drN at hp
 unfold drK
 by_cases hi : pIs n k x = true
 . rw [if_pos hi] at hp ⊢
   by_cases h2 : p < pI n k x
   . rw [if_pos h2]; exact hk p (by omega)
   . rw [if_neg h2]; exact hk _ (by omega)
 . rw [if_neg hi] at hp ⊢; exact hk p hp
theorem dS_nn {E : EvS} {n : Nat} {S : StS} {m : Nat} (hK : ∀ j, j < resN E n -> 0 <= eKey E (gEv E n j)) : ∀ q, q <= dC (rcG E n) (resN E n) S m -> ∀ p, p < (dS (rcG E n) (resN E n) S m q).n -> 0 <= (dS (rcG E n) (resN E n) S m q).k p
 | 0, _, p, hp => absurd hp (Nat.not_lt_zero _)
 | q + 1, h, p, hp => by
   have ih := dS_nn (S := S) (m := m) hK q (by omega)
   obtain ⟨j, hj, e1, _⟩ := ev_at (E := E) (n := n) (S := S) (m := m) (q := q) (by omega)
   have hd : dS (rcG E n) (resN E n) S m (q + 1) = stepD (rcG E n) ((evCL (rcG E n) (resN E n) S m)[q]?.getD 0) (dS (rcG E n) (resN E n) S m q) := rfl
   revert hp
   rw [hd, e1]
   have hs := (dInv (rcG E n) (resN E n) S m q).1
   unfold stepD
   split
   . exact ih p
   . show p < doN _ _ _ _ -> 0 <= doKy _ _ _ _ p
     unfold doN doKy
     split
     . exact ptK_nn hs ih (hK j hj) p
     . split
       . exact drK_nn ih p
       . exact ih p
theorem pI_zero {n : Nat} {k : Nat -> Int} (hs : Srt n k) (hk : ∀ p, p < n -> 0 <= k p) : pI n k 0 = 0 := by
 obtain ⟨h1, h2, _⟩ := pI_spec 0 hs
 by_cases h : pI n k 0 = 0
 . exact h
 . have h3 := h2 0 (by omega)
   have h4 := hk 0 (by omega)
   omega
theorem st_eq {E : EvS} {n : Nat} {S : StS} {m : Nat} (hK : ∀ j, j < resN E n -> 0 <= eKey E (gEv E n j)) : ∀ q, q <= dC (rcG E n) (resN E n) S m →
 tFr E n S m q = dFr (rcG E n) (resN E n) S m q /\ tNn E n S m q = dN (rcG E n) (resN E n) S m q /\ tNk E n S m q = dK (rcG E n) (resN E n) S m q /\ tNv E n S m q = dV (rcG E n) (resN E n) S m q
 | 0, _ => ⟨rfl, rfl, rfl, rfl⟩
 | q + 1, h => by
   obtain ⟨i1, i2, i3⟩ := aS_dS E n S m (q + 1) h
   have hs := (dInv (rcG E n) (resN E n) S m (q + 1)).1
   have hz := pI_zero hs (dS_nn hK (q + 1) h)
   have a1 : aN E n (tO E n S m) (q + 1) = (dS (rcG E n) (resN E n) S m (q + 1)).n := i1
   have a2 : aK E n (tO E n S m) (q + 1) = (dS (rcG E n) (resN E n) S m (q + 1)).k := i2
   have a3 : aV E n (tO E n S m) (q + 1) = (dS (rcG E n) (resN E n) S m (q + 1)).v := i3
   refine ⟨rfl, ?_, ?_, ?_⟩
   . show frN (aN E n (tO E n S m) (q + 1)) (aK E n (tO E n S m) (q + 1)) 0 = _
     rw [a1, a2]
     show (dS (rcG E n) (resN E n) S m (q + 1)).n - pI _ _ 0 = _
     rw [hz]; rfl
   . funext p
     show frC (aN E n (tO E n S m) (q + 1)) (aK E n (tO E n S m) (q + 1)) 0 (aK E n (tO E n S m) (q + 1)) p = _
     rw [a1, a2]
     show (dS (rcG E n) (resN E n) S m (q + 1)).k (pI _ _ 0 + p) = _
     rw [hz, Nat.zero_add]; rfl
   . funext p
     show frC (aN E n (tO E n S m) (q + 1)) (aK E n (tO E n S m) (q + 1)) 0 (aV E n (tO E n S m) (q + 1)) p = _
     rw [a1, a2, a3]
     show (dS (rcG E n) (resN E n) S m (q + 1)).v (pI _ _ 0 + p) = _
     rw [hz, Nat.zero_add]; rfl
theorem stN_dC (E : EvS) (n : Nat) (S : StS) (m : Nat) : stN E n S m = rzN (rcG E n) (resN E n) S m := by
 unfold stN
 rw [aeL_atCL, atCL_len]; rfl
theorem find_congr {p q : Nat -> Bool} : ∀ {N : Nat}, (∀ j, j < N -> p j = q j) -> (List.range N).find? p = (List.range N).find? q
 | 0, _ => rfl
 | N + 1, h => by
   rw [List.range_succ, List.find?_append, List.find?_append, find_congr (N := N) (λ j hj => h j (by omega))]
   congr 1
   rw [List.find?_singleton, List.find?_singleton, h N (by omega)]
theorem fx_congr {p q : Nat -> Bool} {N : Nat} (h : ∀ j, j < N -> p j = q j) : fxI N p = fxI N q := by unfold fxI; rw [find_congr h]
theorem fx_spec {n : Nat} {p : Nat -> Bool} (h : 0 <= fxI n p) : (fxI n p).toNat < n /\ p (fxI n p).toNat = true := by
 revert h
 unfold fxI
 cases hf : (List.range n).find? p with
 | none => intro h; exact absurd h (by decide)
 | some i => exact λ _ => ⟨List.mem_range.1 (List.mem_of_find?_eq_some hf), List.find?_some hf⟩
theorem fx_nn {n : Nat} {p : Nat -> Bool} {i : Nat} (hi : i < n) (hp : p i = true) : 0 <= fxI n p := by
 unfold fxI
 cases hf : (List.range n).find? p with
 | none => exact absurd hp (by have := List.find?_eq_none.1 hf i (List.mem_range.2 hi); exact this)
 | some i => exact Int.natCast_nonneg _
theorem seg (D c : Nat) (h : D <= c) : ∀ N, c <= N -> (List.range N).filter (λ q => decide (D <= q /\ q < c)) = (List.range (c - D)).map (D + ·)
 | 0, hN => by obtain rfl : c = 0 := by omega
               simp
 | N + 1, hN => by
   rw [List.range_succ, List.filter_append]
   by_cases hc : c = N + 1
   . subst hc
     by_cases hD : D <= N
     . have e : (List.range N).filter (λ q => decide (D <= q /\ q < N + 1)) = (List.range N).filter (λ q => decide (D <= q /\ q < N)) := List.filter_congr λ q hq => by
        have := List.mem_range.1 hq
        rw [decide_eq_decide]; omega
       rw [e, seg D N hD N (Nat.le_refl _)]
       have e2 : N + 1 - D = (N - D) + 1 := by omega
       have e3 : decide (D <= N /\ N < N + 1) = true := decide_eq_true ⟨hD, by omega⟩
       rw [e2, List.range_succ, List.map_append]
       simp only [List.filter_cons, e3, if_true, List.filter_nil, List.map_cons, List.map_nil]
       rw [show D + (N - D) = N by omega]
     . have e : (List.range N).filter (λ q => decide (D <= q /\ q < N + 1)) = [] := List.filter_eq_nil_iff.2 λ q hq => by
        have := List.mem_range.1 hq
        simp; omega
       rw [e, show N + 1 - D = 0 by omega]
       simp
       omega
   . rw [seg D c h N (by omega)]
     simp
     omega
section
variable {T : TtS} {N : Nat} {fr to : Int}
theorem fr_le (hM : ∀ q, q + 1 < N -> zFr T q <= zFr T (q + 1)) : ∀ {a b : Nat}, a <= b -> b < N -> zFr T a <= zFr T b := by
 intro a b hab
 induction hab with
 | refl => exact λ _ => Int.le_refl _
 | step h ih => exact λ hb => Int.le_trans (ih (by omega)) (hM _ hb)
theorem cu_spec (to : Int) {D : Nat} (hD : D < N) : (∀ q, q < cuT T N D to -> ¬ (D < q /\ to < zFr T q)) /\ (cuT T N D to < N -> to < zFr T (cuT T N D to)) := by
 unfold cuT
 cases hf : (List.range N).find? (cuB T D to) with
 | none => exact ⟨λ q hq h => absurd (decide_eq_true h) (List.find?_eq_none.1 hf q (List.mem_range.2 hq)), λ h => absurd h (Nat.lt_irrefl _)⟩
 | some c =>
   have hc : cuB T D to c = true := List.find?_some hf
   refine ⟨λ q hq h => ?_, λ _ => (of_decide_eq_true hc).2⟩
   have hq : q < c := hq
   have h1 := (List.find?_eq_some_iff_append.1 hf).2
   obtain ⟨l1, l2, h2, h3⟩ := h1
   have hcl : l1.length = c := by
    have h4 : (List.range N)[l1.length]? = some c := by rw [h2]; simp
    have h5 : l1.length < N := by
     have := congrArg List.length h2
     simp at this; omega
    rw [List.getElem?_range h5] at h4
    exact Option.some.inj h4
   have hq2 : q ∈ l1 := by
    have h4 : (List.range N)[q]? = l1[q]? := by rw [h2, List.getElem?_append_left (by show q < l1.length; omega)]
    have h5 : q < N := by
     have := List.mem_range.1 (List.mem_of_find?_eq_some hf); omega
    rw [List.getElem?_range h5] at h4
    exact List.mem_of_getElem? h4.symm
   have := h3 q hq2
   rw [show cuB T D to q = true from decide_eq_true h] at this
   cases this
theorem dq_seg (hN : 0 < N) (hM : ∀ q, q + 1 < N -> zFr T q <= zFr T (q + 1)) (h0 : zFr T 0 <= fr) :
 dqL T N fr to N = (List.range (cuT T N (duF T N fr) to - duF T N fr)).map (duF T N fr + ·) := by
 obtain ⟨d1, d2⟩ := du_spec T fr N hN h0
 have hD := duF_lt T fr N hN
 revert d1 d2 hD
 generalize duF T N fr = D
 intro d1 d2 hD
 obtain ⟨c1, c2⟩ := cuT_lt T to hD
 obtain ⟨c3, c4⟩ := cu_spec (T := T) to hD
 rw [<- seg D (cuT T N D to) (by omega) N c2]
 unfold dqL
 refine List.filter_congr λ q hq => ?_
 have hq := List.mem_range.1 hq
 show decide _ = decide _
 rw [decide_eq_decide]
 constructor
 . rintro ⟨h1, h2⟩
   have h3 : D <= q := by
    by_cases h : D <= q
    . exact h
    . exact absurd ⟨by omega, Int.le_trans (fr_le hM (show q + 1 <= D by omega) hD) d1⟩ h1
   refine ⟨h3, ?_⟩
   by_cases h : q < cuT T N D to
   . exact h
   . have h5 := c4 (by omega)
     have h6 := fr_le hM (show cuT T N D to <= q by omega) hq
     have h7 := d2 q (by omega) hq
     rcases h2 with h2 | h2
     . exact absurd h2 h7
     . omega
 . rintro ⟨h1, h2⟩
   refine ⟨λ h => d2 (q + 1) (by omega) h.1 h.2, ?_⟩
   by_cases h : q = D
   . subst h; exact .inl d1
   . have := c3 q h2
     refine .inr ?_
     by_cases h5 : zFr T q <= to
     . exact h5
     . exact absurd ⟨by omega, by omega⟩ this
end
theorem srt_inj {n : Nat} {k : Nat -> Int} (hs : Srt n k) {i j : Nat} (hi : i < n) (hj : j < n) (h : k i = k j) : i = j := by
 rcases Nat.lt_trichotomy i j with h1 | h1 | h1
 . have := hs j i h1 hj; omega
 . exact h1
 . have := hs i j h1 hi; omega
theorem wa_st {n : Nat} {k v : Nat -> Int} {a b : Int} (hs : Srt n k) :
 decide (0 <= fxI n (keB k a) /\ k (fxI n (keB k a)).toNat = a /\ v (fxI n (keB k a)).toNat = b) = yLe 0 (fxI n (pvB k v a b)) := by
 show decide _ = decide _
 rw [decide_eq_decide]
 constructor
 . rintro ⟨h1, h2, h3⟩
   exact fx_nn (fx_spec h1).1 (decide_eq_true ⟨h2, h3⟩)
 . intro h
   obtain ⟨g1, g2⟩ := fx_spec h
   obtain ⟨g3, g4⟩ := of_decide_eq_true g2
   have h1 : 0 <= fxI n (keB k a) := fx_nn g1 (decide_eq_true g3)
   obtain ⟨f1, f2⟩ := fx_spec h1
   have f3 : k (fxI n (keB k a)).toNat = a := of_decide_eq_true f2
   have e := srt_inj hs f1 g1 (f3.trans g3.symm)
   exact ⟨h1, f3, by rw [e]; exact g4⟩
theorem inK_f {n : Nat} {k : Nat -> Int} {a : Int} : inK n k a = false ↔ fxI n (keB k a) < 0 := by
 unfold inK
 constructor
 . intro h
   have : ¬ 0 <= fxI n (keB k a) := of_decide_eq_false h
   omega
 . intro h; exact decide_eq_false (by omega)
theorem fm_ok {key hi most : Int} {n : Nat} {pk : Nat -> Int} (h : fmE key hi most n pk = 0) : ¬ most < n /\ ∀ i, i < n -> ¬ hi < pk i := by
 unfold fmE at h
 by_cases h1 : most < (n : Int)
 . rw [if_pos h1] at h; cases h
 . rw [if_neg h1] at h
   cases hf : (List.range n).find? (fmB key hi pk) with
   | some i =>
     rw [hf] at h
     cases ho : fmO key hi pk i <;> simp [ho] at h
   | none =>
     refine ⟨h1, λ i hi2 hlt => ?_⟩
     have := List.find?_eq_none.1 hf i (List.mem_range.2 hi2)
     exact this (decide_eq_true (.inr (.inl hlt)))
section
variable {T U : TtS} {N : Nat} {fr to : Int}
theorem dq_congr (hE : ∀ q, q < N -> zFr T q = zFr U q) : dqL U N fr to N = dqL T N fr to N := by
 unfold dqL
 refine List.filter_congr λ q hq => ?_
 have hq := List.mem_range.1 hq
 show decide _ = decide _
 have e : (q + 1 < N /\ zFr U (q + 1) <= fr) ↔ (q + 1 < N /\ zFr T (q + 1) <= fr) := and_congr_right λ h => by rw [hE _ h]
 rw [decide_eq_decide, e, hE q hq]
theorem one_eq {key hi most : Int} {n : Nat} {pk pv : Nat -> Int} (hN : 0 < N) (hM : ∀ q, q + 1 < N -> zFr T q <= zFr T (q + 1)) (h0 : zFr T 0 <= fr)
 (hE : ∀ q, q < N -> zFr T q = zFr U q /\ zN T q = zN U q /\ zK T q = zK U q /\ zV T q = zV U q) (hS : ∀ q, q < N -> Srt (zN T q) (zK T q)) (hm : 1 <= most) :
 chK key hi most n pk pv T N fr to = onK key hi most n pk pv U (dqL U N fr to N) /\ chE key hi most n pk pv T N fr to = onE key hi most n pk pv U (dqL U N fr to N) := by
 unfold chK chE onK onE
 by_cases hf : fmE key hi most n pk = 0
 case neg => rw [if_neg hf, if_neg hf, if_neg hf, if_neg hf]; exact ⟨rfl, rfl⟩
 rw [if_pos hf, if_pos hf, if_pos hf, if_pos hf]
 obtain ⟨f1, f2⟩ := fm_ok hf
 have hL : dqL U N fr to N = _ := (dq_congr (λ q hq => (hE q hq).1)).trans (dq_seg hN hM h0)
 have hD := duF_lt T fr N hN
 obtain ⟨c1, c2⟩ := cuT_lt T to hD
 have hMM : yNsub (cuT T N (duF T N fr) to) (duF T N fr) = cuT T N (duF T N fr) to - duF T N fr := rfl
 rw [hMM]
 obtain ⟨M, eM⟩ : ∃ M, M = cuT T N (duF T N fr) to - duF T N fr := ⟨_, rfl⟩
 rw [<- eM] at hL ⊢
 have hMN : duF T N fr + M <= N := by omega
 have hM0 : 0 < M := by omega
 revert hL hD hMN
 clear eM c1 c2 hMM
 generalize duF T N fr = D
 generalize dqL U N fr to N = L
 intro hD hL hMN
 have lN : dqN L = M := by rw [hL]; unfold dqN; rw [List.length_map, List.length_range]
 have lI : ∀ j, j < M -> dqI L j = D + j := λ j hj => by
  rw [hL]; unfold dqI
  rw [List.getD_eq_getElem?_getD, List.getElem?_map, List.getElem?_range hj]; rfl
 have l0 : dqI L 0 = D := lI 0 hM0
 obtain ⟨_, u2, u3, _⟩ := hE D hD
 have nw : ∀ p, nwB pk pv U L p = stI (shT T D) M pk pv p := λ p => by
  show yNot (yLe 0 (fxI (dqN L) (waB (dqT U L) (pk p) (pv p)))) = yNot (yLe 0 (fxI M (stB (shT T D) (pk p) (pv p))))
  rw [lN]
  have := fx_congr (N := M) (p := waB (dqT U L) (pk p) (pv p)) (q := stB (shT T D) (pk p) (pv p)) (λ j hj => by
   obtain ⟨_, e2, e3, e4⟩ := hE (D + j) (by omega)
   show decide (0 <= fxI (zN U (dqI L j)) (keB (zK U (dqI L j)) (pk p)) /\ zK U (dqI L j) (fxI (zN U (dqI L j)) (keB (zK U (dqI L j)) (pk p))).toNat = pk p /\ zV U (dqI L j) (fxI (zN U (dqI L j)) (keB (zK U (dqI L j)) (pk p))).toNat = pv p) = yLe 0 (fxI (zN T (D + j)) (pvB (zK T (D + j)) (zV T (D + j)) (pk p) (pv p)))
   rw [lI j hj, <- e2, <- e3, <- e4]
   exact wa_st (hS _ (by omega)))
  rw [this]
 have alw : ∀ x, alwV (dqT U L) M x = true ↔ ∀ q, q < M -> inK (zN T (D + q)) (zK T (D + q)) x = true := λ x => by
  have hal : ∀ q, q < M -> alB (dqT U L) x q = yNot (inK (zN T (D + q)) (zK T (D + q)) x) := λ q hq => by
   obtain ⟨_, e2, e3, _⟩ := hE (D + q) (by omega)
   show yLt (fxI (zN U (dqI L q)) (keB (zK U (dqI L q)) x)) 0 = _
   rw [lI q hq, <- e2, <- e3]
   cases hk : inK (zN T (D + q)) (zK T (D + q)) x with
   | false => exact decide_eq_true (inK_f.1 hk)
   | true =>
     have h : (0 : Int) <= fxI (zN T (D + q)) (keB (zK T (D + q)) x) := of_decide_eq_true hk
     exact decide_eq_false (by omega)
  constructor
  . intro h q hq
    have h : fxI M (alB (dqT U L) x) < 0 := of_decide_eq_true h
    cases hk : inK (zN T (D + q)) (zK T (D + q)) x with
    | true => rfl
    | false =>
      have := fx_nn (p := alB (dqT U L) x) hq (by rw [hal q hq, hk]; rfl)
      omega
  . intro h
    refine decide_eq_true (show fxI M (alB (dqT U L) x) < 0 from ?_)
    by_cases h1 : 0 <= fxI M (alB (dqT U L) x)
    . obtain ⟨g1, g2⟩ := fx_spec h1
      rw [hal _ g1, h _ g1] at g2
      cases g2
    . omega
 have lk : ∀ p, p < zN T D -> lkB key hi most n pk U L p = laB key (hiL hi most n pk) n pk (shT T D) M p := λ p hp => by
  show decide (¬ (zK U (dqI L 0) p < key ∨ hi < zK U (dqI L 0) p ∨ ((n : Int) = most /\ pk (n - 1) < zK U (dqI L 0) p)) /\ alwV (dqT U L) (dqN L) (zK U (dqI L 0) p) = true /\ fxI n (keB pk (zK U (dqI L 0) p)) < 0) = decide (key <= zK T D p /\ zK T D p <= hiL hi most n pk /\ inK n pk (zK T D p) = false /\ ∀ q, q < M -> 0 < q -> inK (zN T (D + q)) (zK T (D + q)) (zK T D p) = true)
  rw [l0, <- u3, lN, decide_eq_decide, alw, inK_f]
  have h00 : inK (zN T (D + 0)) (zK T (D + 0)) (zK T D p) = true := decide_eq_true (fx_nn hp (decide_eq_true rfl))
  have hh : hiL hi most n pk = if (n : Int) = most then pk (n - 1) else hi := by
   unfold hiL
   by_cases h : (n : Int) = most
   . rw [if_pos h, if_pos (by omega)]
   . rw [if_neg h, if_neg (by omega)]
  rw [hh]
  constructor
  . rintro ⟨h1, h2, h3⟩
    refine ⟨?_, ?_, h3, λ q hq _ => h2 q hq⟩
    . by_cases h : zK T D p < key
      . exact absurd (.inl h) h1
      . omega
    . by_cases h : (n : Int) = most
      . rw [if_pos h]
        by_cases h4 : pk (n - 1) < zK T D p
        . exact absurd (.inr (.inr ⟨h, h4⟩)) h1
        . omega
      . rw [if_neg h]
        by_cases h4 : hi < zK T D p
        . exact absurd (.inr (.inl h4)) h1
        . omega
  . rintro ⟨h1, h2, h3, h4⟩
    refine ⟨?_, λ q hq => ?_, h3⟩
    . by_cases h : (n : Int) = most
      . rw [if_pos h] at h2
        have := f2 (n - 1) (by omega)
        rintro (h5 | h5 | ⟨_, h5⟩) <;> omega
      . rw [if_neg h] at h2
        rintro (h5 | h5 | ⟨h5, _⟩)
        . omega
        . omega
        . exact h h5
    . by_cases h : q = 0
      . subst h; exact h00
      . exact h4 q hq (by omega)
 have nwf : (List.range n).find? (nwB pk pv U L) = (List.range n).find? (stI (shT T D) M pk pv) := find_congr λ p _ => nw p
 have lkf : (List.range (zN U (dqI L 0))).find? (lkB key hi most n pk U L) = laI key (hiL hi most n pk) n pk (shT T D) M := by
  rw [l0, <- u2]
  exact find_congr (N := zN T D) lk
 unfold ckK ckE o2K o2E laS laK
 rw [nwf, lkf, l0, <- u3]
 cases (List.range n).find? (stI (shT T D) M pk pv) with
 | some p => exact ⟨rfl, rfl⟩
 | none =>
   cases laI key (hiL hi most n pk) n pk (shT T D) M with
   | some p => exact ⟨rfl, rfl⟩
   | none => exact ⟨rfl, rfl⟩
end
theorem gEvS (E : EvS) : ∀ i, ∀ j, j < (gS E i).n -> (gS E i).ev j < i
 | 0, j, hj => absurd hj (Nat.not_lt_zero _)
 | i + 1, j, hj => by
   have ih := gEvS E i
   revert hj
   show j < (bif (gS E i).ok then gs1 E i (gS E i) else gS E i).n -> (bif (gS E i).ok then gs1 E i (gS E i) else gS E i).ev j < i + 1
   cases hok : (gS E i).ok with
   | false => exact λ h => Nat.lt_succ_of_lt (ih j h)
   | true =>
     rw [cond_true]
     rcases gs1_cases E i (gS E i) with h | ⟨h2, h1, h3⟩ | ⟨h3, h1, h4⟩
     . rw [h]; exact λ h => Nat.lt_succ_of_lt (ih j h)
     . rw [gs1_t2 h1 h2 h3]
       intro hj
       show (if j = (gS E i).n then i else (gS E i).ev j) < i + 1
       by_cases hjn : j = (gS E i).n
       . rw [if_pos hjn]; omega
       . rw [if_neg hjn]
         have hj : j < (gS E i).n + 1 := hj
         exact Nat.lt_succ_of_lt (ih j (by omega))
     . rw [gs1_t3 h1 (by omega) h3 h4]; exact λ h => Nat.lt_succ_of_lt (ih j h)
theorem gEv_in {E : EvS} {n j : Nat} (h : j < resN E n) : gEv E n j < n := by
 refine gEvS E n j ?_
 unfold resN at h
 cases hk : gOk E n <;> rw [hk] at h
 . exact absurd h (Nat.not_lt_zero _)
 . exact h
theorem aeL_sorted (E : EvS) (n : Nat) (S : StS) (m : Nat) : (aeL E n S m).Pairwise (· < ·) := by
 unfold aeL
 rw [List.pairwise_filterMap]
 refine List.pairwise_lt_range.imp λ {a b} hab => ?_
 intro c hc d hd
 split at hc
 . split at hd
   . simp at hc hd; omega
   . cases hd
 . cases hc
theorem tFr_mono (E : EvS) (n : Nat) (S : StS) (m : Nat) : ∀ q, q + 1 < stN E n S m -> tFr E n S m q <= tFr E n S m (q + 1)
 | 0, _ => Int.natCast_nonneg _
 | q + 1, h => by
   have h : q + 1 < (aeL E n S m).length := Nat.lt_of_succ_lt_succ h
   show (((aeL E n S m)[q]?.getD 0 : Nat) : Int) <= (((aeL E n S m)[q + 1]?.getD 0 : Nat) : Int)
   rw [List.getElem?_eq_getElem h, List.getElem?_eq_getElem (show q < (aeL E n S m).length by omega)]
   have := List.pairwise_iff_getElem.1 (aeL_sorted E n S m) q (q + 1) (by omega) h (by omega)
   exact Int.ofNat_le.2 (Nat.le_of_lt this)
theorem one_rz {E : EvS} {n : Nat} {S : StS} {m j : Nat} (hK : ∀ j, j < resN E n -> 0 <= eKey E (gEv E n j)) (hj : j < resN E n) (h4 : yEq (eOk E (gEv E n j)) 4 = true) :
 oneK E n S m j = rzK (rcG E n) (resN E n) S m j /\ oneE E n S m j = rzE (rcG E n) (resN E n) S m j := by
 have hN := stN_dC E n S m
 have hE : ∀ q, q < rzN (rcG E n) (resN E n) S m -> zFr (stT E n S m) q = zFr (rzT (rcG E n) (resN E n) S m) q /\ zN (stT E n S m) q = zN (rzT (rcG E n) (resN E n) S m) q /\ zK (stT E n S m) q = zK (rzT (rcG E n) (resN E n) S m) q /\ zV (stT E n S m) q = zV (rzT (rcG E n) (resN E n) S m) q :=
  λ q hq => st_eq hK q (Nat.le_of_lt_succ hq)
 unfold oneK oneE
 rw [hN]
 refine one_eq (U := rzT (rcG E n) (resN E n) S m) (N := rzN (rcG E n) (resN E n) S m) (Nat.succ_pos _) (λ q hq => tFr_mono E n S m q (by rw [hN]; exact hq)) (gIa hj).2 hE (λ q hq => ?_) (of_decide_eq_true (sc_right hj h4).2)
 obtain ⟨_, e2, e3, _⟩ := hE q hq
 rw [e2, e3]
 exact (dInv (rcG E n) (resN E n) S m q).1
theorem plainSc {E : EvS} {n : Nat} {S : StS} {m : Nat} {x : Int} (hK0 : ∀ i, i < n -> 0 <= eKey E i) :
 kcK E n S m x = kdK E n S m x /\ kcE E n S m x = kdE E n S m x /\ kfI E n S m = kdI E n S m /\ kfE E n S m = kdF E n S m := by
 have hK : ∀ j, j < resN E n -> 0 <= eKey E (gEv E n j) := λ j hj => hK0 _ (gEv_in hj)
 unfold kcK kdK kcE kdE kfI kdI kfE kdF
 by_cases hok : gOk E n = true
 case neg => simp only [if_neg hok]; exact ⟨trivial, trivial, trivial, trivial⟩
 simp only [if_pos hok]
 have one : kcK E n S m x = kdK E n S m x /\ kcE E n S m x = kdE E n S m x := by
  unfold kcK kdK kcE kdE
  simp only [if_pos hok]
  cases hd : dxB (rcG E n) (resN E n) x with
  | true =>
    obtain ⟨d1, d2, d3, d4⟩ := of_decide_eq_true hd
    obtain ⟨j, rfl⟩ : ∃ j : Nat, x = (j : Int) + 1 := ⟨(x - 1).toNat, by omega⟩
    have hs : ((j : Int) + 1).toNat - 1 = j := by omega
    rw [hs] at d3 d4 ⊢
    have hj : j < resN E n := by omega
    have h4 : yEq (eOk E (gEv E n j)) 4 = true := decide_eq_true d3
    have h5 : cOv (gEn E n j) = true := d4
    have hb : ∀ i, i < j -> kcB E n ((j : Int) + 1) i = false := λ i hi => by
     have h1 : yEq (eId E (gEv E n i)) ((j : Int) + 1) = false := decide_eq_false (by rw [(gIa (show i < resN E n by omega)).1]; omega)
     show yAnd (yEq (eId E (gEv E n i)) ((j : Int) + 1)) (scB E n i) = false
     rw [h1]; rfl
    have hb2 : kcB E n ((j : Int) + 1) j = true := by
     have h1 : yEq (eId E (gEv E n j)) ((j : Int) + 1) = true := decide_eq_true (gIa hj).1
     show yAnd (yEq (eId E (gEv E n j)) ((j : Int) + 1)) (yAnd (yEq (eOk E (gEv E n j)) 4) (cOv (gEn E n j))) = true
     rw [h1, h4, h5]; rfl
    rw [find_range hb hb2 _ hj]
    exact one_rz hK hj h4
  | false =>
    have hb : ∀ j, j < resN E n -> kcB E n x j = false := λ j hj => by
     cases hk : kcB E n x j with
     | false => rfl
     | true =>
       obtain ⟨k1, k2⟩ := yAnd_t.mp hk
       obtain ⟨k2, k3⟩ := yAnd_t.mp k2
       have k1 : eId E (gEv E n j) = x := of_decide_eq_true k1
       rw [(gIa hj).1] at k1
       subst k1
       have hs : ((j : Int) + 1).toNat - 1 = j := by omega
       rw [show dxB (rcG E n) (resN E n) ((j : Int) + 1) = true from decide_eq_true ⟨by omega, by omega, by rw [hs]; exact of_decide_eq_true k2, by rw [hs]; exact k3⟩] at hd
       cases hd
    rw [find_none hb]
    exact ⟨rfl, rfl⟩
 have two : kfI E n S m = kdI E n S m /\ kfE E n S m = kdF E n S m := by
  unfold kfI kdI kfE kdF
  simp only [if_pos hok]
  have hc : (List.range (resN E n)).find? (kfB E n S m) = (List.range (resN E n)).find? (dfB (rcG E n) (resN E n) S m) := find_congr λ j hj => by
   show yAnd (yAnd (yEq (eOk E (gEv E n j)) 4) (cOv (gEn E n j))) (yNot (yEq (oneE E n S m j) 0)) = yAnd (yEq (eOk E (gEv E n j)) 4) (yAnd (cOv (gEn E n j)) (yNot (yEq (rzE (rcG E n) (resN E n) S m j) 0)))
   cases h4 : yEq (eOk E (gEv E n j)) 4 with
   | false => rfl
   | true =>
     rw [(one_rz (S := S) (m := m) hK hj h4).2]
     cases cOv (gEn E n j) <;> rfl
  rw [<- hc]
  cases hf : (List.range (resN E n)).find? (kfB E n S m) with
  | none => exact ⟨rfl, rfl⟩
  | some j =>
    have hj : j < resN E n := List.mem_range.1 (List.mem_of_find?_eq_some hf)
    have hb : kfB E n S m j = true := List.find?_some hf
    obtain ⟨k1, _⟩ := yAnd_t.mp hb
    obtain ⟨k1, _⟩ := yAnd_t.mp k1
    exact ⟨rfl, (one_rz hK hj k1).2⟩
 unfold kcK kdK kcE kdE at one
 unfold kfI kdI kfE kdF at two
 simp only [if_pos hok] at one two
 exact ⟨one.1, one.2, two.1, two.2⟩
def kEvT : List KT := [.sc (.int .i64), .sc (.int .i64), .sc (.int .i64), .sc (.int .i64), .sc (.int .i64), .sc (.int .u64), .sc (.int .u64), .sc (.int .u64), .sc (.int .i64), .sc (.int .i64), .sc (.int .u64), .ls [.sc (.int .u64), .sc (.int .u64)]]
def cEv (w : World) (v : Value) (p j : Nat) : Value := cellAt w v (p * 12 + j)
def evOf (w : World) (v : Value) : EvS := ⟨λ p => Ex.intOf (cEv w v p 0), λ p => Ex.intOf (cEv w v p 1), λ p => Ex.intOf (cEv w v p 2), λ p => Ex.intOf (cEv w v p 3), λ p => Ex.intOf (cEv w v p 4), λ p => Ex.intOf (cEv w v p 5), λ p => Ex.intOf (cEv w v p 6), λ p => Ex.intOf (cEv w v p 7), λ p => Ex.intOf (cEv w v p 8), λ p => Ex.intOf (cEv w v p 9), λ p => Ex.intOf (cEv w v p 10), λ p => nilOf (cEv w v p 11), λ p => lenOf (cEv w v p 11), λ p q => Ex.intOf (cellAt w (cEv w v p 11) (q * 2)), λ p q => Ex.intOf (cellAt w (cEv w v p 11) (q * 2 + 1))⟩
theorem evOf_R {w : World} {v : Value} (r : (avT w (.ls kEvT) v).R (Mw w) v) : (AV.lst false (nilOf v) 12 (lenOf v) (colF (colsE (evOf w v)))).R (Mw w) v := by
 have r : (AV.lst false (nilOf v) 12 (lenOf v) (λ p j => avTs w kEvT j (λ q => cellAt w v (p * 12 + q)) 0)).R (Mw w) v := by
  simp only [avT] at r; exact r
 refine lst_eq r λ p j hj => ?_
 match j, hj with
 | 0, _ => rfl
 | 1, _ => rfl
 | 2, _ => rfl
 | 3, _ => rfl
 | 4, _ => rfl
 | 5, _ => rfl
 | 6, _ => rfl
 | 7, _ => rfl
 | 8, _ => rfl
 | 9, _ => rfl
 | 10, _ => rfl
 | 11, _ =>
   have e : (λ p' j' => avTs w [.sc (.int .u64), .sc (.int .u64)] j' (λ q => cellAt w (cEv w v p 11) (p' * 2 + q)) 0) = cl2F [Cl2.int .u64 (ePk (evOf w v)), Cl2.int .u64 (ePv (evOf w v))] p := by
    funext p' j'
    match j' with
    | 0 => rfl
    | 1 => rfl
    | _ + 2 => rfl
   have e2 : avT w (.ls [.sc (.int .u64), .sc (.int .u64)]) (cEv w v p 11) = .lst false (nilOf (cEv w v p 11)) 2 (lenOf (cEv w v p 11)) (cl2F [Cl2.int .u64 (ePk (evOf w v)), Cl2.int .u64 (ePv (evOf w v))] p) := by
    rw [<- e]; simp only [avT]; rfl
   exact e2
theorem evOf_len {w : World} {v : Value} (h : OkT w (.ls kEvT) v) : lenOf v <= maxLen := by
 simp only [OkT] at h
 rcases h with rfl | ⟨a, n, c, rfl, _, h, _⟩
 . exact Nat.zero_le _
 . exact h
theorem okT_nil {w : World} {l : List KT} {v : Value} (h : OkT w (.ls l) v) (hn : nilOf v = true) : lenOf v = 0 := by
 simp only [OkT] at h
 rcases h with rfl | ⟨a, n, c, rfl, _, _, _⟩
 . rfl
 . cases hn
def kStT : List KT := [.sc (.int .i64), .sc (.int .i64), .sc (.int .i64), .sc (.int .u64), .sc (.int .u64), .sc (.int .u64), .ls [.sc (.int .i64), .sc (.int .u64), .sc (.int .u64)]]
def cStp (w : World) (v : Value) (p j : Nat) : Value := cellAt w v (p * 7 + j)
def stOf (w : World) (v : Value) : StS := ⟨λ p => Ex.intOf (cStp w v p 0), λ p => Ex.intOf (cStp w v p 1), λ p => Ex.intOf (cStp w v p 2), λ p => Ex.intOf (cStp w v p 3), λ p => Ex.intOf (cStp w v p 4), λ p => Ex.intOf (cStp w v p 5), λ p => nilOf (cStp w v p 6), λ p => lenOf (cStp w v p 6), λ p q => Ex.intOf (cellAt w (cStp w v p 6) (q * 3)), λ p q => Ex.intOf (cellAt w (cStp w v p 6) (q * 3 + 1)), λ p q => Ex.intOf (cellAt w (cStp w v p 6) (q * 3 + 2))⟩
theorem stOf_R {w : World} {v : Value} (r : (avT w (.ls kStT) v).R (Mw w) v) : (AV.lst false (nilOf v) 7 (lenOf v) (colF (colsS (stOf w v)))).R (Mw w) v := by
 have r : (AV.lst false (nilOf v) 7 (lenOf v) (λ p j => avTs w kStT j (λ q => cellAt w v (p * 7 + q)) 0)).R (Mw w) v := by
  simp only [avT] at r; exact r
 refine lst_eq r λ p j hj => ?_
 match j, hj with
 | 0, _ => rfl
 | 1, _ => rfl
 | 2, _ => rfl
 | 3, _ => rfl
 | 4, _ => rfl
 | 5, _ => rfl
 | 6, _ =>
   have e : (λ p' j' => avTs w [.sc (.int .i64), .sc (.int .u64), .sc (.int .u64)] j' (λ q => cellAt w (cStp w v p 6) (p' * 3 + q)) 0) = cl2F [Cl2.int .i64 (sMk (stOf w v)), Cl2.int .u64 (sMa (stOf w v)), Cl2.int .u64 (sMb (stOf w v))] p := by
    funext p' j'
    match j' with
    | 0 => rfl
    | 1 => rfl
    | 2 => rfl
    | _ + 3 => rfl
   have e2 : avT w (.ls [.sc (.int .i64), .sc (.int .u64), .sc (.int .u64)]) (cStp w v p 6) = .lst false (nilOf (cStp w v p 6)) 3 (lenOf (cStp w v p 6)) (cl2F [Cl2.int .i64 (sMk (stOf w v)), Cl2.int .u64 (sMa (stOf w v)), Cl2.int .u64 (sMb (stOf w v))] p) := by
    rw [<- e]; simp only [avT]; rfl
   exact e2
theorem okT_len {w : World} {l : List KT} {v : Value} (h : OkT w (.ls l) v) : lenOf v <= maxLen := by
 simp only [OkT] at h
 rcases h with rfl | ⟨a, n, c, rfl, _, h, _⟩
 . exact Nat.zero_le _
 . exact h
end Go.Proofs.Ytknfdbilpfblnaa.Ex
end
