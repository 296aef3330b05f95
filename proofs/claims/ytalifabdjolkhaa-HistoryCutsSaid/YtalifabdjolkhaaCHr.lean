/- Events in memory, read as columns. -/
import Derived.Test.YtalifabdjolkhaaCHq
import Derived.Test.YtalifabdjolkhaaWp
namespace Go.Proofs.Ytalifabdjolkhaa.Ex
open Go

def kEvT : List KT := [.sc (.int .i64), .sc (.int .i64), .sc (.int .i64), .sc (.int .i64), .sc (.int .i64), .sc (.int .u64), .sc (.int .u64), .sc (.int .u64), .sc (.int .i64), .sc (.int .i64), .sc (.int .u64), .ls [.sc (.int .u64), .sc (.int .u64)]]
/-- Cell j of event p. -/
def cEv (w : World) (v : Value) (p j : Nat) : Value := cellAt w v (p * 12 + j)
def evOf (w : World) (v : Value) : EvS := ⟨fun p => Ex.intOf (cEv w v p 0), fun p => Ex.intOf (cEv w v p 1), fun p => Ex.intOf (cEv w v p 2), fun p => Ex.intOf (cEv w v p 3), fun p => Ex.intOf (cEv w v p 4), fun p => Ex.intOf (cEv w v p 5), fun p => Ex.intOf (cEv w v p 6), fun p => Ex.intOf (cEv w v p 7), fun p => Ex.intOf (cEv w v p 8), fun p => Ex.intOf (cEv w v p 9), fun p => Ex.intOf (cEv w v p 10), fun p => nilOf (cEv w v p 11), fun p => lenOf (cEv w v p 11), fun p q => Ex.intOf (cellAt w (cEv w v p 11) (q * 2)), fun p q => Ex.intOf (cellAt w (cEv w v p 11) (q * 2 + 1))⟩
theorem evOf_R {w : World} {v : Value} (r : (avT w (.ls kEvT) v).R (Mw w) v) : (AV.lst false (nilOf v) 12 (lenOf v) (colF (colsE (evOf w v)))).R (Mw w) v := by
  have r : (AV.lst false (nilOf v) 12 (lenOf v) (fun p j => avTs w kEvT j (fun q => cellAt w v (p * 12 + q)) 0)).R (Mw w) v := by
    simp only [avT] at r; exact r
  refine lst_eq r fun p j hj => ?_
  match j, hj with
  | 0, _ => rfl
  | 1, _ => rfl
  | 2, _ => rfl
  | 3, _ => rfl
  | 4, _ => rfl
  | 5, _ => rfl
  | 6, _ => rfl
  | 7, _ => rfl
  | 8, _ => rfl
  | 9, _ => rfl
  | 10, _ => rfl
  | 11, _ =>
    have e : (fun p' j' => avTs w [.sc (.int .u64), .sc (.int .u64)] j' (fun q => cellAt w (cEv w v p 11) (p' * 2 + q)) 0) = cl2F [Cl2.int .u64 (ePk (evOf w v)), Cl2.int .u64 (ePv (evOf w v))] p := by
      funext p' j'
      match j' with
      | 0 => rfl
      | 1 => rfl
      | _ + 2 => rfl
    have e2 : avT w (.ls [.sc (.int .u64), .sc (.int .u64)]) (cEv w v p 11) = .lst false (nilOf (cEv w v p 11)) 2 (lenOf (cEv w v p 11)) (cl2F [Cl2.int .u64 (ePk (evOf w v)), Cl2.int .u64 (ePv (evOf w v))] p) := by
      rw [← e]; simp only [avT]; rfl
    exact e2
theorem evOf_len {w : World} {v : Value} (h : OkT w (.ls kEvT) v) : lenOf v ≤ maxLen := by
  simp only [OkT] at h
  rcases h with rfl | ⟨a, n, c, rfl, _, h, _⟩
  · exact Nat.zero_le _
  · exact h
theorem okT_nil {w : World} {l : List KT} {v : Value} (h : OkT w (.ls l) v) (hn : nilOf v = true) : lenOf v = 0 := by
  simp only [OkT] at h
  rcases h with rfl | ⟨a, n, c, rfl, _, _, _⟩
  · rfl
  · cases hn
end Go.Proofs.Ytalifabdjolkhaa.Ex
