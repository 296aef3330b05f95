/- The law EditPlays, walked: a change that may be, and one that may not. What stays true of a change of a leaf, whatever it is told. -/
import Derived.Test.YtlfehgagnelbhaaGreatDoorCEx
import Derived.Test.YtlfehgagnelbhaaGreatDoorWi
namespace Go.Proofs.YtlfehgagnelbhaaGreatDoor.Ex
open Go

-- OPEN prEp msEp prZ msZ
/-! New, where it goes, and where it does not. -/
abbrev E0 (h v n kd ix key val : Int) : EdS := ⟨h, v, n, kd, ix, key, val, 1, false, true, 0, fun _ => 0, true, 0, fun _ => 0, 0, true, 0, fun _ => 0, fun _ => 0⟩
abbrev zEdP : Dx := .l [.v (.i .u64 0), .v (.i .u64 0), .v (.i .i64 0), .v (.i .i64 0), .v (.i .u64 0), .v (.i .u64 0), .v (.i .i64 0), .v (.b false), .v (.i .i64 0), .v (.i .i64 0), .v (.i .i64 0), .v (.i .i64 0), .v (.i .i64 0), .v (.i .i64 0), .v (.i .i64 0), .v (.i .i64 0), .v (.i .u64 0), .v (.i .u64 0), .v (.i .i64 0), .v (.i .i64 0), .v (.b false), .rows true 0 [.int .u64 (fun _ => 0)], .rows true 0 [.int .u64 (fun _ => 0)], .v (.i .u64 0), .rows true 0 [.int .i64 (fun _ => 0), .int .u64 (fun _ => 0)], .v (.i .i64 0), .v (.i .u64 0), .v (.i .u64 0)]
abbrev zEdR : Dx := .l [.v (.i .u64 0), .v (.i .u64 0), .v (.i .i64 0), .v (.i .i64 0), .v (.i .i64 0), .v (.i .u64 0), .v (.i .u64 0), .v (.i .i64 0), .v (.i .i64 3), .v (.b false), .rows true 0 [.int .u64 (fun _ => 0)], .rows true 0 [.int .u64 (fun _ => 0)], .v (.i .u64 0), .rows true 0 [.int .i64 (fun _ => 0), .int .u64 (fun _ => 0)], .rows true 0 [.int .i64 (fun _ => 0), .int .u64 (fun _ => 0), .int .u64 (fun _ => 0)]]
abbrev zConf : Dx := .l [.v (.i .i64 0), .v (.i .i64 0), .v (.i .i64 0), .v (.i .i64 0), .v (.i .i64 0)]
def fLnT (ds : List Dx) : Option (Bool × Dx × List (List Dx)) :=
  match ds with
  | [.l [.v (.y .i64 s), .v (.y .i64 t), .v (.y .i64 f), .v (.y .i64 l), .v (.y .i64 p)]] => some (rightC s t f l p, dCf s t f l p, [])
  | _ => none
def fLnF (ds : List Dx) : Option (Bool × Dx × List (List Dx)) :=
  match ds with
  | [.l [.v (.y .i64 s), .v (.y .i64 t), .v (.y .i64 f), .v (.y .i64 l), .v (.y .i64 p)]] => some (yNot (rightC s t f l p), zConf, [])
  | _ => none
def fWrongT (ds : List Da) : Option (Bool × AV) :=
  match ds with
  | [.agg [.v (.y .i64 s), .v (.y .i64 t), .v (.y .i64 f), .v (.y .i64 l), .v (.y .i64 p)]] => some (rightC s t f l p, .i .i64 (-1))
  | _ => none
def fNwPT (ds : List Dx) : Option (Bool × Dx × List (List Dx)) :=
  match ds with
  | [.l [.v (.y .i64 ls), .v (.y .i64 lt), .v (.y .i64 lf), .v (.y .i64 ll), .v (.y .i64 lp)], .l [.v (.y .u64 sp), .v (.y .u64 sv), .v (.y .i64 sn), .v (.y .i64 si), .v (.y .u64 h), .v (.y .u64 v), .v (.y .i64 n), .v (.yb inr), .v (.y .i64 dp)], .l [.v (.y .i64 kd), .v (.y .i64 ix), .v (.y .u64 key), .v (.y .u64 val)]] =>
    some (yAnd (inU h) (okNw h n kd inr ls lf), dEdP sp sv sn si inr dp ls lt lf ll lp (E0 h v n kd ix key val) 0 0 0 0, [])
  | _ => none
def fNwPF (ds : List Dx) : Option (Bool × Dx × List (List Dx)) :=
  match ds with
  | [.l [.v (.y .i64 ls), .v (.y .i64 _), .v (.y .i64 lf), .v (.y .i64 _), .v (.y .i64 _)], .l [.v (.y .u64 _), .v (.y .u64 _), .v (.y .i64 _), .v (.y .i64 _), .v (.y .u64 h), .v (.y .u64 _), .v (.y .i64 n), .v (.yb inr), .v (.y .i64 _)], .l [.v (.y .i64 kd), .v (.y .i64 _), .v (.y .u64 _), .v (.y .u64 _)]] =>
    some (yAnd (inU h) (yNot (okNw h n kd inr ls lf)), zEdP, [])
  | _ => none
def fNwRT (ds : List Dx) : Option (Bool × Dx × List (List Dx)) :=
  match ds with
  | [.l [.v (.y .i64 cs), .v (.y .i64 _), .v (.y .i64 cf), .v (.y .i64 _), .v (.y .i64 _)], .l [.v (.y .u64 _), .v (.y .u64 _), .v (.y .i64 _), .v (.y .i64 _), .v (.y .u64 h), .v (.y .u64 v), .v (.y .i64 n), .v (.yb inr), .v (.y .i64 _), .v (.y .i64 _), .v (.y .i64 _), .v (.y .u64 _), .v (.yb _), .v (.yb _), .v (.y .i64 _), .v (.y .i64 _), .v (.y .i64 _), .v (.y .i64 _), .v (.y .i64 _), .v (.y .u64 _), .v (.y .u64 _), .rows _ _ [.int .i64 _, .int .u64 _, .int .u64 _]], .v (.y .i64 kd), .v (.y .i64 ix), .v (.y .u64 key), .v (.y .u64 val)] =>
    some (yAnd (inU h) (okNw h n kd inr cs cf), dEdR (E0 h v n kd ix key val) 0 0 0, [])
  | _ => none
def fNwRF (ds : List Dx) : Option (Bool × Dx × List (List Dx)) :=
  match ds with
  | [.l [.v (.y .i64 cs), .v (.y .i64 _), .v (.y .i64 cf), .v (.y .i64 _), .v (.y .i64 _)], .l [.v (.y .u64 _), .v (.y .u64 _), .v (.y .i64 _), .v (.y .i64 _), .v (.y .u64 h), .v (.y .u64 _), .v (.y .i64 n), .v (.yb inr), .v (.y .i64 _), .v (.y .i64 _), .v (.y .i64 _), .v (.y .u64 _), .v (.yb _), .v (.yb _), .v (.y .i64 _), .v (.y .i64 _), .v (.y .i64 _), .v (.y .i64 _), .v (.y .i64 _), .v (.y .u64 _), .v (.y .u64 _), .rows _ _ [.int .i64 _, .int .u64 _, .int .u64 _]], .v (.y .i64 kd), .v (.y .i64 _), .v (.y .u64 _), .v (.y .u64 _)] =>
    some (yAnd (inU h) (yNot (okNw h n kd inr cs cf)), zEdR, [])
  | _ => none
def goalLnF : Prop := ∀ (s t f l p : Int), yNot (rightC s t f l p) = true → wxP Tryz.prog (smL lEd) (fun _ => none) 7 [sConf] [dCf s t f l p] sConf zConf []
def goalNwPF : Prop := ∀ (sp sv sn si h v n : Int) (inr : Bool) (dp ls lt lf ll lp kd ix key val : Int), inU h = true → yNot (okNw h n kd inr ls lf) = true →
  wxP Tryz.prog (smL lEd) (fun _ => none) 6 [sConf, sSpot, rW4] [dCf ls lt lf ll lp, dSpot sp sv sn si h v n inr dp, .l [.v (.y .i64 kd), .v (.y .i64 ix), .v (.y .u64 key), .v (.y .u64 val)]] sEdP zEdP []
def goalNwRF : Prop := ∀ (sp sv sn si h v n : Int) (inr : Bool) (dp th mo wkey : Int) (slow chain : Bool) (at_ out sk sl sh skey child : Int) (mn : Bool) (ml : Nat) (m1 m2 m3 : Nat → Int) (cs ct cf cl cp kd ix key val : Int), inU h = true → yNot (okNw h n kd inr cs cf) = true →
  wxP Tryz.prog (smL lEd) (fun _ => none) 8 [sConf, sWk20, .sc, .sc, .sc, .sc] [dCf cs ct cf cl cp, dWk20 sp sv sn si h v n inr dp th mo wkey slow chain at_ out sk sl sh skey child mn ml m1 m2 m3, .v (.y .i64 kd), .v (.y .i64 ix), .v (.y .u64 key), .v (.y .u64 val)] sEdR zEdR []
def lEpT : List (Nat × Sm) := [(7, .ct (ctX [sConf] sConf fLnT)), (6, .ct (ctX [sConf, sSpot, rW4] sEdP fNwPT)), (8, .ct (ctX [sConf, sWk20, .sc, .sc, .sc, .sc] sEdR fNwRT)), (10, .ct (ctS gConf fWrongT)),
  (11, .ct (ctX [sEdP] (.tup [.sc, .sc]) fDnP)), (13, .ct (ctX [sEdP] rW4 fWtP)), (14, .ct (ctX [sConf, sEdR] rW4 fWtR)), (15, .ct (ctX [sEdR] .sc fOlR)),
  (16, .ct (ctS gSM fSM)), (18, .ct (ctS gSI fSI)), (20, .ct (ctX [sEdP, .sc] sEdP fTkP)), (21, .ct (ctX [sConf, sEdR, .sc] sEdR fTkR)),
  (65, .ct (ctS gW fSl16)), (12, .ct (ctS gW fSl16)), (5, .call (smB true))]
def lEpF1 : List (Nat × Sm) := [(7, .ct (ctX [sConf] sConf fLnF)), (6, .ct (ctX [sConf, sSpot, rW4] sEdP fNwPF)), (8, .ct (ctX [sConf, sWk20, .sc, .sc, .sc, .sc] sEdR fNwR)), (10, .ct (ctS gConf fWrong)), (16, .ct (ctS gSM fSM)), (5, .call (smB true))]
def lEpF2 : List (Nat × Sm) := [(7, .ct (ctX [sConf] sConf fLnT)), (6, .ct (ctX [sConf, sSpot, rW4] sEdP fNwPF)), (8, .ct (ctX [sConf, sWk20, .sc, .sc, .sc, .sc] sEdR fNwRF)), (10, .ct (ctS gConf fWrongT)), (16, .ct (ctS gSM fSM)), (5, .call (smB true))]
/-- Where the loop stands: the state, the outcome, the mark, how many were told. -/
structure EdI where
  e : EdS
  po : Int
  mq : Int
  mb : Int
  i : Nat
instance : Inhabited EdI := ⟨⟨default, 0, 0, 0, 0⟩⟩
def prEp (cs ct cf cl cp h : Int) (m : Nat) (x : EdI) : Prop :=
  x.i ≤ m + 1 ∧ invE cs ct cf cl cp x.e = true ∧ (x.e.at_ ≠ 0 → x.e.h = h) ∧ invO x.e x.po = true ∧ (x.e.at_ = 0 → x.po = 1 ∨ x.po = 3)
def msEp (m : Nat) (x : EdI) : Nat := m + 1 - x.i
abbrev cellsX (s : Sx) (d : Dx) : List AV := match (canX nmI s d []).1 with | .agg vs => vs | _ => []
def annEpT (cs ct cf cl cp sp sv sn si h : Int) (inr : Bool) (dp : Int) (m : Nat) (b : Nat) : Option (St → LoopA) :=
  match b with
  | 0 => some fun _ => { ι := EdI, tms := [11], tmU := fun x => [.y .i64 (yInt x.i)], ids := [4, 7], hpU := fun x => [.cells (cellsX sEdP (dEdP sp sv sn si inr dp cs ct cf cl cp x.e x.po x.mq x.mb 0)) 39 none, .cells (cellsX sEdR (dEdR x.e x.po x.mq x.mb)) 44 none], del := [], ex := 0, pre := prEp cs ct cf cl cp h m, ms := msEp m }
  | _ => none
def prZ (m i : Nat) : Prop := i ≤ m + 1
def msZ (m i : Nat) : Nat := m + 1 - i
def annEpF (m : Nat) (b : Nat) : Option (St → LoopA) :=
  match b with
  | 0 => some fun _ => { ι := Nat, tms := [11], tmU := fun i => [.y .i64 (yInt i)], ids := [4, 7], hpU := fun _ => [.cells (cellsX sEdP zEdP) 39 none, .cells (cellsX sEdR zEdR) 44 none], del := [], ex := 0, pre := prZ m, ms := msZ m }
  | _ => none
abbrev cU8 : Cs := some (24, [.int .u64])
abbrev gEp : List Ag := [.agg [none, none, none, none, none], .agg [none, none, none, none, none, none, none, none, none], .agg [none, none, none, none], .cell cU8]
abbrev dEp (cs ct cf cl cp sp sv sn si h v n : Int) (inr : Bool) (dp kd ix key val : Int) (nil : Bool) (m : Nat) (told : Nat → Int) : List Da :=
  [.agg [.v (.y .i64 cs), .v (.y .i64 ct), .v (.y .i64 cf), .v (.y .i64 cl), .v (.y .i64 cp)], .agg [.v (.y .u64 sp), .v (.y .u64 sv), .v (.y .i64 sn), .v (.y .i64 si), .v (.y .u64 h), .v (.y .u64 v), .v (.y .i64 n), .v (.yb inr), .v (.y .i64 dp)],
   .agg [.v (.y .i64 kd), .v (.y .i64 ix), .v (.y .u64 key), .v (.y .u64 val)], .cell (.rows nil m [.int .u64 told])]
def goalEp (l : List (Nat × Sm)) (ann : Nat → Option (St → LoopA)) (cs ct cf cl cp sp sv sn si h v n : Int) (inr : Bool) (dp kd ix key val : Int) (nil : Bool) (m : Nat) (told : Nat → Int) : Prop :=
  wxF Tryz.prog (smL l) ann 1000 3 (canA gEp (dEp cs ct cf cl cp sp sv sn si h v n inr dp kd ix key val nil m told) []).1 (heapOf (canA gEp (dEp cs ct cf cl cp sp sv sn si h v n inr dp kd ix key val nil m told) []).2) (fun r _ => cmpC (.yb true) r)
def goalEpT : Prop := ∀ (cs ct cf cl cp sp sv sn si h v n : Int) (inr : Bool) (dp kd ix key val : Int) (nil : Bool) (m : Nat) (told : Nat → Int), inU h = true → inU v = true → rightC cs ct cf cl cp = true → okNw h n kd inr cs cf = true →
  goalEp lEpT (annEpT cs ct cf cl cp sp sv sn si h inr dp m) cs ct cf cl cp sp sv sn si h v n inr dp kd ix key val nil m told
def goalEpF1 : Prop := ∀ (cs ct cf cl cp sp sv sn si h v n : Int) (inr : Bool) (dp kd ix key val : Int) (nil : Bool) (m : Nat) (told : Nat → Int), inU h = true → yNot (rightC cs ct cf cl cp) = true →
  goalEp lEpF1 (annEpF m) cs ct cf cl cp sp sv sn si h v n inr dp kd ix key val nil m told
def goalEpF2 : Prop := ∀ (cs ct cf cl cp sp sv sn si h v n : Int) (inr : Bool) (dp kd ix key val : Int) (nil : Bool) (m : Nat) (told : Nat → Int), inU h = true → rightC cs ct cf cl cp = true → yNot (okNw h n kd inr cs cf) = true →
  goalEp lEpF2 (annEpF m) cs ct cf cl cp sp sv sn si h v n inr dp kd ix key val nil m told
end Go.Proofs.YtlfehgagnelbhaaGreatDoor.Ex
namespace Go.Proofs.YtlfehgagnelbhaaGreatDoor.Ex
open Go

theorem invE_iff {cs ct cf cl cp : Int} {E : EdS} : invE cs ct cf cl cp E = true ↔ (inU E.h = true ∧ (E.at_ = 0 ∨ (rightC cs ct cf cl cp = true ∧ inU E.v = true ∧ (1 ≤ slotC E.h ∧ slotC E.h ≤ cs) ∧ E.nb = false ∧ (1 ≤ E.kd ∧ E.kd ≤ 3) ∧ (0 ≤ E.n ∧ E.n ≤ cf) ∧
    ((E.at_ = 1 ∧ E.nk = 0 ∧ E.nv = 0) ∨ (E.at_ = 2 ∧ (E.nk : Int) < E.n ∧ E.nv = 0) ∨ (E.at_ = 3 ∧ (E.nk : Int) = E.n ∧ (E.nv : Int) < E.n) ∨ (E.at_ = 4 ∧ 0 < E.nw ∧ E.nw ≤ 1000000 ∧ (E.kd = 2 ∨ (0 ≤ E.ix ∧ E.ix < E.nv))) ∨ E.at_ = 5)))) := decide_eq_true_iff
theorem plE_ok {cs ct cf : Int} {E : EdS} (h : rE (plE cs ct cf E) = false) : E.kd = 2 ∨ (0 ≤ E.ix ∧ E.ix < E.nv) := by
  unfold plE at h
  split at h
  · unfold setL at h
    split at h
    · rename_i hk; unfold setOk at hk; rw [decide_eq_true_iff] at hk; exact .inr hk.2.2.2
    · cases h
  · split at h
    · exact .inl ‹_›
    · unfold remL at h
      split at h
      · rename_i hk; unfold setOk at hk; rw [decide_eq_true_iff] at hk; exact .inr hk.2.2.2
      · cases h
theorem plE_len {cs ct cf : Int} {E : EdS} (h : E.nv ≤ 80) : rN (plE cs ct cf E) ≤ 1000000 := by
  unfold plE
  split
  · exact set_len
  · split
    · exact ins_len h
    · exact rem_len h
theorem rE_pos {l : List (Int × Int)} (h : rE l = false) : 0 < rN l := by cases l with | nil => cases h | cons a l => exact Nat.succ_pos _
theorem rd_inv {cs ct cf cl cp : Int} {E : EdS} (hr : rightC cs ct cf cl cp = true) (hh : inU E.h = true) (hv : inU E.v = true) (hs : 1 ≤ slotC E.h ∧ slotC E.h ≤ cs) (hb : E.nb = false) (hk : 1 ≤ E.kd ∧ E.kd ≤ 3) (hn : 0 ≤ E.n ∧ E.n ≤ cf)
    (h : ((E.nk : Int) < E.n ∧ E.nv = 0) ∨ ((E.nk : Int) = E.n ∧ (E.nv : Int) ≤ E.n)) : invE cs ct cf cl cp (rdE cs ct cf (nmE E)) = true ∧ (rdE cs ct cf (nmE E)).at_ ≠ 0 ∧ (rdE cs ct cf (nmE E)).h = E.h := by
  rw [invE_iff]
  have hc := rightC_iff.1 hr
  unfold rdE
  split
  · rename_i h1
    have h1 : (E.nk : Int) < E.n := h1
    exact ⟨⟨hh, .inr ⟨hr, hv, hs, hb, hk, hn, .inr (.inl ⟨rfl, h1, by show E.nv = 0; omega⟩)⟩⟩, by show (2 : Int) ≠ 0; omega, rfl⟩
  · rename_i h1
    have h1 : ¬ (E.nk : Int) < E.n := h1
    split
    · rename_i h2
      have h2 : (E.nv : Int) < E.n := h2
      exact ⟨⟨hh, .inr ⟨hr, hv, hs, hb, hk, hn, .inr (.inr (.inl ⟨rfl, by show (E.nk : Int) = E.n; omega, h2⟩))⟩⟩, by show (3 : Int) ≠ 0; omega, rfl⟩
    · rename_i h2
      cases hL : rE (plE cs ct cf (nmE E)) with
      | true => exact ⟨⟨hh, .inr ⟨hr, hv, hs, hb, hk, hn, .inr (.inr (.inr (.inr rfl)))⟩⟩, by show (5 : Int) ≠ 0; omega, rfl⟩
      | false =>
        have hl : rN (plE cs ct cf (nmE E)) ≤ 1000000 := plE_len (by show E.nv ≤ 80; omega)
        exact ⟨⟨hh, .inr ⟨hr, hv, hs, hb, hk, hn, .inr (.inr (.inr (.inl ⟨rfl, rE_pos hL, hl, plE_ok hL⟩)))⟩⟩, by show (4 : Int) ≠ 0; omega, rfl⟩
theorem invO_iff {E : EdS} {po : Int} : invO E po = true ↔ (E.at_ = 0 → po = 1 → E.kd = 2 ∨ (0 ≤ E.ix ∧ E.ix < E.nv)) := decide_eq_true_iff
theorem tk_inv {cs ct cf cl cp h : Int} {m : Nat} {x : EdI} {got : Int} (hx : prEp cs ct cf cl cp h m x) (hi : x.i + 1 ≤ m + 1) : prEp cs ct cf cl cp h m ⟨tkE cs ct cf x.e got, outE x.e x.po got, mkE x.e got, maE x.e got, x.i + 1⟩ := by
  obtain ⟨h1, h2, h3, h4, h5⟩ := hx
  obtain ⟨E, po, mq, mb, i⟩ := x
  simp only at h1 h2 h3 h4 h5 hi ⊢
  have h2' := h2
  rw [invE_iff] at h2'
  obtain ⟨hh, h2'⟩ := h2'
  by_cases a0 : E.at_ = 0
  · rw [tk0 (by omega)]
    obtain ⟨o1, _, _⟩ := ou0 (E := E) (po := po) (got := got) (by omega) (by omega) (by omega)
    rw [o1]
    exact ⟨hi, h2, h3, h4, h5⟩
  · rcases h2' with h0 | ⟨hr, hv, hs, hb, hk, hn, hst⟩
    · exact absurd h0 a0
    have hE := h3 a0
    by_cases a1 : E.at_ = 1
    · by_cases g : got = 1
      · rw [tk1 a1 g]
        obtain ⟨q1, q2, q3⟩ := rd_inv (ct := ct) (cl := cl) (cp := cp) hr hh hv hs hb hk hn (by omega)
        exact ⟨hi, q1, fun _ => q3.trans hE, invO_iff.2 fun e => absurd e q2, fun e => absurd e q2⟩
      · rw [tk1n a1 g, (ou1n a1 g).1]
        exact ⟨hi, invE_iff.2 ⟨hh, .inl rfl⟩, fun e => absurd rfl e, invO_iff.2 fun _ e => absurd (show (3 : Int) = 1 from e) (by omega), fun _ => .inr rfl⟩
    · by_cases a2 : E.at_ = 2
      · rw [tk2 a2]
        obtain ⟨q1, q2, q3⟩ := rd_inv (ct := ct) (cl := cl) (cp := cp) (E := { E with kn := false, nk := E.nk + 1, k := snocI E.nk E.k got }) hr hh hv hs hb hk hn (by show (((E.nk + 1 : Nat) : Int) < E.n ∧ E.nv = 0) ∨ (((E.nk + 1 : Nat) : Int) = E.n ∧ (E.nv : Int) ≤ E.n); omega)
        exact ⟨hi, q1, fun _ => q3.trans hE, invO_iff.2 fun e => absurd e q2, fun e => absurd e q2⟩
      · by_cases a3 : E.at_ = 3
        · rw [tk3 a3]
          obtain ⟨q1, q2, q3⟩ := rd_inv (ct := ct) (cl := cl) (cp := cp) (E := { E with vn := false, nv := E.nv + 1, w := snocI E.nv E.w got }) hr hh hv hs hb hk hn (by show ((E.nk : Int) < E.n ∧ E.nv + 1 = 0) ∨ ((E.nk : Int) = E.n ∧ ((E.nv + 1 : Nat) : Int) ≤ E.n); omega)
          exact ⟨hi, q1, fun _ => q3.trans hE, invO_iff.2 fun e => absurd e q2, fun e => absurd e q2⟩
        · by_cases a4 : E.at_ = 4
          · rw [tk4 a4, (ou4 a4).1]
            by_cases w : E.nw = 1
            · rw [if_pos w, if_pos w]
              exact ⟨hi, invE_iff.2 ⟨hh, .inl rfl⟩, fun e => absurd rfl e, invO_iff.2 fun _ _ => by show E.kd = 2 ∨ (0 ≤ E.ix ∧ E.ix < E.nv); omega, fun _ => .inl rfl⟩
            · rw [if_neg w, if_neg w]
              refine ⟨hi, invE_iff.2 ⟨hh, .inr ⟨hr, hv, hs, hb, hk, hn, .inr (.inr (.inr (.inl ⟨rfl, ?_, ?_, ?_⟩)))⟩⟩, fun _ => hE, invO_iff.2 fun e => absurd (show (4 : Int) = 0 from e) (by omega), fun e => absurd (show (4 : Int) = 0 from e) (by omega)⟩
              · show 0 < E.nw - 1; omega
              · show E.nw - 1 ≤ 1000000; omega
              · show E.kd = 2 ∨ (0 ≤ E.ix ∧ E.ix < E.nv); omega
          · have a5 : E.at_ = 5 := by omega
            rw [tk5 a5, (ou5 a5).1]
            exact ⟨hi, invE_iff.2 ⟨hh, .inl rfl⟩, fun e => absurd rfl e, invO_iff.2 fun _ e => absurd (show (3 : Int) = 1 from e) (by omega), fun _ => .inr rfl⟩
theorem e0_inv {cs ct cf cl cp h v n kd ix key val : Int} {inr : Bool} (m : Nat) (hh : inU h = true) (hv : inU v = true) (hr : rightC cs ct cf cl cp = true) (hk : okNw h n kd inr cs cf = true) : prEp cs ct cf cl cp h m ⟨E0 h v n kd ix key val, 0, 0, 0, 0⟩ := by
  obtain ⟨k1, k2, k3, k4, k5, k6⟩ := okNw_t.1 hk
  have k0 := hrC_t.1 k1
  exact ⟨Nat.zero_le _, invE_iff.2 ⟨hh, .inr ⟨hr, hv, ⟨k0.1, k0.2.1⟩, rfl, ⟨k2, k3⟩, ⟨k5, k6⟩, .inl ⟨rfl, rfl, rfl⟩⟩⟩, fun _ => rfl, invO_iff.2 fun e => absurd (show (1 : Int) = 0 from e) (by omega), fun e => absurd (show (1 : Int) = 0 from e) (by omega)⟩
theorem dn_x {cs ct cf cl cp h : Int} {m : Nat} {x : EdI} (hx : prEp cs ct cf cl cp h m x) : (qAt x.e = 0 ∧ dnE x.e x.po = x.po ∧ x.po ≠ 0) ∨ (qAt x.e ≠ 0 ∧ dnE x.e x.po = 0 ∧ qH x.e = h) := by
  obtain ⟨h1, h2, h3, h4, h5⟩ := hx
  by_cases a0 : x.e.at_ = 0
  · rcases h5 a0 with e | e
    · exact .inl ⟨a0, by unfold dnE; rw [if_pos a0, if_pos e, e], by omega⟩
    · exact .inl ⟨a0, by unfold dnE; rw [if_pos a0, if_neg (by omega), e], by omega⟩
  · exact .inr ⟨a0, by unfold dnE; rw [if_neg a0], h3 a0⟩
theorem sM0 {k : Int} (h : k = 0) {a b c a' b' c' : Nat → Int} : sameM 0 (mkN k) a b c a' b' c' = true := sameM_iff.2 ⟨by unfold mkN; rw [if_pos h], fun k hk => absurd hk (Nat.not_lt_zero k)⟩
theorem sM1 {k a : Int} (h : ¬ k = 0) : sameM 1 (mkN k) (litI 3 [AV.y .i64 k, AV.y .u64 a, AV.y .u64 0] 0) (litI 3 [AV.y .i64 k, AV.y .u64 a, AV.y .u64 0] 1) (litI 3 [AV.y .i64 k, AV.y .u64 a, AV.y .u64 0] 2) (fun _ => k) (fun _ => a) (fun _ => 0) = true :=
  sameM_iff.2 ⟨by unfold mkN; rw [if_neg h], fun i hi => match i, hi with | 0, _ => ⟨rfl, rfl, rfl⟩⟩
theorem sI1 {a b : Int} (h : a = b) : sameI 1 1 (litI 1 [AV.y .i64 a] 0) (litI 1 [AV.y .i64 b] 0) = true := sameI_iff.2 ⟨rfl, fun i _ => by rw [h]⟩
theorem sI0 {a b : Nat → Int} : sameI 0 0 a b = true := sameI_iff.2 ⟨rfl, fun i hi => absurd hi (Nat.not_lt_zero i)⟩
theorem absN {b : Bool} (h : yNot b = true) (h2 : b = true) : False := by rw [yNot_t, h2] at h; cases h
theorem dn_iff {cs ct cf cl cp h : Int} {m : Nat} {x : EdI} (hx : prEp cs ct cf cl cp h m x) : yIff (yEq (dnE x.e x.po) 0) (yNot (yEq (qAt x.e) 0)) = true := by
  rcases dn_x hx with ⟨a, b, c⟩ | ⟨a, b, _⟩
  · have e1 : yEq (dnE x.e x.po) 0 = false := yEq_f.mpr (by rw [b]; exact c)
    have e2 : yEq (qAt x.e) 0 = true := yEq_t.mpr a
    rw [e1, e2]; rfl
  · have e1 : yEq (dnE x.e x.po) 0 = true := yEq_t.mpr b
    have e2 : yEq (qAt x.e) 0 = false := yEq_f.mpr a
    rw [e1, e2]; rfl
theorem h_x {cs ct cf cl cp h : Int} {m : Nat} {x : EdI} (hx : prEp cs ct cf cl cp h m x) (h2 : yLe (qAt x.e) 1 = false) : slotC (qH x.e) = slotC h := by
  rw [yLe_f] at h2
  rcases dn_x hx with ⟨a, _⟩ | ⟨_, _, a⟩
  · omega
  · rw [a]
end Go.Proofs.YtlfehgagnelbhaaGreatDoor.Ex
