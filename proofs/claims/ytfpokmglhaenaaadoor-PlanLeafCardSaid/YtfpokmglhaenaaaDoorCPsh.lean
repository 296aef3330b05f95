/- Contracts: gleaninglaw14.small, gleaningref14.Same. And the law PlanShrinks, walked. -/
import Derived.Test.YtfpokmglhaenaaaDoorCShr
namespace Go.Proofs.YtfpokmglhaenaaaDoor.Ex
open Go

-- OPEN sizeC smallC sameW prSm msSm
def sizeC (s t f : Int) : Int := 3 + 3 * t + (s + 1) * (3 + 2 * f)
def smallC (cs ct cf cl cp : Int) (pnk pnv ank anv bnk bnv fnk fnv tnk tnv : Nat) : Bool :=
  decide ((pnk ≤ 80 ∧ pnv ≤ 80) ∧ (ank ≤ 80 ∧ anv ≤ 80) ∧ (bnk ≤ 80 ∧ bnv ≤ 80) ∧ (fnk ≤ 80 ∧ fnv ≤ 80) ∧ (tnk ≤ 80 ∧ tnv ≤ 80) ∧ rightC cs ct cf cl cp = true ∧ sizeC cs ct cf ≤ 5000)
abbrev cParts : List Cs := [none, none, none, none, none, none, none, none, cU, cU, none, none, none, none, cU, cU, none, none, none, none, cU, cU, none, none, none, none, cU, cU, none, none, none, none, cU, cU, none, none, none, none]
abbrev dParts (cs ct cf cl cp : Int) (pps ppv : Int) (ppi ppkn : Bool) (ppnk : Nat) (ppk : Nat → Int) (ppvn : Bool) (ppnv : Nat) (ppw : Nat → Int) (ppl : Int) (aas aav : Int) (aai aakn : Bool) (aank : Nat) (aak : Nat → Int) (aavn : Bool) (aanv : Nat) (aaw : Nat → Int) (aal : Int) (bbs bbv : Int) (bbi bbkn : Bool) (bbnk : Nat) (bbk : Nat → Int) (bbvn : Bool) (bbnv : Nat) (bbw : Nat → Int) (bbl : Int) (ffs ffv : Int) (ffi ffkn : Bool) (ffnk : Nat) (ffk : Nat → Int) (ffvn : Bool) (ffnv : Nat) (ffw : Nat → Int) (ffl : Int) (tts ttv : Int) (tti ttkn : Bool) (ttnk : Nat) (ttk : Nat → Int) (ttvn : Bool) (ttnv : Nat) (ttw : Nat → Int) (ttl : Int) (xi xk xw : Int) : List Da := [.agg [.v (.y .i64 cs), .v (.y .i64 ct), .v (.y .i64 cf), .v (.y .i64 cl), .v (.y .i64 cp), .v (.y .i64 pps), .v (.y .u64 ppv), .v (.yb ppi), .rows ppkn ppnk [.int .u64 ppk], .rows ppvn ppnv [.int .u64 ppw], .v (.y .u64 ppl), .v (.y .i64 aas), .v (.y .u64 aav), .v (.yb aai), .rows aakn aank [.int .u64 aak], .rows aavn aanv [.int .u64 aaw], .v (.y .u64 aal), .v (.y .i64 bbs), .v (.y .u64 bbv), .v (.yb bbi), .rows bbkn bbnk [.int .u64 bbk], .rows bbvn bbnv [.int .u64 bbw], .v (.y .u64 bbl), .v (.y .i64 ffs), .v (.y .u64 ffv), .v (.yb ffi), .rows ffkn ffnk [.int .u64 ffk], .rows ffvn ffnv [.int .u64 ffw], .v (.y .u64 ffl), .v (.y .i64 tts), .v (.y .u64 ttv), .v (.yb tti), .rows ttkn ttnk [.int .u64 ttk], .rows ttvn ttnv [.int .u64 ttw], .v (.y .u64 ttl), .v (.y .i64 xi), .v (.y .u64 xk), .v (.y .u64 xw)]]
structure Pt where
  s : Int
  v : Int
  i : Bool
  kn : Bool
  nk : Nat
  k : Nat → Int
  vn : Bool
  nv : Nat
  w : Nat → Int
  l : Int
def pConf (ds : List Dc) : Option ((Int × Int × Int × Int × Int) × List Dc) :=
  match ds with
  | .v (.y .i64 s) :: .v (.y .i64 t) :: .v (.y .i64 f) :: .v (.y .i64 l) :: .v (.y .i64 p) :: r => some ((s, t, f, l, p), r)
  | _ => none
def pPart (ds : List Dc) : Option (Pt × List Dc) :=
  match ds with
  | .v (.y .i64 s) :: .v (.y .u64 v) :: .v (.yb i) :: .rows kn nk [.int .u64 k] :: .rows vn nv [.int .u64 w] :: .v (.y .u64 l) :: r => some (⟨s, v, i, kn, nk, k, vn, nv, w, l⟩, r)
  | _ => none
def pTail (ds : List Dc) : Option (Int × Int × Int) :=
  match ds with
  | [.v (.y .i64 a), .v (.y .u64 b), .v (.y .u64 c)] => some (a, b, c)
  | _ => none
def fSm1 (ds : List Dc) : Option (Bool × AV) :=
  match pConf ds with
  | some ((cs, ct, cf, cl, cp), r0) => match pPart r0 with
    | some (p, r1) => match pPart r1 with
      | some (a, r2) => match pPart r2 with
        | some (b, r3) => match pPart r3 with
          | some (f, r4) => match pPart r4 with
            | some (t, r5) => match pTail r5 with
              | some _ => some (true, .yb (smallC cs ct cf cl cp p.nk p.nv a.nk a.nv b.nk b.nv f.nk f.nv t.nk t.nv))
              | none => none
            | none => none
          | none => none
        | none => none
      | none => none
    | none => none
  | none => none
def fSmall (ds : List Da) : Option (Bool × AV) :=
  match ds with
  | [.agg l] => fSm1 l
  | _ => none
abbrev Pt.dcs (p : Pt) (r : List Dc) : List Dc := .v (.y .i64 p.s) :: .v (.y .u64 p.v) :: .v (.yb p.i) :: .rows p.kn p.nk [.int .u64 p.k] :: .rows p.vn p.nv [.int .u64 p.w] :: .v (.y .u64 p.l) :: r
theorem pConf_inv {ds r : List Dc} {s t f l p : Int} (h : pConf ds = some ((s, t, f, l, p), r)) : ds = .v (.y .i64 s) :: .v (.y .i64 t) :: .v (.y .i64 f) :: .v (.y .i64 l) :: .v (.y .i64 p) :: r := by
  unfold pConf at h
  split at h
  · simp only [Option.some.injEq, Prod.mk.injEq] at h
    obtain ⟨⟨rfl, rfl, rfl, rfl, rfl⟩, rfl⟩ := h; rfl
  · cases h
theorem pPart_inv {ds r : List Dc} {p : Pt} (h : pPart ds = some (p, r)) : ds = p.dcs r := by
  unfold pPart at h
  split at h
  · simp only [Option.some.injEq, Prod.mk.injEq] at h
    obtain ⟨rfl, rfl⟩ := h; rfl
  · cases h
theorem pTail_inv {ds : List Dc} {x : Int × Int × Int} (h : pTail ds = some x) : ds = [.v (.y .i64 x.1), .v (.y .u64 x.2.1), .v (.y .u64 x.2.2)] := by
  unfold pTail at h
  split at h
  · simp only [Option.some.injEq] at h
    subst h; rfl
  · cases h
def lSmall : List (Nat × Sm) := [(47, .ct (ctS gConf fWrong))]
def goalSmall : Prop := ∀ (cs ct cf cl cp : Int) (pps ppv : Int) (ppi ppkn : Bool) (ppnk : Nat) (ppk : Nat → Int) (ppvn : Bool) (ppnv : Nat) (ppw : Nat → Int) (ppl : Int) (aas aav : Int) (aai aakn : Bool) (aank : Nat) (aak : Nat → Int) (aavn : Bool) (aanv : Nat) (aaw : Nat → Int) (aal : Int) (bbs bbv : Int) (bbi bbkn : Bool) (bbnk : Nat) (bbk : Nat → Int) (bbvn : Bool) (bbnv : Nat) (bbw : Nat → Int) (bbl : Int) (ffs ffv : Int) (ffi ffkn : Bool) (ffnk : Nat) (ffk : Nat → Int) (ffvn : Bool) (ffnv : Nat) (ffw : Nat → Int) (ffl : Int) (tts ttv : Int) (tti ttkn : Bool) (ttnk : Nat) (ttk : Nat → Int) (ttvn : Bool) (ttnv : Nat) (ttw : Nat → Int) (ttl : Int) (xi xk xw : Int), wxF Tryd.prog (smL lSmall) (fun _ => none) 1000 16 (canA [.agg cParts] (dParts cs ct cf cl cp pps ppv ppi ppkn ppnk ppk ppvn ppnv ppw ppl aas aav aai aakn aank aak aavn aanv aaw aal bbs bbv bbi bbkn bbnk bbk bbvn bbnv bbw bbl ffs ffv ffi ffkn ffnk ffk ffvn ffnv ffw ffl tts ttv tti ttkn ttnk ttk ttvn ttnv ttw ttl xi xk xw) []).1 (heapOf (canA [.agg cParts] (dParts cs ct cf cl cp pps ppv ppi ppkn ppnk ppk ppvn ppnv ppw ppl aas aav aai aakn aank aak aavn aanv aaw aal bbs bbv bbi bbkn bbnk bbk bbvn bbnv bbw bbl ffs ffv ffi ffkn ffnk ffk ffvn ffnv ffw ffl tts ttv tti ttkn ttnk ttk ttvn ttnv ttw ttl xi xk xw) []).2) (fun r _ => cmpC (.yb (smallC cs ct cf cl cp ppnk ppnv aank aanv bbnk bbnv ffnk ffnv ttnk ttnv)) r)
abbrev cWr : Cs := some (88, [.int .i64, .int .u64])
def sameW (n m : Nat) (a0 a1 b0 b1 : Nat → Int) : Bool := decide (n = m) && (List.range n).all fun i => decide (a0 i = b0 i ∧ a1 i = b1 i)
def prSm (n : Nat) (a0 a1 b0 b1 : Nat → Int) (i : Nat) : Prop := i ≤ n ∧ ∀ k, k < i → a0 k = b0 k ∧ a1 k = b1 k
def msSm (n i : Nat) : Nat := n - i
def annSame (n : Nat) (a0 a1 b0 b1 : Nat → Int) (b : Nat) : Option (St → LoopA) :=
  match b with
  | 0 => some fun _ => { ι := Nat, tms := [5], tmU := fun i => [.y .i64 (yInt i)], ids := [], hpU := fun _ => [], del := [], ex := 0, pre := prSm n a0 a1 b0 b1, ms := msSm n }
  | _ => none
abbrev dSame (nilA : Bool) (n : Nat) (a0 a1 : Nat → Int) (nilB : Bool) (m : Nat) (b0 b1 : Nat → Int) : List Da :=
  [.cell (.rows nilA n [.int .i64 a0, .int .u64 a1]), .cell (.rows nilB m [.int .i64 b0, .int .u64 b1])]
abbrev gSame : List Ag := [.cell cWr, .cell cWr]
def fSame (ds : List Da) : Option (Bool × AV) :=
  match ds with
  | [.cell (.rows _ n [.int .i64 a0, .int .u64 a1]), .cell (.rows _ m [.int .i64 b0, .int .u64 b1])] => some (yNle n 1000000, .yb (sameW n m a0 a1 b0 b1))
  | _ => none
def goalSame : Prop := ∀ (nilA : Bool) (n : Nat) (a0 a1 : Nat → Int) (nilB : Bool) (m : Nat) (b0 b1 : Nat → Int), yNle n 1000000 = true →
  wxF Tryd.prog noSm (annSame n a0 a1 b0 b1) 1000 18 (canA gSame (dSame nilA n a0 a1 nilB m b0 b1) []).1 (heapOf (canA gSame (dSame nilA n a0 a1 nilB m b0 b1) []).2) (fun v _ => cmpC (.yb (sameW n m a0 a1 b0 b1)) v)
def fShr (ds : List Dx) : Option (Bool × Dx × List (List Dx)) :=
  match ds with
  | [.l [.v (.y .i64 cs), .v (.y .i64 ct), .v (.y .i64 cf), .v (.y .i64 cl), .v (.y .i64 cp)], .l [.v (.y .i64 ps), .v (.y .u64 pv), .v (.yb pi), .rows _ pnk [.int .u64 pk], .rows _ pnv [.int .u64 _], .v (.y .u64 _)], .l [.v (.y .i64 xs), .v (.y .u64 xv), .v (.yb xi), .rows _ xnk [.int .u64 xk], .rows _ xnv [.int .u64 xw], .v (.y .u64 _)]] =>
    some (yAnd (rightC cs ct cf cl cp) (yAnd (inU pv) (yAnd (inU xv) (yAnd (yAnd (yNle pnk 80) (yNle pnv 80)) (yAnd (yNle xnk 80) (yNle xnv 80))))), rowsW (shrL cs ct cf ps pv pi pnk pk pnv xs xv xi xnk xk xnv (xw 0)), [])
  | _ => none
def lPsh : List (Nat × Sm) := [(60, .ct (ctS gConf fRight)), (16, .ct (ctS [.agg cParts] fSmall)), (19, .ct (ctX [sConf, sPart, sPart] ownW fShr)), (21, .ct (ctX [sConf, sPart, sPart] ownW fShr)), (18, .ct (ctS gSame fSame)), (17, .call (smB true))]
def goalPsh : Prop := ∀ (cs ct cf cl cp : Int) (pps ppv : Int) (ppi ppkn : Bool) (ppnk : Nat) (ppk : Nat → Int) (ppvn : Bool) (ppnv : Nat) (ppw : Nat → Int) (ppl : Int) (aas aav : Int) (aai aakn : Bool) (aank : Nat) (aak : Nat → Int) (aavn : Bool) (aanv : Nat) (aaw : Nat → Int) (aal : Int) (bbs bbv : Int) (bbi bbkn : Bool) (bbnk : Nat) (bbk : Nat → Int) (bbvn : Bool) (bbnv : Nat) (bbw : Nat → Int) (bbl : Int) (ffs ffv : Int) (ffi ffkn : Bool) (ffnk : Nat) (ffk : Nat → Int) (ffvn : Bool) (ffnv : Nat) (ffw : Nat → Int) (ffl : Int) (tts ttv : Int) (tti ttkn : Bool) (ttnk : Nat) (ttk : Nat → Int) (ttvn : Bool) (ttnv : Nat) (ttw : Nat → Int) (ttl : Int) (xi xk xw : Int), inU ppv = true → inU aav = true → wxF Tryd.prog (smL lPsh) (fun _ => none) 1000 5 (canA [.agg cParts] (dParts cs ct cf cl cp pps ppv ppi ppkn ppnk ppk ppvn ppnv ppw ppl aas aav aai aakn aank aak aavn aanv aaw aal bbs bbv bbi bbkn bbnk bbk bbvn bbnv bbw bbl ffs ffv ffi ffkn ffnk ffk ffvn ffnv ffw ffl tts ttv tti ttkn ttnk ttk ttvn ttnv ttw ttl xi xk xw) []).1 (heapOf (canA [.agg cParts] (dParts cs ct cf cl cp pps ppv ppi ppkn ppnk ppk ppvn ppnv ppw ppl aas aav aai aakn aank aak aavn aanv aaw aal bbs bbv bbi bbkn bbnk bbk bbvn bbnv bbw bbl ffs ffv ffi ffkn ffnk ffk ffvn ffnv ffw ffl tts ttv tti ttkn ttnk ttk ttvn ttnv ttw ttl xi xk xw) []).2) (fun r _ => cmpC (.yb true) r)
theorem wrong_right' {s t f l p : Int} : 0 ≤ wrongC s t f l p ↔ rightC s t f l p = false := by
  rw [rightC_off]
  unfold wrongC
  repeat' split
  all_goals omega
def goalSmallV : Prop := (∀ (cs ct cf cl cp _pps _ppv : Int) (_ppi _ppkn : Bool) (ppnk : Nat) (_ppk : Nat → Int) (_ppvn : Bool) (ppnv : Nat) (_ppw : Nat → Int) (_ppl _aas _aav : Int) (_aai _aakn : Bool) (aank : Nat) (_aak : Nat → Int) (_aavn : Bool) (aanv : Nat) (_aaw : Nat → Int) (_aal _bbs _bbv : Int) (_bbi _bbkn : Bool) (bbnk : Nat) (_bbk : Nat → Int) (_bbvn : Bool) (bbnv : Nat) (_bbw : Nat → Int) (_bbl _ffs _ffv : Int) (_ffi _ffkn : Bool) (ffnk : Nat) (_ffk : Nat → Int) (_ffvn : Bool) (ffnv : Nat) (_ffw : Nat → Int) (_ffl _tts _ttv : Int) (_tti _ttkn : Bool) (ttnk : Nat) (_ttk : Nat → Int) (_ttvn : Bool) (ttnv : Nat) (_ttw : Nat → Int) (_ttl _xi _xk _xw : Int), (yLt (80 : Int) (yInt ppnk) = true → smallC cs ct cf cl cp ppnk ppnv aank aanv bbnk bbnv ffnk ffnv ttnk ttnv = false) ∧ (yLt (80 : Int) (yInt ppnk) = false → (yLt (80 : Int) (yInt ppnv) = true → smallC cs ct cf cl cp ppnk ppnv aank aanv bbnk bbnv ffnk ffnv ttnk ttnv = false) ∧ (yLt (80 : Int) (yInt ppnv) = false → (yLt (80 : Int) (yInt aank) = true → smallC cs ct cf cl cp ppnk ppnv aank aanv bbnk bbnv ffnk ffnv ttnk ttnv = false) ∧ (yLt (80 : Int) (yInt aank) = false → (yLt (80 : Int) (yInt aanv) = true → smallC cs ct cf cl cp ppnk ppnv aank aanv bbnk bbnv ffnk ffnv ttnk ttnv = false) ∧ (yLt (80 : Int) (yInt aanv) = false → (yLt (80 : Int) (yInt bbnk) = true → smallC cs ct cf cl cp ppnk ppnv aank aanv bbnk bbnv ffnk ffnv ttnk ttnv = false) ∧ (yLt (80 : Int) (yInt bbnk) = false → (yLt (80 : Int) (yInt bbnv) = true → smallC cs ct cf cl cp ppnk ppnv aank aanv bbnk bbnv ffnk ffnv ttnk ttnv = false) ∧ (yLt (80 : Int) (yInt bbnv) = false → (yLt (80 : Int) (yInt ffnk) = true → smallC cs ct cf cl cp ppnk ppnv aank aanv bbnk bbnv ffnk ffnv ttnk ttnv = false) ∧ (yLt (80 : Int) (yInt ffnk) = false → (yLt (80 : Int) (yInt ffnv) = true → smallC cs ct cf cl cp ppnk ppnv aank aanv bbnk bbnv ffnk ffnv ttnk ttnv = false) ∧ (yLt (80 : Int) (yInt ffnv) = false → (yLt (80 : Int) (yInt ttnk) = true → smallC cs ct cf cl cp ppnk ppnv aank aanv bbnk bbnv ffnk ffnv ttnk ttnv = false) ∧ (yLt (80 : Int) (yInt ttnk) = false → (yLt (80 : Int) (yInt ttnv) = true → smallC cs ct cf cl cp ppnk ppnv aank aanv bbnk bbnv ffnk ffnv ttnk ttnv = false) ∧ (yLt (80 : Int) (yInt ttnv) = false → (true = true → (yLt (wrongC cs ct cf cl cp) (0 : Int) = true → (true = true → (yLe (0 : Int) (wrongC cs ct cf cl cp) = true → smallC cs ct cf cl cp ppnk ppnv aank aanv bbnk bbnv ffnk ffnv ttnk ttnv = true) ∧ (yLe (0 : Int) (wrongC cs ct cf cl cp) = false → smallC cs ct cf cl cp ppnk ppnv aank aanv bbnk bbnv ffnk ffnv ttnk ttnv = yLe (yWrap IntKind.i64 (yAdd (yWrap IntKind.i64 (yAdd (3 : Int) (yWrap IntKind.i64 (yMul (3 : Int) ct)))) (yWrap IntKind.i64 (yMul (yWrap IntKind.i64 (yAdd cs (1 : Int))) (yWrap IntKind.i64 (yAdd (3 : Int) (yWrap IntKind.i64 (yMul (2 : Int) cf)))))))) (5000 : Int))) ∧ (true = false → False)) ∧ (yLt (wrongC cs ct cf cl cp) (0 : Int) = false → smallC cs ct cf cl cp ppnk ppnv aank aanv bbnk bbnv ffnk ffnv ttnk ttnv = false)) ∧ (true = false → False))))))))))))
set_option maxRecDepth 100000 in
theorem goalSmall_eq : goalSmall = goalSmallV := by kernel_rfl
set_option maxRecDepth 100000 in
set_option maxHeartbeats 4000000 in
theorem goalSmall_vc : goalSmallV := by
  unfold goalSmallV
  intro cs ct cf cl cp pps ppv ppi ppkn ppnk ppk ppvn ppnv ppw ppl aas aav aai aakn aank aak aavn aanv aaw aal bbs bbv bbi bbkn bbnk bbk bbvn bbnv bbw bbl ffs ffv ffi ffkn ffnk ffk ffvn ffnv ffw ffl tts ttv tti ttkn ttnk ttk ttvn ttnv ttw ttl xi xk xw
  have hw := wrong_right' (s := cs) (t := ct) (f := cf) (l := cl) (p := cp)
  have hp : rightC cs ct cf cl cp = true → 0 ≤ (cs + 1) * (3 + 2 * cf) ∧ (cs + 1) * (3 + 2 * cf) ≤ 131131 := fun h => by
    have := rightC_iff.1 h
    exact prod_le' (A := 1001) (B := 131) (by omega) (by omega) (by omega) (by omega)
  simp only [yLt_t, yLt_f, yLe_t, yLe_f, yInt_e, yAdd_e, yMul_e, and_true, forall_const, Bool.true_eq_false, false_implies]
  unfold smallC sizeC
  cases hr : rightC cs ct cf cl cp with
  | false =>
    have h0 := hw.2 hr
    repeat' (first | apply And.intro | intro _)
    all_goals first
      | (exfalso; omega)
      | (rw [decide_eq_false_iff_not]; intro h; have := h.2.2.2.2.2.1; cases this)
      | (rw [decide_eq_false_iff_not]; simp)
  | true =>
    have h0 : wrongC cs ct cf cl cp < 0 := by
      by_cases h : 0 ≤ wrongC cs ct cf cl cp
      · have := hw.1 h; rw [hr] at this; cases this
      · omega
    have hq := hp hr
    have hc := rightC_iff.1 hr
    clear hp hw
    simp (disch := omega) only [wrap64]
    repeat' (first | apply And.intro | intro _)
    all_goals first
      | (rw [decide_eq_false_iff_not]; omega)
      | (exfalso; omega)
      | (unfold yLe; rw [decide_eq_decide]; simp only [true_and]; omega)
set_option maxRecDepth 100000 in
theorem goalSmall_tt : (goalSmall) = True := goalSmall_eq.trans (eq_true goalSmall_vc)
theorem goalSmall_ok : goalSmall := @ft' goalSmall goalSmall_tt
theorem sameW_iff {n m : Nat} {a0 a1 b0 b1 : Nat → Int} : sameW n m a0 a1 b0 b1 = true ↔ n = m ∧ ∀ i, i < n → a0 i = b0 i ∧ a1 i = b1 i := by
  simp [sameW, List.all_eq_true]
theorem sameW_off {n m : Nat} {a0 a1 b0 b1 : Nat → Int} : sameW n m a0 a1 b0 b1 = false ↔ ¬ (n = m ∧ ∀ i, i < n → a0 i = b0 i ∧ a1 i = b1 i) := by
  rw [← sameW_iff]; simp
set_option maxRecDepth 100000 in
theorem goalSame_eq : goalSame = (∀ (_nilA : Bool) (n : Nat) (a0 a1 : Nat → Int) (_nilB : Bool) (m : Nat) (b0 b1 : Nat → Int), yNle n (nat_lit 1000000) = true → (yNot (yEq (yInt n) (yInt m)) = true → sameW n m a0 a1 b0 b1 = false) ∧ (yNot (yEq (yInt n) (yInt m)) = false → true = true ∧ (∃ (i0 : Nat), prSm n a0 a1 b0 b1 i0 ∧ true = true ∧ yInt i0 = (0 : Int) ∧ true = true) ∧ ∀ (_ : Nat → AV) (i : Nat), prSm n a0 a1 b0 b1 i → (yLt (yInt i) (yInt n) = true → (yIn (yInt i) n = true → (yNlt (yNadd (nat_lit 0) (yNat (yInt i))) n = true → (yIn (yInt i) m = true → (yNlt (yNadd (nat_lit 0) (yNat (yInt i))) m = true → (yNot (yAnd (yEq (a0 (yNadd (nat_lit 0) (yNat (yInt i)))) (b0 (yNadd (nat_lit 0) (yNat (yInt i))))) (yAnd (yEq (a1 (yNadd (nat_lit 0) (yNat (yInt i)))) (b1 (yNadd (nat_lit 0) (yNat (yInt i))))) true)) = true → sameW n m a0 a1 b0 b1 = false) ∧ (yNot (yAnd (yEq (a0 (yNadd (nat_lit 0) (yNat (yInt i)))) (b0 (yNadd (nat_lit 0) (yNat (yInt i))))) (yAnd (yEq (a1 (yNadd (nat_lit 0) (yNat (yInt i)))) (b1 (yNadd (nat_lit 0) (yNat (yInt i))))) true)) = false → true = true ∧ ∃ (i' : Nat), prSm n a0 a1 b0 b1 i' ∧ Nat.succ (msSm n i') ≤ msSm n i ∧ true = true ∧ yInt i' = yWrap IntKind.i64 (yAdd (yInt i) (1 : Int)) ∧ true = true)) ∧ (yNlt (yNadd (nat_lit 0) (yNat (yInt i))) m = false → False)) ∧ (yIn (yInt i) m = false → False)) ∧ (yNlt (yNadd (nat_lit 0) (yNat (yInt i))) n = false → False)) ∧ (yIn (yInt i) n = false → False)) ∧ (yLt (yInt i) (yInt n) = false → sameW n m a0 a1 b0 b1 = true))) := by kernel_rfl
set_option maxRecDepth 100000 in
theorem goalSame_ok : goalSame := by
  refine kernel_go goalSame_eq ?_
  intro nilA n a0 a1 nilB m b0 b1 hn
  simp only [yNot_t, yNot_f, yEq_t, yEq_f, yAnd_t, yAnd_f, yLt_t, yLt_f, yIn_t, yIn_f, yNlt_t, yNlt_f, yNle_t, yInt_e, yNat_e, yNadd_e, yAdd_e, true_and, and_true, Nat.zero_add, Bool.true_eq_false, sameW_iff, sameW_off, prSm, msSm, or_false] at hn ⊢
  repeat' (first | apply And.intro | intro (_ : Nat → AV) i hi | intro _)
  all_goals (try simp (disch := omega) only [wrap64] at *)
  all_goals first
    | omega
    | exact ⟨0, ⟨Nat.zero_le _, fun k hk => by omega⟩, rfl⟩
    | (refine ⟨i + 1, ⟨by omega, fun k hk => ?_⟩, by omega, by omega⟩
       by_cases e : k = i
       · subst e; constructor <;> omega
       · exact hi.2 k (by omega))
    | exact (hi.2 _ (by omega)).1
    | exact (hi.2 _ (by omega)).2
    | (exfalso; have hc := (‹n = m ∧ ∀ k, k < n → a0 k = b0 k ∧ a1 k = b1 k›).2 i (by omega); omega)
theorem sameW_no {n : Nat} {a b : Nat → Int} (h : sameW n n a b a b = false) : False := by
  rw [sameW_iff.2 ⟨rfl, fun _ _ => ⟨rfl, rfl⟩⟩] at h; cases h
theorem shr_len {cs ct cf ps pv : Int} {pi : Bool} {pnk : Nat} {pk : Nat → Int} {pnv : Nat} {xs xv : Int} {xi : Bool} {xnk : Nat} {xk : Nat → Int} {xnv : Nat} {xw0 : Int} : rN (shrL cs ct cf ps pv pi pnk pk pnv xs xv xi xnk xk xnv xw0) ≤ 1000000 := by
  unfold rN shrL
  split <;> simp
def goalPshV : Prop := (∀ (cs ct cf cl cp pps ppv : Int) (ppi _ppkn : Bool) (ppnk : Nat) (ppk : Nat → Int) (_ppvn : Bool) (ppnv : Nat) (ppw : Nat → Int) (_ppl aas aav : Int) (aai _aakn : Bool) (aank : Nat) (aak : Nat → Int) (_aavn : Bool) (aanv : Nat) (aaw : Nat → Int) (_aal _bbs _bbv : Int) (_bbi _bbkn : Bool) (bbnk : Nat) (bbk : Nat → Int) (_bbvn : Bool) (bbnv : Nat) (bbw : Nat → Int) (_bbl _ffs _ffv : Int) (_ffi _ffkn : Bool) (ffnk : Nat) (ffk : Nat → Int) (_ffvn : Bool) (ffnv : Nat) (ffw : Nat → Int) (_ffl _tts _ttv : Int) (_tti _ttkn : Bool) (ttnk : Nat) (ttk : Nat → Int) (_ttvn : Bool) (ttnv : Nat) (ttw : Nat → Int) (_ttl _xi _xk _xw : Int), yAnd (yLe (0 : Int) ppv) (yLt ppv (18446744073709551616 : Int)) = true → yAnd (yLe (0 : Int) aav) (yLt aav (18446744073709551616 : Int)) = true → (yNle (yNadd (nat_lit 0) ppnk) ppnk = true → ((yCol (CK.int IntKind.u64) ppnk fun (i : Nat) => AV.y IntKind.u64 (ppk i)) = true → (yNle (yNadd (nat_lit 0) ppnv) ppnv = true → ((yCol (CK.int IntKind.u64) ppnv fun (i : Nat) => AV.y IntKind.u64 (ppw i)) = true → (yNle (yNadd (nat_lit 0) aank) aank = true → ((yCol (CK.int IntKind.u64) aank fun (i : Nat) => AV.y IntKind.u64 (aak i)) = true → (yNle (yNadd (nat_lit 0) aanv) aanv = true → ((yCol (CK.int IntKind.u64) aanv fun (i : Nat) => AV.y IntKind.u64 (aaw i)) = true → (yNle (yNadd (nat_lit 0) bbnk) bbnk = true → ((yCol (CK.int IntKind.u64) bbnk fun (i : Nat) => AV.y IntKind.u64 (bbk i)) = true → (yNle (yNadd (nat_lit 0) bbnv) bbnv = true → ((yCol (CK.int IntKind.u64) bbnv fun (i : Nat) => AV.y IntKind.u64 (bbw i)) = true → (yNle (yNadd (nat_lit 0) ffnk) ffnk = true → ((yCol (CK.int IntKind.u64) ffnk fun (i : Nat) => AV.y IntKind.u64 (ffk i)) = true → (yNle (yNadd (nat_lit 0) ffnv) ffnv = true → ((yCol (CK.int IntKind.u64) ffnv fun (i : Nat) => AV.y IntKind.u64 (ffw i)) = true → (yNle (yNadd (nat_lit 0) ttnk) ttnk = true → ((yCol (CK.int IntKind.u64) ttnk fun (i : Nat) => AV.y IntKind.u64 (ttk i)) = true → (yNle (yNadd (nat_lit 0) ttnv) ttnv = true → ((yCol (CK.int IntKind.u64) ttnv fun (i : Nat) => AV.y IntKind.u64 (ttw i)) = true → (true = true → (yNot (smallC cs ct cf cl cp ppnk ppnv aank aanv bbnk bbnv ffnk ffnv ttnk ttnv) = true → true = true) ∧ (yNot (smallC cs ct cf cl cp ppnk ppnv aank aanv bbnk bbnv ffnk ffnv ttnk ttnv) = false → (true = true → (yNot (rightC cs ct cf cl cp) = true → (yNle (yNadd (nat_lit 0) ppnk) ppnk = true → ((yCol (CK.int IntKind.u64) ppnk fun (i : Nat) => AV.y IntKind.u64 (ppk i)) = true → (yNle (yNadd (nat_lit 0) ppnv) ppnv = true → ((yCol (CK.int IntKind.u64) ppnv fun (i : Nat) => AV.y IntKind.u64 (ppw i)) = true → (yNle (yNadd (nat_lit 0) aank) aank = true → ((yCol (CK.int IntKind.u64) aank fun (i : Nat) => AV.y IntKind.u64 (aak i)) = true → (yNle (yNadd (nat_lit 0) aanv) aanv = true → ((yCol (CK.int IntKind.u64) aanv fun (i : Nat) => AV.y IntKind.u64 (aaw i)) = true → (yAnd (rightC (0 : Int) (0 : Int) (0 : Int) (0 : Int) (0 : Int)) (yAnd (yAnd (yLe (0 : Int) ppv) (yLt ppv (18446744073709551616 : Int))) (yAnd (yAnd (yLe (0 : Int) aav) (yLt aav (18446744073709551616 : Int))) (yAnd (yAnd (yNle ppnk (nat_lit 80)) (yNle ppnv (nat_lit 80))) (yAnd (yNle aank (nat_lit 80)) (yNle aanv (nat_lit 80)))))) = true → (yNle (yNadd (nat_lit 0) ppnk) ppnk = true → ((yCol (CK.int IntKind.u64) ppnk fun (i : Nat) => AV.y IntKind.u64 (ppk i)) = true → (yNle (yNadd (nat_lit 0) ppnv) ppnv = true → ((yCol (CK.int IntKind.u64) ppnv fun (i : Nat) => AV.y IntKind.u64 (ppw i)) = true → (yNle (yNadd (nat_lit 0) aank) aank = true → ((yCol (CK.int IntKind.u64) aank fun (i : Nat) => AV.y IntKind.u64 (aak i)) = true → (yNle (yNadd (nat_lit 0) aanv) aanv = true → ((yCol (CK.int IntKind.u64) aanv fun (i : Nat) => AV.y IntKind.u64 (aaw i)) = true → (yAnd (rightC cs ct cf cl cp) (yAnd (yAnd (yLe (0 : Int) ppv) (yLt ppv (18446744073709551616 : Int))) (yAnd (yAnd (yLe (0 : Int) aav) (yLt aav (18446744073709551616 : Int))) (yAnd (yAnd (yNle ppnk (nat_lit 80)) (yNle ppnv (nat_lit 80))) (yAnd (yNle aank (nat_lit 80)) (yNle aanv (nat_lit 80)))))) = true → (yNle (yNadd (nat_lit 0) (rN (shrL (0 : Int) (0 : Int) (0 : Int) pps ppv ppi ppnk (fun (i : Nat) => ppk i) ppnv aas aav aai aank (fun (i : Nat) => aak i) aanv (aaw (nat_lit 0))))) (rN (shrL (0 : Int) (0 : Int) (0 : Int) pps ppv ppi ppnk (fun (i : Nat) => ppk i) ppnv aas aav aai aank (fun (i : Nat) => aak i) aanv (aaw (nat_lit 0)))) = true → ((yCol (CK.int IntKind.i64) (rN (shrL (0 : Int) (0 : Int) (0 : Int) pps ppv ppi ppnk (fun (i : Nat) => ppk i) ppnv aas aav aai aank (fun (i : Nat) => aak i) aanv (aaw (nat_lit 0)))) fun (i : Nat) => AV.y IntKind.i64 (rA (shrL (0 : Int) (0 : Int) (0 : Int) pps ppv ppi ppnk (fun (i : Nat) => ppk i) ppnv aas aav aai aank (fun (i : Nat) => aak i) aanv (aaw (nat_lit 0))) i)) = true → ((yCol (CK.int IntKind.u64) (rN (shrL (0 : Int) (0 : Int) (0 : Int) pps ppv ppi ppnk (fun (i : Nat) => ppk i) ppnv aas aav aai aank (fun (i : Nat) => aak i) aanv (aaw (nat_lit 0)))) fun (i : Nat) => AV.y IntKind.u64 (rB (shrL (0 : Int) (0 : Int) (0 : Int) pps ppv ppi ppnk (fun (i : Nat) => ppk i) ppnv aas aav aai aank (fun (i : Nat) => aak i) aanv (aaw (nat_lit 0))) i)) = true → (yNle (yNadd (nat_lit 0) (rN (shrL cs ct cf pps ppv ppi ppnk (fun (i : Nat) => ppk i) ppnv aas aav aai aank (fun (i : Nat) => aak i) aanv (aaw (nat_lit 0))))) (rN (shrL cs ct cf pps ppv ppi ppnk (fun (i : Nat) => ppk i) ppnv aas aav aai aank (fun (i : Nat) => aak i) aanv (aaw (nat_lit 0)))) = true → ((yCol (CK.int IntKind.i64) (rN (shrL cs ct cf pps ppv ppi ppnk (fun (i : Nat) => ppk i) ppnv aas aav aai aank (fun (i : Nat) => aak i) aanv (aaw (nat_lit 0)))) fun (i : Nat) => AV.y IntKind.i64 (rA (shrL cs ct cf pps ppv ppi ppnk (fun (i : Nat) => ppk i) ppnv aas aav aai aank (fun (i : Nat) => aak i) aanv (aaw (nat_lit 0))) i)) = true → ((yCol (CK.int IntKind.u64) (rN (shrL cs ct cf pps ppv ppi ppnk (fun (i : Nat) => ppk i) ppnv aas aav aai aank (fun (i : Nat) => aak i) aanv (aaw (nat_lit 0)))) fun (i : Nat) => AV.y IntKind.u64 (rB (shrL cs ct cf pps ppv ppi ppnk (fun (i : Nat) => ppk i) ppnv aas aav aai aank (fun (i : Nat) => aak i) aanv (aaw (nat_lit 0))) i)) = true → (yNle (rN (shrL (0 : Int) (0 : Int) (0 : Int) pps ppv ppi ppnk (fun (i : Nat) => ppk i) ppnv aas aav aai aank (fun (i : Nat) => aak i) aanv (aaw (nat_lit 0)))) (nat_lit 1000000) = true → ((sameW (rN (shrL (0 : Int) (0 : Int) (0 : Int) pps ppv ppi ppnk (fun (i : Nat) => ppk i) ppnv aas aav aai aank (fun (i : Nat) => aak i) aanv (aaw (nat_lit 0)))) (rN (shrL cs ct cf pps ppv ppi ppnk (fun (i : Nat) => ppk i) ppnv aas aav aai aank (fun (i : Nat) => aak i) aanv (aaw (nat_lit 0)))) (fun (i : Nat) => rA (shrL (0 : Int) (0 : Int) (0 : Int) pps ppv ppi ppnk (fun (i : Nat) => ppk i) ppnv aas aav aai aank (fun (i : Nat) => aak i) aanv (aaw (nat_lit 0))) i) (fun (i : Nat) => rB (shrL (0 : Int) (0 : Int) (0 : Int) pps ppv ppi ppnk (fun (i : Nat) => ppk i) ppnv aas aav aai aank (fun (i : Nat) => aak i) aanv (aaw (nat_lit 0))) i) (fun (i : Nat) => rA (shrL cs ct cf pps ppv ppi ppnk (fun (i : Nat) => ppk i) ppnv aas aav aai aank (fun (i : Nat) => aak i) aanv (aaw (nat_lit 0))) i) fun (i : Nat) => rB (shrL cs ct cf pps ppv ppi ppnk (fun (i : Nat) => ppk i) ppnv aas aav aai aank (fun (i : Nat) => aak i) aanv (aaw (nat_lit 0))) i) = true → true = true) ∧ ((sameW (rN (shrL (0 : Int) (0 : Int) (0 : Int) pps ppv ppi ppnk (fun (i : Nat) => ppk i) ppnv aas aav aai aank (fun (i : Nat) => aak i) aanv (aaw (nat_lit 0)))) (rN (shrL cs ct cf pps ppv ppi ppnk (fun (i : Nat) => ppk i) ppnv aas aav aai aank (fun (i : Nat) => aak i) aanv (aaw (nat_lit 0)))) (fun (i : Nat) => rA (shrL (0 : Int) (0 : Int) (0 : Int) pps ppv ppi ppnk (fun (i : Nat) => ppk i) ppnv aas aav aai aank (fun (i : Nat) => aak i) aanv (aaw (nat_lit 0))) i) (fun (i : Nat) => rB (shrL (0 : Int) (0 : Int) (0 : Int) pps ppv ppi ppnk (fun (i : Nat) => ppk i) ppnv aas aav aai aank (fun (i : Nat) => aak i) aanv (aaw (nat_lit 0))) i) (fun (i : Nat) => rA (shrL cs ct cf pps ppv ppi ppnk (fun (i : Nat) => ppk i) ppnv aas aav aai aank (fun (i : Nat) => aak i) aanv (aaw (nat_lit 0))) i) fun (i : Nat) => rB (shrL cs ct cf pps ppv ppi ppnk (fun (i : Nat) => ppk i) ppnv aas aav aai aank (fun (i : Nat) => aak i) aanv (aaw (nat_lit 0))) i) = false → true = false)) ∧ (yNle (rN (shrL (0 : Int) (0 : Int) (0 : Int) pps ppv ppi ppnk (fun (i : Nat) => ppk i) ppnv aas aav aai aank (fun (i : Nat) => aak i) aanv (aaw (nat_lit 0)))) (nat_lit 1000000) = false → False)) ∧ ((yCol (CK.int IntKind.u64) (rN (shrL cs ct cf pps ppv ppi ppnk (fun (i : Nat) => ppk i) ppnv aas aav aai aank (fun (i : Nat) => aak i) aanv (aaw (nat_lit 0)))) fun (i : Nat) => AV.y IntKind.u64 (rB (shrL cs ct cf pps ppv ppi ppnk (fun (i : Nat) => ppk i) ppnv aas aav aai aank (fun (i : Nat) => aak i) aanv (aaw (nat_lit 0))) i)) = false → False)) ∧ ((yCol (CK.int IntKind.i64) (rN (shrL cs ct cf pps ppv ppi ppnk (fun (i : Nat) => ppk i) ppnv aas aav aai aank (fun (i : Nat) => aak i) aanv (aaw (nat_lit 0)))) fun (i : Nat) => AV.y IntKind.i64 (rA (shrL cs ct cf pps ppv ppi ppnk (fun (i : Nat) => ppk i) ppnv aas aav aai aank (fun (i : Nat) => aak i) aanv (aaw (nat_lit 0))) i)) = false → False)) ∧ (yNle (yNadd (nat_lit 0) (rN (shrL cs ct cf pps ppv ppi ppnk (fun (i : Nat) => ppk i) ppnv aas aav aai aank (fun (i : Nat) => aak i) aanv (aaw (nat_lit 0))))) (rN (shrL cs ct cf pps ppv ppi ppnk (fun (i : Nat) => ppk i) ppnv aas aav aai aank (fun (i : Nat) => aak i) aanv (aaw (nat_lit 0)))) = false → False)) ∧ ((yCol (CK.int IntKind.u64) (rN (shrL (0 : Int) (0 : Int) (0 : Int) pps ppv ppi ppnk (fun (i : Nat) => ppk i) ppnv aas aav aai aank (fun (i : Nat) => aak i) aanv (aaw (nat_lit 0)))) fun (i : Nat) => AV.y IntKind.u64 (rB (shrL (0 : Int) (0 : Int) (0 : Int) pps ppv ppi ppnk (fun (i : Nat) => ppk i) ppnv aas aav aai aank (fun (i : Nat) => aak i) aanv (aaw (nat_lit 0))) i)) = false → False)) ∧ ((yCol (CK.int IntKind.i64) (rN (shrL (0 : Int) (0 : Int) (0 : Int) pps ppv ppi ppnk (fun (i : Nat) => ppk i) ppnv aas aav aai aank (fun (i : Nat) => aak i) aanv (aaw (nat_lit 0)))) fun (i : Nat) => AV.y IntKind.i64 (rA (shrL (0 : Int) (0 : Int) (0 : Int) pps ppv ppi ppnk (fun (i : Nat) => ppk i) ppnv aas aav aai aank (fun (i : Nat) => aak i) aanv (aaw (nat_lit 0))) i)) = false → False)) ∧ (yNle (yNadd (nat_lit 0) (rN (shrL (0 : Int) (0 : Int) (0 : Int) pps ppv ppi ppnk (fun (i : Nat) => ppk i) ppnv aas aav aai aank (fun (i : Nat) => aak i) aanv (aaw (nat_lit 0))))) (rN (shrL (0 : Int) (0 : Int) (0 : Int) pps ppv ppi ppnk (fun (i : Nat) => ppk i) ppnv aas aav aai aank (fun (i : Nat) => aak i) aanv (aaw (nat_lit 0)))) = false → False)) ∧ (yAnd (rightC cs ct cf cl cp) (yAnd (yAnd (yLe (0 : Int) ppv) (yLt ppv (18446744073709551616 : Int))) (yAnd (yAnd (yLe (0 : Int) aav) (yLt aav (18446744073709551616 : Int))) (yAnd (yAnd (yNle ppnk (nat_lit 80)) (yNle ppnv (nat_lit 80))) (yAnd (yNle aank (nat_lit 80)) (yNle aanv (nat_lit 80)))))) = false → False)) ∧ ((yCol (CK.int IntKind.u64) aanv fun (i : Nat) => AV.y IntKind.u64 (aaw i)) = false → False)) ∧ (yNle (yNadd (nat_lit 0) aanv) aanv = false → False)) ∧ ((yCol (CK.int IntKind.u64) aank fun (i : Nat) => AV.y IntKind.u64 (aak i)) = false → False)) ∧ (yNle (yNadd (nat_lit 0) aank) aank = false → False)) ∧ ((yCol (CK.int IntKind.u64) ppnv fun (i : Nat) => AV.y IntKind.u64 (ppw i)) = false → False)) ∧ (yNle (yNadd (nat_lit 0) ppnv) ppnv = false → False)) ∧ ((yCol (CK.int IntKind.u64) ppnk fun (i : Nat) => AV.y IntKind.u64 (ppk i)) = false → False)) ∧ (yNle (yNadd (nat_lit 0) ppnk) ppnk = false → False)) ∧ (yAnd (rightC (0 : Int) (0 : Int) (0 : Int) (0 : Int) (0 : Int)) (yAnd (yAnd (yLe (0 : Int) ppv) (yLt ppv (18446744073709551616 : Int))) (yAnd (yAnd (yLe (0 : Int) aav) (yLt aav (18446744073709551616 : Int))) (yAnd (yAnd (yNle ppnk (nat_lit 80)) (yNle ppnv (nat_lit 80))) (yAnd (yNle aank (nat_lit 80)) (yNle aanv (nat_lit 80)))))) = false → False)) ∧ ((yCol (CK.int IntKind.u64) aanv fun (i : Nat) => AV.y IntKind.u64 (aaw i)) = false → False)) ∧ (yNle (yNadd (nat_lit 0) aanv) aanv = false → False)) ∧ ((yCol (CK.int IntKind.u64) aank fun (i : Nat) => AV.y IntKind.u64 (aak i)) = false → False)) ∧ (yNle (yNadd (nat_lit 0) aank) aank = false → False)) ∧ ((yCol (CK.int IntKind.u64) ppnv fun (i : Nat) => AV.y IntKind.u64 (ppw i)) = false → False)) ∧ (yNle (yNadd (nat_lit 0) ppnv) ppnv = false → False)) ∧ ((yCol (CK.int IntKind.u64) ppnk fun (i : Nat) => AV.y IntKind.u64 (ppk i)) = false → False)) ∧ (yNle (yNadd (nat_lit 0) ppnk) ppnk = false → False)) ∧ (yNot (rightC cs ct cf cl cp) = false → (yNle (yNadd (nat_lit 0) ppnk) ppnk = true → ((yCol (CK.int IntKind.u64) ppnk fun (i : Nat) => AV.y IntKind.u64 (ppk i)) = true → (yNle (yNadd (nat_lit 0) ppnv) ppnv = true → ((yCol (CK.int IntKind.u64) ppnv fun (i : Nat) => AV.y IntKind.u64 (ppw i)) = true → (yNle (yNadd (nat_lit 0) aank) aank = true → ((yCol (CK.int IntKind.u64) aank fun (i : Nat) => AV.y IntKind.u64 (aak i)) = true → (yNle (yNadd (nat_lit 0) aanv) aanv = true → ((yCol (CK.int IntKind.u64) aanv fun (i : Nat) => AV.y IntKind.u64 (aaw i)) = true → (yAnd (rightC cs ct cf cl cp) (yAnd (yAnd (yLe (0 : Int) ppv) (yLt ppv (18446744073709551616 : Int))) (yAnd (yAnd (yLe (0 : Int) aav) (yLt aav (18446744073709551616 : Int))) (yAnd (yAnd (yNle ppnk (nat_lit 80)) (yNle ppnv (nat_lit 80))) (yAnd (yNle aank (nat_lit 80)) (yNle aanv (nat_lit 80)))))) = true → (yNle (yNadd (nat_lit 0) ppnk) ppnk = true → ((yCol (CK.int IntKind.u64) ppnk fun (i : Nat) => AV.y IntKind.u64 (ppk i)) = true → (yNle (yNadd (nat_lit 0) ppnv) ppnv = true → ((yCol (CK.int IntKind.u64) ppnv fun (i : Nat) => AV.y IntKind.u64 (ppw i)) = true → (yNle (yNadd (nat_lit 0) aank) aank = true → ((yCol (CK.int IntKind.u64) aank fun (i : Nat) => AV.y IntKind.u64 (aak i)) = true → (yNle (yNadd (nat_lit 0) aanv) aanv = true → ((yCol (CK.int IntKind.u64) aanv fun (i : Nat) => AV.y IntKind.u64 (aaw i)) = true → (yAnd (rightC cs ct cf cl cp) (yAnd (yAnd (yLe (0 : Int) ppv) (yLt ppv (18446744073709551616 : Int))) (yAnd (yAnd (yLe (0 : Int) aav) (yLt aav (18446744073709551616 : Int))) (yAnd (yAnd (yNle ppnk (nat_lit 80)) (yNle ppnv (nat_lit 80))) (yAnd (yNle aank (nat_lit 80)) (yNle aanv (nat_lit 80)))))) = true → (yNle (yNadd (nat_lit 0) (rN (shrL cs ct cf pps ppv ppi ppnk (fun (i : Nat) => ppk i) ppnv aas aav aai aank (fun (i : Nat) => aak i) aanv (aaw (nat_lit 0))))) (rN (shrL cs ct cf pps ppv ppi ppnk (fun (i : Nat) => ppk i) ppnv aas aav aai aank (fun (i : Nat) => aak i) aanv (aaw (nat_lit 0)))) = true → ((yCol (CK.int IntKind.i64) (rN (shrL cs ct cf pps ppv ppi ppnk (fun (i : Nat) => ppk i) ppnv aas aav aai aank (fun (i : Nat) => aak i) aanv (aaw (nat_lit 0)))) fun (i : Nat) => AV.y IntKind.i64 (rA (shrL cs ct cf pps ppv ppi ppnk (fun (i : Nat) => ppk i) ppnv aas aav aai aank (fun (i : Nat) => aak i) aanv (aaw (nat_lit 0))) i)) = true → ((yCol (CK.int IntKind.u64) (rN (shrL cs ct cf pps ppv ppi ppnk (fun (i : Nat) => ppk i) ppnv aas aav aai aank (fun (i : Nat) => aak i) aanv (aaw (nat_lit 0)))) fun (i : Nat) => AV.y IntKind.u64 (rB (shrL cs ct cf pps ppv ppi ppnk (fun (i : Nat) => ppk i) ppnv aas aav aai aank (fun (i : Nat) => aak i) aanv (aaw (nat_lit 0))) i)) = true → (yNle (yNadd (nat_lit 0) (rN (shrL cs ct cf pps ppv ppi ppnk (fun (i : Nat) => ppk i) ppnv aas aav aai aank (fun (i : Nat) => aak i) aanv (aaw (nat_lit 0))))) (rN (shrL cs ct cf pps ppv ppi ppnk (fun (i : Nat) => ppk i) ppnv aas aav aai aank (fun (i : Nat) => aak i) aanv (aaw (nat_lit 0)))) = true → ((yCol (CK.int IntKind.i64) (rN (shrL cs ct cf pps ppv ppi ppnk (fun (i : Nat) => ppk i) ppnv aas aav aai aank (fun (i : Nat) => aak i) aanv (aaw (nat_lit 0)))) fun (i : Nat) => AV.y IntKind.i64 (rA (shrL cs ct cf pps ppv ppi ppnk (fun (i : Nat) => ppk i) ppnv aas aav aai aank (fun (i : Nat) => aak i) aanv (aaw (nat_lit 0))) i)) = true → ((yCol (CK.int IntKind.u64) (rN (shrL cs ct cf pps ppv ppi ppnk (fun (i : Nat) => ppk i) ppnv aas aav aai aank (fun (i : Nat) => aak i) aanv (aaw (nat_lit 0)))) fun (i : Nat) => AV.y IntKind.u64 (rB (shrL cs ct cf pps ppv ppi ppnk (fun (i : Nat) => ppk i) ppnv aas aav aai aank (fun (i : Nat) => aak i) aanv (aaw (nat_lit 0))) i)) = true → (yNle (rN (shrL cs ct cf pps ppv ppi ppnk (fun (i : Nat) => ppk i) ppnv aas aav aai aank (fun (i : Nat) => aak i) aanv (aaw (nat_lit 0)))) (nat_lit 1000000) = true → ((sameW (rN (shrL cs ct cf pps ppv ppi ppnk (fun (i : Nat) => ppk i) ppnv aas aav aai aank (fun (i : Nat) => aak i) aanv (aaw (nat_lit 0)))) (rN (shrL cs ct cf pps ppv ppi ppnk (fun (i : Nat) => ppk i) ppnv aas aav aai aank (fun (i : Nat) => aak i) aanv (aaw (nat_lit 0)))) (fun (i : Nat) => rA (shrL cs ct cf pps ppv ppi ppnk (fun (i : Nat) => ppk i) ppnv aas aav aai aank (fun (i : Nat) => aak i) aanv (aaw (nat_lit 0))) i) (fun (i : Nat) => rB (shrL cs ct cf pps ppv ppi ppnk (fun (i : Nat) => ppk i) ppnv aas aav aai aank (fun (i : Nat) => aak i) aanv (aaw (nat_lit 0))) i) (fun (i : Nat) => rA (shrL cs ct cf pps ppv ppi ppnk (fun (i : Nat) => ppk i) ppnv aas aav aai aank (fun (i : Nat) => aak i) aanv (aaw (nat_lit 0))) i) fun (i : Nat) => rB (shrL cs ct cf pps ppv ppi ppnk (fun (i : Nat) => ppk i) ppnv aas aav aai aank (fun (i : Nat) => aak i) aanv (aaw (nat_lit 0))) i) = true → true = true) ∧ ((sameW (rN (shrL cs ct cf pps ppv ppi ppnk (fun (i : Nat) => ppk i) ppnv aas aav aai aank (fun (i : Nat) => aak i) aanv (aaw (nat_lit 0)))) (rN (shrL cs ct cf pps ppv ppi ppnk (fun (i : Nat) => ppk i) ppnv aas aav aai aank (fun (i : Nat) => aak i) aanv (aaw (nat_lit 0)))) (fun (i : Nat) => rA (shrL cs ct cf pps ppv ppi ppnk (fun (i : Nat) => ppk i) ppnv aas aav aai aank (fun (i : Nat) => aak i) aanv (aaw (nat_lit 0))) i) (fun (i : Nat) => rB (shrL cs ct cf pps ppv ppi ppnk (fun (i : Nat) => ppk i) ppnv aas aav aai aank (fun (i : Nat) => aak i) aanv (aaw (nat_lit 0))) i) (fun (i : Nat) => rA (shrL cs ct cf pps ppv ppi ppnk (fun (i : Nat) => ppk i) ppnv aas aav aai aank (fun (i : Nat) => aak i) aanv (aaw (nat_lit 0))) i) fun (i : Nat) => rB (shrL cs ct cf pps ppv ppi ppnk (fun (i : Nat) => ppk i) ppnv aas aav aai aank (fun (i : Nat) => aak i) aanv (aaw (nat_lit 0))) i) = false → true = false)) ∧ (yNle (rN (shrL cs ct cf pps ppv ppi ppnk (fun (i : Nat) => ppk i) ppnv aas aav aai aank (fun (i : Nat) => aak i) aanv (aaw (nat_lit 0)))) (nat_lit 1000000) = false → False)) ∧ ((yCol (CK.int IntKind.u64) (rN (shrL cs ct cf pps ppv ppi ppnk (fun (i : Nat) => ppk i) ppnv aas aav aai aank (fun (i : Nat) => aak i) aanv (aaw (nat_lit 0)))) fun (i : Nat) => AV.y IntKind.u64 (rB (shrL cs ct cf pps ppv ppi ppnk (fun (i : Nat) => ppk i) ppnv aas aav aai aank (fun (i : Nat) => aak i) aanv (aaw (nat_lit 0))) i)) = false → False)) ∧ ((yCol (CK.int IntKind.i64) (rN (shrL cs ct cf pps ppv ppi ppnk (fun (i : Nat) => ppk i) ppnv aas aav aai aank (fun (i : Nat) => aak i) aanv (aaw (nat_lit 0)))) fun (i : Nat) => AV.y IntKind.i64 (rA (shrL cs ct cf pps ppv ppi ppnk (fun (i : Nat) => ppk i) ppnv aas aav aai aank (fun (i : Nat) => aak i) aanv (aaw (nat_lit 0))) i)) = false → False)) ∧ (yNle (yNadd (nat_lit 0) (rN (shrL cs ct cf pps ppv ppi ppnk (fun (i : Nat) => ppk i) ppnv aas aav aai aank (fun (i : Nat) => aak i) aanv (aaw (nat_lit 0))))) (rN (shrL cs ct cf pps ppv ppi ppnk (fun (i : Nat) => ppk i) ppnv aas aav aai aank (fun (i : Nat) => aak i) aanv (aaw (nat_lit 0)))) = false → False)) ∧ ((yCol (CK.int IntKind.u64) (rN (shrL cs ct cf pps ppv ppi ppnk (fun (i : Nat) => ppk i) ppnv aas aav aai aank (fun (i : Nat) => aak i) aanv (aaw (nat_lit 0)))) fun (i : Nat) => AV.y IntKind.u64 (rB (shrL cs ct cf pps ppv ppi ppnk (fun (i : Nat) => ppk i) ppnv aas aav aai aank (fun (i : Nat) => aak i) aanv (aaw (nat_lit 0))) i)) = false → False)) ∧ ((yCol (CK.int IntKind.i64) (rN (shrL cs ct cf pps ppv ppi ppnk (fun (i : Nat) => ppk i) ppnv aas aav aai aank (fun (i : Nat) => aak i) aanv (aaw (nat_lit 0)))) fun (i : Nat) => AV.y IntKind.i64 (rA (shrL cs ct cf pps ppv ppi ppnk (fun (i : Nat) => ppk i) ppnv aas aav aai aank (fun (i : Nat) => aak i) aanv (aaw (nat_lit 0))) i)) = false → False)) ∧ (yNle (yNadd (nat_lit 0) (rN (shrL cs ct cf pps ppv ppi ppnk (fun (i : Nat) => ppk i) ppnv aas aav aai aank (fun (i : Nat) => aak i) aanv (aaw (nat_lit 0))))) (rN (shrL cs ct cf pps ppv ppi ppnk (fun (i : Nat) => ppk i) ppnv aas aav aai aank (fun (i : Nat) => aak i) aanv (aaw (nat_lit 0)))) = false → False)) ∧ (yAnd (rightC cs ct cf cl cp) (yAnd (yAnd (yLe (0 : Int) ppv) (yLt ppv (18446744073709551616 : Int))) (yAnd (yAnd (yLe (0 : Int) aav) (yLt aav (18446744073709551616 : Int))) (yAnd (yAnd (yNle ppnk (nat_lit 80)) (yNle ppnv (nat_lit 80))) (yAnd (yNle aank (nat_lit 80)) (yNle aanv (nat_lit 80)))))) = false → False)) ∧ ((yCol (CK.int IntKind.u64) aanv fun (i : Nat) => AV.y IntKind.u64 (aaw i)) = false → False)) ∧ (yNle (yNadd (nat_lit 0) aanv) aanv = false → False)) ∧ ((yCol (CK.int IntKind.u64) aank fun (i : Nat) => AV.y IntKind.u64 (aak i)) = false → False)) ∧ (yNle (yNadd (nat_lit 0) aank) aank = false → False)) ∧ ((yCol (CK.int IntKind.u64) ppnv fun (i : Nat) => AV.y IntKind.u64 (ppw i)) = false → False)) ∧ (yNle (yNadd (nat_lit 0) ppnv) ppnv = false → False)) ∧ ((yCol (CK.int IntKind.u64) ppnk fun (i : Nat) => AV.y IntKind.u64 (ppk i)) = false → False)) ∧ (yNle (yNadd (nat_lit 0) ppnk) ppnk = false → False)) ∧ (yAnd (rightC cs ct cf cl cp) (yAnd (yAnd (yLe (0 : Int) ppv) (yLt ppv (18446744073709551616 : Int))) (yAnd (yAnd (yLe (0 : Int) aav) (yLt aav (18446744073709551616 : Int))) (yAnd (yAnd (yNle ppnk (nat_lit 80)) (yNle ppnv (nat_lit 80))) (yAnd (yNle aank (nat_lit 80)) (yNle aanv (nat_lit 80)))))) = false → False)) ∧ ((yCol (CK.int IntKind.u64) aanv fun (i : Nat) => AV.y IntKind.u64 (aaw i)) = false → False)) ∧ (yNle (yNadd (nat_lit 0) aanv) aanv = false → False)) ∧ ((yCol (CK.int IntKind.u64) aank fun (i : Nat) => AV.y IntKind.u64 (aak i)) = false → False)) ∧ (yNle (yNadd (nat_lit 0) aank) aank = false → False)) ∧ ((yCol (CK.int IntKind.u64) ppnv fun (i : Nat) => AV.y IntKind.u64 (ppw i)) = false → False)) ∧ (yNle (yNadd (nat_lit 0) ppnv) ppnv = false → False)) ∧ ((yCol (CK.int IntKind.u64) ppnk fun (i : Nat) => AV.y IntKind.u64 (ppk i)) = false → False)) ∧ (yNle (yNadd (nat_lit 0) ppnk) ppnk = false → False))) ∧ (true = false → False))) ∧ (true = false → False)) ∧ ((yCol (CK.int IntKind.u64) ttnv fun (i : Nat) => AV.y IntKind.u64 (ttw i)) = false → False)) ∧ (yNle (yNadd (nat_lit 0) ttnv) ttnv = false → False)) ∧ ((yCol (CK.int IntKind.u64) ttnk fun (i : Nat) => AV.y IntKind.u64 (ttk i)) = false → False)) ∧ (yNle (yNadd (nat_lit 0) ttnk) ttnk = false → False)) ∧ ((yCol (CK.int IntKind.u64) ffnv fun (i : Nat) => AV.y IntKind.u64 (ffw i)) = false → False)) ∧ (yNle (yNadd (nat_lit 0) ffnv) ffnv = false → False)) ∧ ((yCol (CK.int IntKind.u64) ffnk fun (i : Nat) => AV.y IntKind.u64 (ffk i)) = false → False)) ∧ (yNle (yNadd (nat_lit 0) ffnk) ffnk = false → False)) ∧ ((yCol (CK.int IntKind.u64) bbnv fun (i : Nat) => AV.y IntKind.u64 (bbw i)) = false → False)) ∧ (yNle (yNadd (nat_lit 0) bbnv) bbnv = false → False)) ∧ ((yCol (CK.int IntKind.u64) bbnk fun (i : Nat) => AV.y IntKind.u64 (bbk i)) = false → False)) ∧ (yNle (yNadd (nat_lit 0) bbnk) bbnk = false → False)) ∧ ((yCol (CK.int IntKind.u64) aanv fun (i : Nat) => AV.y IntKind.u64 (aaw i)) = false → False)) ∧ (yNle (yNadd (nat_lit 0) aanv) aanv = false → False)) ∧ ((yCol (CK.int IntKind.u64) aank fun (i : Nat) => AV.y IntKind.u64 (aak i)) = false → False)) ∧ (yNle (yNadd (nat_lit 0) aank) aank = false → False)) ∧ ((yCol (CK.int IntKind.u64) ppnv fun (i : Nat) => AV.y IntKind.u64 (ppw i)) = false → False)) ∧ (yNle (yNadd (nat_lit 0) ppnv) ppnv = false → False)) ∧ ((yCol (CK.int IntKind.u64) ppnk fun (i : Nat) => AV.y IntKind.u64 (ppk i)) = false → False)) ∧ (yNle (yNadd (nat_lit 0) ppnk) ppnk = false → False))
set_option maxRecDepth 100000 in
theorem goalPsh_eq : goalPsh = goalPshV := by kernel_rfl
set_option maxRecDepth 100000 in
set_option maxHeartbeats 4000000 in
theorem goalPsh_vc : goalPshV := by
  unfold goalPshV
  intro cs ct cf cl cp pps ppv ppi ppkn ppnk ppk ppvn ppnv ppw ppl aas aav aai aakn aank aak aavn aanv aaw aal bbs bbv bbi bbkn bbnk bbk bbvn bbnv bbw bbl ffs ffv ffi ffkn ffnk ffk ffvn ffnv ffw ffl tts ttv tti ttkn ttnk ttk ttvn ttnv ttw ttl xi xk xw h1 h2
  have hU1 := h1
  have hU2 := h2
  simp only [yNot_t, yNot_f, yAnd_t, yAnd_f, yLt_t, yLt_f, yLe_t, yLe_f, yNle_t, yNle_f, yNadd_e, yCol_int, and_true, Nat.zero_add, Nat.le_refl, forall_const, Bool.true_eq_false, false_implies]
  cases hs : smallC cs ct cf cl cp ppnk ppnv aank aanv bbnk bbnv ffnk ffnv ttnk ttnv with
  | false => simp
  | true =>
    unfold smallC at hs
    rw [decide_eq_true_iff] at hs
    have hr := hs.2.2.2.2.2.1
    have hv1 := h1
    have hv2 := h2
    simp only [yAnd_t, yLe_t, yLt_t] at hv1 hv2
    have hlen := @shr_len
    simp only [hr, Bool.true_eq_false, false_implies, true_implies, true_and, false_or]
    repeat' (first | apply And.intro | intro _)
    all_goals first
      | trivial
      | omega
      | exact hlen
      | assumption
      | (exfalso; omega)
      | exact sameW_no ‹_›
      | exact absurd ‹1000000 < rN _› (Nat.not_lt.2 shr_len)
set_option maxRecDepth 100000 in
theorem goalPsh_tt : (goalPsh) = True := goalPsh_eq.trans (eq_true goalPsh_vc)
theorem goalPsh_ok : goalPsh := @ft' goalPsh goalPsh_tt
set_option maxRecDepth 100000 in
set_option maxHeartbeats 4000000 in
theorem fSmall_inv {ds : List Da} {a : AV} (h : fSmall ds = some (true, a)) : ∃ (cs ct cf cl cp : Int) (pps ppv : Int) (ppi ppkn : Bool) (ppnk : Nat) (ppk : Nat → Int) (ppvn : Bool) (ppnv : Nat) (ppw : Nat → Int) (ppl : Int) (aas aav : Int) (aai aakn : Bool) (aank : Nat) (aak : Nat → Int) (aavn : Bool) (aanv : Nat) (aaw : Nat → Int) (aal : Int) (bbs bbv : Int) (bbi bbkn : Bool) (bbnk : Nat) (bbk : Nat → Int) (bbvn : Bool) (bbnv : Nat) (bbw : Nat → Int) (bbl : Int) (ffs ffv : Int) (ffi ffkn : Bool) (ffnk : Nat) (ffk : Nat → Int) (ffvn : Bool) (ffnv : Nat) (ffw : Nat → Int) (ffl : Int) (tts ttv : Int) (tti ttkn : Bool) (ttnk : Nat) (ttk : Nat → Int) (ttvn : Bool) (ttnv : Nat) (ttw : Nat → Int) (ttl : Int) (xi xk xw : Int), ds = dParts cs ct cf cl cp pps ppv ppi ppkn ppnk ppk ppvn ppnv ppw ppl aas aav aai aakn aank aak aavn aanv aaw aal bbs bbv bbi bbkn bbnk bbk bbvn bbnv bbw bbl ffs ffv ffi ffkn ffnk ffk ffvn ffnv ffw ffl tts ttv tti ttkn ttnk ttk ttvn ttnv ttw ttl xi xk xw ∧ a = .yb (smallC cs ct cf cl cp ppnk ppnv aank aanv bbnk bbnv ffnk ffnv ttnk ttnv) := by
  unfold fSmall at h
  split at h
  case h_2 => cases h
  unfold fSm1 at h
  split at h
  case h_2 => cases h
  rename_i e0
  split at h
  case h_2 => cases h
  rename_i p _ e1
  split at h
  case h_2 => cases h
  rename_i a2 _ e2
  split at h
  case h_2 => cases h
  rename_i b _ e3
  split at h
  case h_2 => cases h
  rename_i f _ e4
  split at h
  case h_2 => cases h
  rename_i t _ e5
  split at h
  case h_2 => cases h
  rename_i x e6
  simp only [Option.some.injEq, Prod.mk.injEq, true_and] at h
  subst h
  obtain rfl := pTail_inv e6
  obtain rfl := pPart_inv e5
  obtain rfl := pPart_inv e4
  obtain rfl := pPart_inv e3
  obtain rfl := pPart_inv e2
  obtain rfl := pPart_inv e1
  obtain rfl := pConf_inv e0
  exact ⟨_, _, _, _, _, p.s, p.v, p.i, p.kn, p.nk, p.k, p.vn, p.nv, p.w, p.l, a2.s, a2.v, a2.i, a2.kn, a2.nk, a2.k, a2.vn, a2.nv, a2.w, a2.l, b.s, b.v, b.i, b.kn, b.nk, b.k, b.vn, b.nv, b.w, b.l, f.s, f.v, f.i, f.kn, f.nk, f.k, f.vn, f.nv, f.w, f.l, t.s, t.v, t.i, t.kn, t.nk, t.k, t.vn, t.nv, t.w, t.l, x.1, x.2.1, x.2.2, rfl, rfl⟩
set_option maxRecDepth 100000 in
set_option maxHeartbeats 4000000 in
theorem smSmall (hm : Tryd.prog.follows .mixedOrders = true) : SmCall Tryd.prog 16 (fun args h => (ctS [.agg cParts] fSmall args h).sel) := by
  refine ctS_ok (gs := [.agg cParts]) (F := fSmall) (sm := smL lSmall) hm (smL_ok (l := lSmall) ⟨smWrong hm, trivial⟩) (by decide) ?_
  intro ds a h
  obtain ⟨cs, ct, cf, cl, cp, pps, ppv, ppi, ppkn, ppnk, ppk, ppvn, ppnv, ppw, ppl, aas, aav, aai, aakn, aank, aak, aavn, aanv, aaw, aal, bbs, bbv, bbi, bbkn, bbnk, bbk, bbvn, bbnv, bbw, bbl, ffs, ffv, ffi, ffkn, ffnk, ffk, ffvn, ffnv, ffw, ffl, tts, ttv, tti, ttkn, ttnk, ttk, ttvn, ttnv, ttw, ttl, xi, xk, xw, rfl, rfl⟩ := fSmall_inv h
  exact ⟨_, 1000, @goalSmall_ok cs ct cf cl cp pps ppv ppi ppkn ppnk ppk ppvn ppnv ppw ppl aas aav aai aakn aank aak aavn aanv aaw aal bbs bbv bbi bbkn bbnk bbk bbvn bbnv bbw bbl ffs ffv ffi ffkn ffnk ffk ffvn ffnv ffw ffl tts ttv tti ttkn ttnk ttk ttvn ttnv ttw ttl xi xk xw⟩
set_option maxRecDepth 100000 in
theorem smSame (hm : Tryd.prog.follows .mixedOrders = true) : SmCall Tryd.prog 18 (fun args h => (ctS gSame fSame args h).sel) :=
  ctS_ok hm noSm_ok (by decide) (fun ds a h => by
    unfold fSame at h
    split at h
    · simp only [Option.some.injEq, Prod.mk.injEq] at h
      obtain ⟨h1, rfl⟩ := h
      exact ⟨_, 1000, @goalSame_ok _ _ _ _ _ _ _ _ h1⟩
    · cases h)
set_option maxRecDepth 100000 in
theorem smVer (hm : Tryd.prog.follows .mixedOrders = true) : SmCall Tryd.prog 53 (fun args h => (ctS gL1 (fL1 verC) args h).sel) := smL1 (f := 53) (F := verC) hm @goalVer_ok
set_option maxRecDepth 100000 in
theorem smVal (hm : Tryd.prog.follows .mixedOrders = true) : SmCall Tryd.prog 52 (fun args h => (ctS gL2 (fL2 valC) args h).sel) := smL2 (f := 52) (F := valC) hm @goalVal_ok
set_option maxRecDepth 100000 in
theorem smVerR (hm : Tryd.prog.follows .mixedOrders = true) : SmCall Tryd.prog 98 (fun args h => (ctS gL1 (fR1 verC) args h).sel) := smR1 (f := 98) (F := verC) hm @goalVerR_ok
set_option maxRecDepth 100000 in
theorem smValR (hm : Tryd.prog.follows .mixedOrders = true) : SmCall Tryd.prog 63 (fun args h => (ctS gL2 (fR2 valC) args h).sel) := smR2 (f := 63) (F := valC) hm @goalValR_ok
set_option maxRecDepth 100000 in
theorem smKill (hm : Tryd.prog.follows .mixedOrders = true) : SmCall Tryd.prog 54 (fun args h => (ctS gW (fW killC) args h).sel) := smW (f := 54) (F := killC) hm @goalKill_ok
set_option maxRecDepth 100000 in
theorem smBump (hm : Tryd.prog.follows .mixedOrders = true) : SmCall Tryd.prog 90 (fun args h => (ctS gW (fW bumpC) args h).sel) := smW (f := 90) (F := bumpC) hm @goalBump_ok
set_option maxRecDepth 100000 in
theorem smKillR (hm : Tryd.prog.follows .mixedOrders = true) : SmCall Tryd.prog 99 (fun args h => (ctS gW (fW killC) args h).sel) := smW (f := 99) (F := killC) hm @goalKillR_ok
set_option maxRecDepth 100000 in
theorem smBumpR (hm : Tryd.prog.follows .mixedOrders = true) : SmCall Tryd.prog 100 (fun args h => (ctS gW (fW bumpC) args h).sel) := smW (f := 100) (F := bumpC) hm @goalBumpR_ok
set_option maxRecDepth 100000 in
theorem smFitsX (hm : Tryd.prog.follows .mixedOrders = true) : SmCall Tryd.prog 95 (fun args h => (ctS gFits fFits args h).sel) :=
  ctS_ok hm noSm_ok (by decide) (fun ds a hd => by
    unfold fFits at hd
    split at hd
    · simp only [Option.some.injEq, Prod.mk.injEq] at hd
      obtain ⟨h1, rfl⟩ := hd
      rename_i inner nilk nk kf nilv nv vf link fan
      exact ⟨annFits nk kf, 1000, @goalFits_ok inner nilk nk kf nilv nv vf link fan h1⟩
    · cases hd)
set_option maxRecDepth 100000 in
theorem smFitsRX (hm : Tryd.prog.follows .mixedOrders = true) : SmCall Tryd.prog 62 (fun args h => (ctS gFits fFits args h).sel) :=
  ctS_ok hm noSm_ok (by decide) (fun ds a hd => by
    unfold fFits at hd
    split at hd
    · simp only [Option.some.injEq, Prod.mk.injEq] at hd
      obtain ⟨h1, rfl⟩ := hd
      rename_i inner nilk nk kf nilv nv vf link fan
      exact ⟨annFitsR nk kf, 1000, @goalFitsR_ok inner nilk nk kf nilv nv vf link fan h1⟩
    · cases hd)
set_option maxRecDepth 100000 in
theorem lShr_ok (hm : Tryd.prog.follows .mixedOrders = true) : SmAll Tryd.prog lShr :=
  ⟨smRight hm, smWrong hm, smVer hm, smVal hm, smVerR hm, smValR hm, smKill hm, smBump hm, smKillR hm, smBumpR hm, smFitsX hm, smFitsRX hm, trivial⟩
set_option maxRecDepth 100000 in
theorem smShr {f : FuncId} (hm : Tryd.prog.follows .mixedOrders = true) (hg : goalShr Tryd.prog f) : SmCall Tryd.prog f (fun args h => (ctX [sConf, sPart, sPart] ownW fShr args h).sel) :=
  ctX_ok hm (smL_ok (lShr_ok hm)) (fun ds r post h => by
    unfold fShr at h
    split at h
    · simp only [Option.some.injEq, Prod.mk.injEq] at h
      obtain ⟨h1, rfl, rfl⟩ := h
      simp only [yAnd_t] at h1
      obtain ⟨q1, q2, q3, q4, q5⟩ := h1
      exact ⟨_, 1000, @hg _ _ _ _ _ _ _ _ _ _ _ _ _ _ _ _ _ _ _ _ _ _ _ _ _ _ q1 q2 q3 (by simp only [yAnd_t]; exact q4) (by simp only [yAnd_t]; exact q5) rfl⟩
    · cases h)
set_option maxRecDepth 100000 in
theorem lPsh_ok (hm : Tryd.prog.follows .mixedOrders = true) (ha : SmCall Tryd.prog 17 (smB true)) : SmAll Tryd.prog lPsh :=
  ⟨smRight hm, smSmall hm, smShr hm @goalShrP_ok, smShr hm @goalShrR_ok, smSame hm, ha, trivial⟩
end Go.Proofs.YtfpokmglhaenaaaDoor.Ex
